/- Lemmas of the proof. Conditions: as each one states. -/
import Derived.Test.YtpaeogglppampaaGreatDoorQh
import Derived.Test.YtpaeogglppampaaGreatDoorQB
set_option maxRecDepth 100000
set_option maxHeartbeats 16000000
namespace Go.Proofs.YtpaeogglppampaaGreatDoor
open Go.RowKit
section
open Go.Shelf
theorem H8 (x:Nat) (w:World) (h:x≤4096):Calls Tryz.prog 118 #[.int .u64 (x:Nat)] w λe w'=>(∃v,e=.returned v)∧w'=w:=
 (Any.bits_Len Tryz.lenA x w om om).mono λe w' h=>⟨⟨_,h.1⟩,h.2⟩
theorem PX {base g cap n:Nat} {l:List Int} {w:World} (h:gy base (.slice (some ⟨g,0,none⟩) n cap) l w) (hn:l.length=n) (hb:n≤12) (d:Value):
  Calls Tryz.prog 216 #[.slice (some ⟨g,0,none⟩) n cap,.int .i64 0,.int .i64 (n:Nat),d] w λe w'=>e=.returned (.tuple #[])∧∃l',l'.Perm l∧l'.Pairwise (·≤·)∧gy base (.slice (some ⟨g,0,none⟩) n cap) l' w'∧Off [g] w w':=by
 have H:=jh (QY h hn om);have bn:(0:Int)≤n∧(n:Int)≤12:=om;have d1:decide ((n:Int)≤12)=true:=dP om;have d2:decide (n≤12)=true:=dP hb;clear h hn hb;go_in;go_wp2
 go_loopg [1,2] 0 (λM av bv wr=>av=.int .i64 0∧bv=.int .i64 n∧Hid (wr=w))
 case atStart=>exact⟨rfl,rfl,jh rfl⟩
 case round=>
  obtain⟨rfl,rfl,hw⟩:=hrel;obtain rfl:=hw.out;clear hw;go_wp2_with fail;apply mO H;rintro e w1 ⟨rfl,h1⟩;go_wp2;refine bodyPost_ret (results_none rfl _ _ _) rfl ?_;exact⟨rfl,h1⟩
theorem KR {base g cap n:Nat} {l:List Int} {w:World} (h:gy base (.slice (some ⟨g,0,none⟩) n cap) l w) (hn:l.length=n) (hb:n≤12):
  Calls Tryz.prog 210 #[.slice (some ⟨g,0,none⟩) n cap] w λe w'=>e=.returned (.tuple #[])∧∃l',l'.Perm l∧l'.Pairwise (·≤·)∧gy base (.slice (some ⟨g,0,none⟩) n cap) l' w'∧Off [g] w w':=by
 have H:=jh (PX h hn hb);have HL:=jh (H8 n w om);have bn:(0:Int)≤n∧(n:Int)≤12:=om;clear h hn hb;go_in;go_wp2_with fail;apply mO HL;rintro e w1 ⟨⟨v,rfl⟩,rfl⟩;go_wp2_with fail;refine(H.out v).mono ?_;rintro e w2 ⟨rfl,h1⟩;go_wp2;go_end0;exact⟨rfl,h1⟩
end
end Go.Proofs.YtpaeogglppampaaGreatDoor
