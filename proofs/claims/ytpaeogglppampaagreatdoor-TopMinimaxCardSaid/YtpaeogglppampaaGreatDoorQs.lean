/- Lemmas of the proof. Conditions: as each one states. -/
import Derived.Test.YtpaeogglppampaaGreatDoorQo
import Derived.Sort.Grow
set_option maxRecDepth 100000
set_option maxHeartbeats 16000000
namespace Go.Proofs.YtpaeogglppampaaGreatDoor
open Go.RowKit
section
open Go.Sort
def GY {m:Nat} (x:Fin m):Value:=.int .i64 (x.val:Nat)
theorem Kz (W:World) (x y:Value) (t:TypeId):(W.alloc (.cells #[x,y] t)).drew.cell? ⟨W.heap.size,0,none⟩=some x∧(W.alloc (.cells #[x,y] t)).drew.cell? ⟨W.heap.size,1,none⟩=some y:=by
 have h:=heap_alloc_new W (.cells #[x,y] t);constructor
 ·show(W.alloc (.cells #[x,y] t)).cell? _=_;simp only[World.cell?,h];rfl
 ·show(W.alloc (.cells #[x,y] t)).cell? _=_;simp only[World.cell?,h];rfl
theorem Ws (E:List Ed) (bl B:Nat) (a:Option Addr) (cap:Nat) (A:Nat→Addr) (i j:Nat) (W:World) (hb:W.cell? ⟨bl,0,none⟩=some (.slice a E.length cap)) (hE:ES W B (.slice a E.length cap) E A) (hi:i<E.length) (hj:j<E.length):
  Calls Tryz.prog 191 #[.int .i64 (i:Nat),.int .i64 (j:Nat),.pointer (some ⟨bl,0,none⟩)] W λe w'=>e=.returned (.int .i64 (SA E i j))∧∃q os',w'=grow (W.drewN q) os':=by
 have i1:=hE.ix i hi;have i2:=hE.ix j hj;have c1:=ES.w hE hi;have c2:=ES.w hE hj;have H1:=jh (Ag (aR E i).w (aR E j).w W.drew);have H2:=jh (EL (i:Int) (j:Int) W.drew);obtain⟨r,hr⟩:=nE (SA E i j);have HR:=jh hr;have hrr:(if dz (aR E i).w (aR E j).w=0 then dz (i:Int) (j:Int) else dz (aR E i).w (aR E j).w)=r:=hr;have HO:=jh (fun(W2:World) h0 h1=>Qb W.heap.size (dz (aR E i).w (aR E j).w) (dz (i:Int) (j:Int)) r W2 hrr h0 h1);have HS:W.drew.cell? ⟨bl,0,none⟩=some (.slice a E.length cap)∧W.drew.cell? ⟨(A i).block,(A i).off+2,none⟩=some (.int .i64 (aR E i).w)∧W.drew.cell? ⟨(A j).block,(A j).off+2,none⟩=some (.int .i64 (aR E j).w):=⟨hb,c1,c2⟩;have hki:(0:Int)≤i∧(i:Int)<E.length:=om;have hkj:(0:Int)≤j∧(j:Int)<E.length:=om;clear hE hr hrr hb c1 c2;generalize dz (aR E i).w (aR E j).w=x at*;generalize dz (i:Int) (j:Int)=y at*;go_in;go_wp2;refine aj (λw'=>w'.cell? ⟨bl,0,none⟩=some (.slice a E.length cap)∧w'.cell? ⟨(A i).block,(A i).off+2,none⟩=some (.int .i64 (aR E i).w)∧w'.cell? ⟨(A j).block,(A j).off+2,none⟩=some (.int .i64 (aR E j).w)) (by kernel_rfl) ?_;refine tC 0 ?_;refine tC 1 ?_;refine tC 2 ?_;refine tC 3 ?_;refine tC 4 ?_;refine tC 5 ?_;refine tC 6 ?_;refine tC 7 ?_;refine tC 8 ?_;refine tC 9 ?_;refine tC 11 ?_;refine tC 12 ?_
 try simp only[sD]
 refine rC 10 λK hK=>?_;go_simp;apply mO H1;rintro e w' ⟨rfl,rfl⟩;dsimp only;refine hK.out _ _ HS (λ_=>?_);clear hK;refine rC 13 λK hK=>?_;go_simp;apply mO H2;rintro e w' ⟨rfl,rfl⟩;dsimp only;refine hK.out _ _ HS (λ_=>?_);clear hK
 have HN:(W.alloc (.cells #[.int .i64 x,.int .i64 y] 3)).drew.cell? ⟨bl,0,none⟩=some (.slice a E.length cap)∧(W.alloc (.cells #[.int .i64 x,.int .i64 y] 3)).drew.cell? ⟨(A i).block,(A i).off+2,none⟩=some (.int .i64 (aR E i).w)∧(W.alloc (.cells #[.int .i64 x,.int .i64 y] 3)).drew.cell? ⟨(A j).block,(A j).off+2,none⟩=some (.int .i64 (aR E j).w):=
  ⟨(World.cell?_alloc_some W _ _ (by rw[show W.cell? _=_ from HS.1];rfl)).trans HS.1,(World.cell?_alloc_some W _ _ (by rw[show W.cell? _=_ from HS.2.1];rfl)).trans HS.2.1,(World.cell?_alloc_some W _ _ (by rw[show W.cell? _=_ from HS.2.2];rfl)).trans HS.2.2⟩
 have hnew:=Kz W (.int .i64 x) (.int .i64 y) 3;have eG:=jh (HO.out (W.alloc (.cells #[.int .i64 x,.int .i64 y] 3)).drew hnew.1 hnew.2);clear HO hnew;refine rC 14 λK hK=>?_;go_simp;refine hK.out _ _ HN (λ_=>?_);clear hK;refine rC 15 λK hK=>?_;go_simp;apply mO eG;rintro e w' ⟨rfl,rfl⟩;dsimp only;refine hK.out _ _ HN (λHS=>?_);clear hK;refine tC 16 ?_
 try simp only[sD]
 refine dD ⟨rfl,?_⟩;go_wp2;go_ret;refine⟨by rw[HR.out];rfl,1,#[.cells #[.int .i64 x,.int .i64 y] 3],?_⟩;rw[←alloc_eq_grow];rfl
end
end Go.Proofs.YtpaeogglppampaaGreatDoor
