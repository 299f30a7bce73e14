/- Lemmas of the proof. Conditions: as each one states. -/
import Derived.Test.YtpaeogglppampaaGreatDoorQz
import Derived.Test.YtpaeogglppampaaGreatDoorQS
set_option maxRecDepth 100000
set_option maxHeartbeats 16000000
namespace Go.Proofs.YtpaeogglppampaaGreatDoor
open Go.RowKit
section
variable {w w':World} {B fb n z tb tr mb p q:Nat} {b:fF} {E:List Ed} {o:List Nat} {v:Value}
theorem wT (r1:Row w fb 1 (λi=>(#[Value.pointer (some ⟨tr,0,none⟩)]:Array Value).getD i undef)) (r2:Row w tr 9 (λi=>(mxV n z b tb v mb).getD i undef)) (hp:p<n) (hn:n≤4096):
  Calls Tryz.prog 64 #[.pointer (some ⟨fb,0,none⟩),.int .i64 (p:Nat)] w λe w'=>e=.returned (.bool true)∧w'=w:=by
 have c0:w.cell? ⟨fb,0,none⟩=some (.pointer (some ⟨tr,0,none⟩)):=r1.c 0;have c1:w.cell? ⟨tr,1,none⟩=some (.int .i64 n):=r2.c 1;have d1:decide ((p:Int)≥0)=true:=dP om;have d2:decide (0≤(p:Int))=true:=dP om;have d3:decide ((p:Int)<(n:Int))=true:=dP om;clear r1 r2;go_in
 go_wp2
 go_ret;exact⟨rfl,rfl⟩
theorem zJ {x:Int} {y:Bool} (r1:Row w fb 1 (λi=>(#[Value.pointer (some ⟨tr,0,none⟩)]:Array Value).getD i undef)) (r2:Row w tr 9 (λi=>(mxV n z b tb v mb).getD i undef)) (ta:TabAt w B tb (pT E (aH E o) n)) (hB:B≤w.heap.size) (hT:qw w)
  (hp:p<n) (hq:q<n) (hn:n≤4096) (hne:p≠q) (hx:TW (pT E (aH E o) n) p q=x) (hy:NN (pT E (aH E o) n) p q=y):
  Calls Tryz.prog 65 #[.pointer (some ⟨fb,0,none⟩),.int .i64 (p:Nat),.int .i64 (q:Nat)] w λe w'=>e=.returned (.tuple #[.int .i64 x,.bool y])∧Below w.heap.size w w':=by
 have HC:=jh (He tb B (pT E (aH E o) n) p q w ta hB hT);rw[hx,hy] at HC;have HP:=jh (wT r1 r2 hp hn);have HQ:=jh (wT r1 r2 hq hn);have c0:w.cell? ⟨fb,0,none⟩=some (.pointer (some ⟨tr,0,none⟩)):=r1.c 0;have c1:w.cell? ⟨tr,0,none⟩=some (.pointer (some ⟨tb,0,none⟩)):=r2.c 0
 have e1:((p:Int)==(q:Int))=false:=by simp;omega
 have e2:decide ((p:Int)=(q:Int))=false:=dF om;clear r1 r2 ta hx hy hT;go_in;go_wp2_with fail;apply mO HP;rintro e w' ⟨rfl,rfl⟩;go_wp2_with fail;apply mO HQ;rintro e w' ⟨rfl,rfl⟩;go_wp2_with fail;apply mO HC;rintro e w' ⟨rfl,hb⟩
 go_wp2
 go_ret2;exact⟨rfl,hb⟩
theorem Qn (h:tN w B fb n E) (hB:B≤w.heap.size) (hT:qw w) (hp:p<n) (hq:q<n) (hne:p≠q):
  Calls Tryz.prog 28 #[.pointer (some ⟨fb,0,none⟩),.int .i64 (p:Nat),.int .i64 (q:Nat)] w λe w'=>∃θ ok,e=.returned (.tuple #[.int .i64 θ,.bool ok])∧Ij E p q θ ok∧Below w.heap.size w w':=by
 obtain⟨z,b,tb,tr,o,v,mb,G,ho,r1,r2,ta,tA,l1,l2⟩:=h;have hn:=G.qK;have hlen:(pT E (aH E o) n).length=n+(aH E o).length:=cK _ _ _;have hip:vK (pT E (aH E o) n) p=true:=fJ.2 ⟨p,rfl,om⟩;have hiq:vK (pT E (aH E o) n) q=true:=fJ.2 ⟨q,rfl,om⟩;obtain⟨ev,eb⟩:=Sj hip hiq;have HP:=jh (wT r1 r2 hp hn)
 have e1:((p:Int)==(q:Int))=false:=by simp;omega
 have e2:decide ((p:Int)=(q:Int))=false:=dF om
 cases hc:com (pT E (aH E o) n) p q with
 |none=>
  rw[hc] at ev eb;have HM:=jh (zJ r1 r2 ta hB hT hp hq hn hne (x:=0) (y:=false) ev eb);have HR:=jh (Lp ho tA.fo hp hq hc);clear r1 r2 ta tA ho G hc ev eb hip hiq hlen hT;go_in;go_wp2_with fail;apply mO HP;rintro e w' ⟨rfl,rfl⟩;go_wp2_with fail;apply mO HM;rintro e w1 ⟨rfl,b1⟩
  go_wp2
  go_ret2;exact⟨_,_,rfl,HR.out,b1⟩
 |some c=>
  rw[hc] at ev eb;have HM:=jh (zJ r1 r2 ta hB hT hp hq hn hne (x:=(c:Int)) (y:=true) ev eb);obtain⟨m,hcn,hcl⟩:=Lm ho tA.fo hp hq hne hc;have hz:=tA.pU;have hcz:c<z:=om;obtain⟨hh,Gy⟩:=nE (hgt E (aH E o) n c);have HR:=jh m;rw[Gy] at HR
  have HK:=jh (fun(W:World) (hb:Below w.heap.size w W)=>(show W.cell? ⟨fb,0,none⟩=some (.pointer (some ⟨tr,0,none⟩))∧W.cell? ⟨tr,5,none⟩=some (.slice (some ⟨b.h,0,none⟩) z z)∧W.cell? ⟨b.h,c,none⟩=some (.int .i64 hh) from
   ⟨(r1.below hb om).c 0,(r2.below hb om).c 5,by
    have k:=(tA.rh.below hb (oC tA.lo.2.2.2.1)).cell (i:=c) hcz;rw[dJ,IZ hcl,Gy] at k
    exact k⟩))
  have hci:(0:Int)≤c∧(c:Int)<z:=om;clear r1 r2 ta tA ho G hc ev eb hip hiq hlen hT m Gy hcn hcl;go_in;go_wp2_with fail;apply mO HP;rintro e w' ⟨rfl,rfl⟩;go_wp2_with fail;apply mO HM;rintro e w1 ⟨rfl,b1⟩;obtain⟨k0,k1,k2⟩:=HK.out w1 b1;clear HK HP HM hz
  go_wp2
  go_ret2;exact⟨_,_,rfl,HR.out,b1⟩
end
end Go.Proofs.YtpaeogglppampaaGreatDoor
