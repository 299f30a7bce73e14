/- Lemmas of the proof. Conditions: as each one states. -/
import Derived.Test.YtpaeogglppampaaGreatQK
set_option maxRecDepth 100000
set_option maxHeartbeats 16000000
namespace Go.Proofs.YtpaeogglppampaaGreat
open Go.RowKit
def yt (W E V D:Int):Bool:=decide (1≤W)&&(decide (1≤E)&&(decide (E≤16384)&&(decide (2≤V)&&(decide (V≤4096)&&(decide (0≤D)&&decide (D≤16384))))))
section
variable {w:World}
theorem WK (W E V D:Int) (h0:¬(1≤W)):
  Calls Tryz.prog 38 #[.agg #[.int .i64 W,.int .i64 E,.int .i64 V,.int .i64 D]] w λe w'=>e=.returned (.bool false)∧Off [] w w':=by
 have d0:decide (W≥1)=false:=dF h0;have e0:decide (1≤W)=false:=dF h0;clear h0;go_in;go_wp2;go_ret;exact⟨rfl,(Off.refl _ _).alloc _⟩
theorem WJ (W E V D:Int) (h0:1≤W) (h1:¬(1≤E)):
  Calls Tryz.prog 38 #[.agg #[.int .i64 W,.int .i64 E,.int .i64 V,.int .i64 D]] w λe w'=>e=.returned (.bool false)∧Off [] w w':=by
 have d0:decide (W≥1)=true:=dP h0;have e0:decide (1≤W)=true:=dP h0;have d1:decide (E≥1)=false:=dF h1;have e1:decide (1≤E)=false:=dF h1;clear h0 h1;go_in;go_wp2;go_ret;exact⟨rfl,(Off.refl _ _).alloc _⟩
theorem WI (W E V D:Int) (h0:1≤W) (h1:1≤E) (h2:¬(E≤16384)):
  Calls Tryz.prog 38 #[.agg #[.int .i64 W,.int .i64 E,.int .i64 V,.int .i64 D]] w λe w'=>e=.returned (.bool false)∧Off [] w w':=by
 have d0:decide (W≥1)=true:=dP h0;have e0:decide (1≤W)=true:=dP h0;have d1:decide (E≥1)=true:=dP h1;have e1:decide (1≤E)=true:=dP h1;have d2:decide (E≤16384)=false:=dF h2;clear h0 h1 h2;go_in;go_wp2;go_ret;exact⟨rfl,(Off.refl _ _).alloc _⟩
theorem WH (W E V D:Int) (h0:1≤W) (h1:1≤E) (h2:E≤16384) (h3:¬(2≤V)):
  Calls Tryz.prog 38 #[.agg #[.int .i64 W,.int .i64 E,.int .i64 V,.int .i64 D]] w λe w'=>e=.returned (.bool false)∧Off [] w w':=by
 have d0:decide (W≥1)=true:=dP h0;have e0:decide (1≤W)=true:=dP h0;have d1:decide (E≥1)=true:=dP h1;have e1:decide (1≤E)=true:=dP h1;have d2:decide (E≤16384)=true:=dP h2;have d3:decide (V≥2)=false:=dF h3;have e3:decide (2≤V)=false:=dF h3;clear h0 h1 h2 h3;go_in;go_wp2;go_ret;exact⟨rfl,(Off.refl _ _).alloc _⟩
theorem WG (W E V D:Int) (h0:1≤W) (h1:1≤E) (h2:E≤16384) (h3:2≤V) (h4:¬(V≤4096)):
  Calls Tryz.prog 38 #[.agg #[.int .i64 W,.int .i64 E,.int .i64 V,.int .i64 D]] w λe w'=>e=.returned (.bool false)∧Off [] w w':=by
 have d0:decide (W≥1)=true:=dP h0;have e0:decide (1≤W)=true:=dP h0;have d1:decide (E≥1)=true:=dP h1;have e1:decide (1≤E)=true:=dP h1;have d2:decide (E≤16384)=true:=dP h2;have d3:decide (V≥2)=true:=dP h3;have e3:decide (2≤V)=true:=dP h3;have d4:decide (V≤4096)=false:=dF h4;clear h0 h1 h2 h3 h4;go_in;go_wp2;go_ret;exact⟨rfl,(Off.refl _ _).alloc _⟩
theorem WE (W E V D:Int) (h0:1≤W) (h1:1≤E) (h2:E≤16384) (h3:2≤V) (h4:V≤4096) (h5:¬(0≤D)):
  Calls Tryz.prog 38 #[.agg #[.int .i64 W,.int .i64 E,.int .i64 V,.int .i64 D]] w λe w'=>e=.returned (.bool false)∧Off [] w w':=by
 have d0:decide (W≥1)=true:=dP h0;have e0:decide (1≤W)=true:=dP h0;have d1:decide (E≥1)=true:=dP h1;have e1:decide (1≤E)=true:=dP h1;have d2:decide (E≤16384)=true:=dP h2;have d3:decide (V≥2)=true:=dP h3;have e3:decide (2≤V)=true:=dP h3;have d4:decide (V≤4096)=true:=dP h4;have d5:decide (D≥0)=false:=dF h5;have e5:decide (0≤D)=false:=dF h5;clear h0 h1 h2 h3 h4 h5;go_in;go_wp2;go_ret;exact⟨rfl,(Off.refl _ _).alloc _⟩
theorem WC (W E V D:Int) (h0:1≤W) (h1:1≤E) (h2:E≤16384) (h3:2≤V) (h4:V≤4096) (h5:0≤D) (h6:¬(D≤16384)):
  Calls Tryz.prog 38 #[.agg #[.int .i64 W,.int .i64 E,.int .i64 V,.int .i64 D]] w λe w'=>e=.returned (.bool false)∧Off [] w w':=by
 have d0:decide (W≥1)=true:=dP h0;have e0:decide (1≤W)=true:=dP h0;have d1:decide (E≥1)=true:=dP h1;have e1:decide (1≤E)=true:=dP h1;have d2:decide (E≤16384)=true:=dP h2;have d3:decide (V≥2)=true:=dP h3;have e3:decide (2≤V)=true:=dP h3;have d4:decide (V≤4096)=true:=dP h4;have d5:decide (D≥0)=true:=dP h5;have e5:decide (0≤D)=true:=dP h5;have d6:decide (D≤16384)=false:=dF h6;clear h0 h1 h2 h3 h4 h5 h6;go_in;go_wp2;go_ret;exact⟨rfl,(Off.refl _ _).alloc _⟩
theorem WB (W E V D:Int) (h0:1≤W) (h1:1≤E) (h2:E≤16384) (h3:2≤V) (h4:V≤4096) (h5:0≤D) (h6:D≤16384):
  Calls Tryz.prog 38 #[.agg #[.int .i64 W,.int .i64 E,.int .i64 V,.int .i64 D]] w λe w'=>e=.returned (.bool true)∧Off [] w w':=by
 have d0:decide (W≥1)=true:=dP h0;have e0:decide (1≤W)=true:=dP h0;have d1:decide (E≥1)=true:=dP h1;have e1:decide (1≤E)=true:=dP h1;have d2:decide (E≤16384)=true:=dP h2;have d3:decide (V≥2)=true:=dP h3;have e3:decide (2≤V)=true:=dP h3;have d4:decide (V≤4096)=true:=dP h4;have d5:decide (D≥0)=true:=dP h5;have e5:decide (0≤D)=true:=dP h5;have d6:decide (D≤16384)=true:=dP h6;clear h0 h1 h2 h3 h4 h5 h6;go_in;go_wp2;go_ret;exact⟨rfl,(Off.refl _ _).alloc _⟩
theorem zT (W E V D:Int):
  Calls Tryz.prog 38 #[.agg #[.int .i64 W,.int .i64 E,.int .i64 V,.int .i64 D]] w λe w'=>e=.returned (.bool (yt W E V D))∧Off [] w w':=by
 by_cases h0:1≤W
 rotate_left
 ·have hb:yt W E V D=false:=by unfold yt;simp[h0]
  rw[hb];exact WK W E V D  h0
 by_cases h1:1≤E
 rotate_left
 ·have hb:yt W E V D=false:=by unfold yt;simp[h0,h1]
  rw[hb];exact WJ W E V D h0 h1
 by_cases h2:E≤16384
 rotate_left
 ·have hb:yt W E V D=false:=by unfold yt;simp[h0,h1,h2]
  rw[hb];exact WI W E V D h0 h1 h2
 by_cases h3:2≤V
 rotate_left
 ·have hb:yt W E V D=false:=by unfold yt;simp[h0,h1,h2,h3]
  rw[hb];exact WH W E V D h0 h1 h2 h3
 by_cases h4:V≤4096
 rotate_left
 ·have hb:yt W E V D=false:=by unfold yt;simp[h0,h1,h2,h3,h4]
  rw[hb];exact WG W E V D h0 h1 h2 h3 h4
 by_cases h5:0≤D
 rotate_left
 ·have hb:yt W E V D=false:=by unfold yt;simp[h0,h1,h2,h3,h4,h5]
  rw[hb];exact WE W E V D h0 h1 h2 h3 h4 h5
 by_cases h6:D≤16384
 rotate_left
 ·have hb:yt W E V D=false:=by unfold yt;simp[h0,h1,h2,h3,h4,h5,h6]
  rw[hb];exact WC W E V D h0 h1 h2 h3 h4 h5 h6
 have hb:yt W E V D=true:=by unfold yt;simp[h0,h1,h2,h3,h4,h5,h6]
 rw[hb];exact WB W E V D h0 h1 h2 h3 h4 h5 h6
theorem OD (W E V D:Int) (h:yt W E V D=false):
  Calls Tryz.prog 19 #[.agg #[.int .i64 W,.int .i64 E,.int .i64 V,.int .i64 D],.int .u64 0] w λe w'=>e=.returned (.tuple #[.pointer none,.int .i64 2])∧Off [] w w':=by
 obtain⟨W0,hW0⟩:∃X,w.alloc (.cells #[.int .i64 W,.int .i64 E,.int .i64 V,.int .i64 D] 23)=X:=⟨_,rfl⟩;have O0:=jh (show Off [] w W0 by rw[←hW0];exact(Off.refl _ _).alloc _);have HC:=zT (w:=W0) W E V D;rw[h] at HC;have HC:=jh HC;have HW0:=jh hW0;clear hW0 h;go_in;go_wp2_with fail;rw[HW0.out];apply mO HC;rintro e w1 ⟨rfl,o1⟩;have O1:=jh (O0.out.trans o1 λj hj=>by cases hj);clear o1 HC;go_wp2;go_ret2;exact⟨rfl,O1.out⟩
theorem ajz (w:World):(binOp .neq 97 (.agg #[.int .i64 0,.int .i64 0,.int .i64 0,.int .i64 0]) (.agg #[.int .i64 0,.int .i64 0,.int .i64 0,.int .i64 0])).run Tryz.prog w=.ok (.bool false) w:=by kernel_rfl
end
section
variable {w:World} {c:Cf}
theorem OC (hc:Yo c) (hd:0≤c.dr∧c.dr≤16384):
  Calls Tryz.prog 19 #[.agg #[.int .i64 c.win,.int .i64 (c.E:Nat),.int .i64 (c.V:Nat),.int .i64 c.dr],.int .u64 0] w λe w'=>∃G,e=.returned (.tuple #[.pointer (some ⟨G.b,0,none⟩),.int .i64 0])∧tO w' G c 0 0 0 st0∧Bo [] (G.bl c.E) w w':=by
 have hcb:yt c.win c.E c.V c.dr=true:=by
  have h1:=hc.win;have h2:=hc.E;have h3:=hc.V;unfold Cw at h1;unfold yt;rw[dP (show 1≤c.win by omega),dP (show 1≤(c.E:Int) by omega),dP (show(c.E:Int)≤16384 by omega),dP (show 2≤(c.V:Int) by omega),dP (show(c.V:Int)≤4096 by omega),dP hd.1,dP hd.2];rfl
 obtain⟨B,hB⟩:=nE w.heap.size;obtain⟨W0,hW0⟩:∃X,w.alloc (.cells #[.int .i64 c.win,.int .i64 c.E,.int .i64 c.V,.int .i64 c.dr] 23)=X:=⟨_,rfl⟩
 have o0:Off [] w W0:=by rw[←hW0];exact(Off.refl _ _).alloc _
 have r0:Row W0 B 4 (λi=>(#[Value.int .i64 c.win,.int .i64 c.E,.int .i64 c.V,.int .i64 c.dr]:Array Value).getD i undef):=by
  rw[←hW0,←hB];exact Row.lit _ _ _ (Nat.le_refl _) lC
 have a0:W0.cell? ⟨B,0,none⟩=some (.int .i64 c.win):=r0.c 0;have a1:W0.cell? ⟨B,1,none⟩=some (.int .i64 c.E):=r0.c 1;have a2:W0.cell? ⟨B,2,none⟩=some (.int .i64 c.V):=r0.c 2;have a3:W0.cell? ⟨B,3,none⟩=some (.int .i64 c.dr):=r0.c 3;have HC:=zT (w:=W0) c.win c.E c.V c.dr;rw[hcb] at HC;have HC:=jh HC;have HW0:=jh hW0;have HB:=jh hB;have O0:=jh o0;have R0:=jh r0;have HCF:=jh hc;rw[←hW0] at a0 a1 a2 a3;clear hW0 hB o0 r0 hcb hd hc;go_in;go_wp2_with fail;rw[HW0.out,HB.out];apply mO HC;rintro e w1 ⟨rfl,o1⟩;have r1:=R0.out.of_block (o1.block B R0.out.lt sj);have b0:w1.cell? ⟨B,0,none⟩=some (.int .i64 c.win):=r1.c 0;have b1:w1.cell? ⟨B,1,none⟩=some (.int .i64 c.E):=r1.c 1;have b2:w1.cell? ⟨B,2,none⟩=some (.int .i64 c.V):=r1.c 2;have b3:w1.cell? ⟨B,3,none⟩=some (.int .i64 c.dr):=r1.c 3;have O1:=jh (O0.out.trans o1 λj hj=>by cases hj);have R1:=jh r1;clear o1 HC r1 a0 a1 a2 a3;have LB:=R1.out.lt;obtain⟨A,hA⟩:=nE w1.heap.size;obtain⟨D,hD⟩:=nE (A+1);obtain⟨X1,hX1⟩:∃X,(w1.alloc (.cells #[.int .i64 0,.int .i64 0,.int .i64 0,.int .i64 0] 97)).alloc (.cells #[.int .i64 c.win,.int .i64 c.E,.int .i64 c.V,.int .i64 c.dr,.pointer none,.pointer none,.pointer none,.pointer none,.int .u64 0,.int .u64 0] 79)=X:=⟨_,rfl⟩
 have ra1:Row X1 A 4 (λ_=>.int .i64 0):=by
  rw[←hX1,←hA];exact(Row.lit (n:=4) (f:=λ_=>.int .i64 0) w1 #[.int .i64 0,.int .i64 0,.int .i64 0,.int .i64 0] 97 (Nat.le_refl _) lC).alloc _
 have rd1:Row X1 D 10 (λi=>(#[Value.int .i64 c.win,.int .i64 c.E,.int .i64 c.V,.int .i64 c.dr,.pointer none,.pointer none,.pointer none,.pointer none,.int .u64 0,.int .u64 0]:Array Value).getD i undef):=by
  have:=Row.lit (n:=10) (f:=(λi=>(#[Value.int .i64 c.win,.int .i64 c.E,.int .i64 c.V,.int .i64 c.dr,.pointer none,.pointer none,.pointer none,.pointer none,.int .u64 0,.int .u64 0]:Array Value).getD i undef)) (w1.alloc (.cells #[.int .i64 0,.int .i64 0,.int .i64 0,.int .i64 0] 97)) #[.int .i64 c.win,.int .i64 c.E,.int .i64 c.V,.int .i64 c.dr,.pointer none,.pointer none,.pointer none,.pointer none,.int .u64 0,.int .u64 0] 79 (Nat.le_refl _) lC;rw[←hX1];rw[World.size_alloc,hA,hD] at this;exact this
 have o1:Off [] w X1:=by rw[←hX1];exact(O1.out.alloc _).alloc _
 have rb1:Row X1 B 4 (λi=>(#[Value.int .i64 c.win,.int .i64 c.E,.int .i64 c.V,.int .i64 c.dr]:Array Value).getD i undef):=by rw[←hX1];exact(R1.out.alloc _).alloc _
 have hsX:X1.heap.size=D+1:=by rw[←hX1];simp;omega
 have HP:=jh (show w.heap.size≤B∧B<A∧A<D∧w.heap.size≤A from⟨oC HB.out,om,om,oC O1.out.size⟩);have bb0:X1.cell? ⟨B,0,none⟩=some (.int .i64 c.win):=rb1.c 0;rw[←hX1] at bb0;have Oo:=jh hX1;have OX1:=jh o1;have RA1:=jh ra1;have RD1:=jh rd1;have RB1:=jh rb1;have HSX:=jh hsX;have HK:=jh (NJ HCF.out.win X1);have HAD:=jh (And.intro hA hD);clear o1 ra1 rd1 rb1 hX1 hA hD hsX;have LB:=R1.out.lt;go_wp2_with fail;clear LB;rw[Oo.out,HAD.out.1,HAD.out.2];apply mO HK;rintro e w2 ⟨rfl,ck2,o2⟩;obtain⟨CB,hCB⟩:=nE X1.heap.size;rw[hCB] at ck2⊢;have HCB:=jh hCB;have CK2:=jh ck2;have O2:=jh (show Bo [] [] X1 w2 from⟨o2,λ_ hj=>nomatch hj⟩);clear ck2 o2 hCB HK b0 b1 b2 b3 bb0;have ra2:=RA1.out.of_block (O2.out.off.block A RA1.out.lt sj);have rd2:=RD1.out.of_block (O2.out.off.block D RD1.out.lt sj);have rb2:=RB1.out.of_block (O2.out.off.block B RB1.out.lt sj);have Vu:=rd2.c 4;have fd2:=rd2.frozen 4;have abw:A≠D:=oC HP.out;have VE:Row (w2.setCell ⟨D,4,none⟩ (.pointer (some ⟨CB,0,none⟩))) A 4 (λ_=>.int .i64 0):=ra2.setOther (λe=>abw e) _;have sa2:(w2.setCell ⟨D,4,none⟩ (.pointer (some ⟨CB,0,none⟩))).cell? ⟨A,0,none⟩=some (.int .i64 0):=VE.c 0;have fa2:=VE.frozen 0;obtain⟨X2,hX2⟩:=nE ((w2.setCell ⟨D,4,none⟩ (.pointer (some ⟨CB,0,none⟩))).setCell ⟨A,0,none⟩ (.int .i64 0));have RA2:Hid (Row X2 A 4 (λ_=>.int .i64 0)):=jh (by rw[←hX2];exact(VE.set 0 (.int .i64 0)).congr λj _=>by split<;>rfl)
 have RD2:Hid (Row X2 D 10 (λi=>(#[Value.int .i64 c.win,.int .i64 c.E,.int .i64 c.V,.int .i64 c.dr,.pointer (some ⟨CB,0,none⟩),.pointer none,.pointer none,.pointer none,.int .u64 0,.int .u64 0]:Array Value).getD i undef)):=jh (by
  rw[←hX2]
  exact(((rd2.set 4 (.pointer (some ⟨CB,0,none⟩))).setOther (λe=>abw e.symm) _).congr lC))
 have abq:B≠A∧B≠D:=oC HP.out;have RB2:Hid (Row X2 B 4 (λi=>(#[Value.int .i64 c.win,.int .i64 c.E,.int .i64 c.V,.int .i64 c.dr]:Array Value).getD i undef)):=jh (by rw[←hX2];exact(rb2.setOther (λe=>abq.2 e) _).setOther (λe=>abq.1 e) _)
 have OX2:Hid (Off [] w X2):=jh (by
  rw[←hX2]
  exact((OX1.out.trans O2.out.off λj hj=>by cases hj).cK (p:=⟨D,4,none⟩) (by have:=HP.out;show w.heap.size≤D;omega) _).cK (p:=⟨A,0,none⟩) HP.out.2.2.2 _)
 have HS2:=jh (show X2.heap.size=w2.heap.size by rw[←hX2];simp[World.setCell])
 have al1:Hid (∀j,j≠D→j≠A→X2.heap[j]?=w2.heap[j]?):=jh λj h1 h2=>by rw[←hX2];exact(aB j h2).trans (aB j h1)
 have UY:=jh hX2;have e1:X2.cell? ⟨B,1,none⟩=some (.int .i64 c.E):=RB2.out.c 1;have e2:X2.cell? ⟨B,2,none⟩=some (.int .i64 c.V):=RB2.out.c 2;rw[←hX2] at e1 e2;have HSF:=jh (LX X2 HCF.out.E.2 HCF.out.V.2);clear ra2 rd2 rb2 abw VE hX2 abq;go_wp2_with fail;rw[UY.out];apply mO HSF;rintro e w3 ⟨F,N,rfl,Vj,Ao⟩;have ST3:=jh Vj;have O3:=jh Ao;clear Vj Ao HSF Vu fd2 sa2 fa2 e1 e2;have ra3:=RA2.out.of_block (O3.out.off.block A RA2.out.lt sj);have rd3:=RD2.out.of_block (O3.out.off.block D RD2.out.lt sj);have rb3:=RB2.out.of_block (O3.out.off.block B RB2.out.lt sj);have sd3:=rd3.c 5;have fd3:=rd3.frozen 5;have abu:A≠D:=oC HP.out;have VD:Row (w3.setCell ⟨D,5,none⟩ (.pointer (some ⟨F.b,0,none⟩))) A 4 (λ_=>.int .i64 0):=ra3.setOther (λe=>abu e) _;have sa3:(w3.setCell ⟨D,5,none⟩ (.pointer (some ⟨F.b,0,none⟩))).cell? ⟨A,1,none⟩=some (.int .i64 0):=VD.c 1;have fa3:=VD.frozen 1;obtain⟨X3,CW⟩:=nE ((w3.setCell ⟨D,5,none⟩ (.pointer (some ⟨F.b,0,none⟩))).setCell ⟨A,1,none⟩ (.int .i64 0));have RA3:Hid (Row X3 A 4 (λ_=>.int .i64 0)):=jh (by rw[←CW];exact(VD.set 1 (.int .i64 0)).congr λj _=>by split<;>rfl)
 have RD3:Hid (Row X3 D 10 (λi=>(#[Value.int .i64 c.win,.int .i64 c.E,.int .i64 c.V,.int .i64 c.dr,.pointer (some ⟨CB,0,none⟩),.pointer (some ⟨F.b,0,none⟩),.pointer none,.pointer none,.int .u64 0,.int .u64 0]:Array Value).getD i undef)):=jh (by
  rw[←CW]
  exact(((rd3.set 5 (.pointer (some ⟨F.b,0,none⟩))).setOther (λe=>abu e.symm) _).congr lC))
 have abp:B≠A∧B≠D:=oC HP.out;have RB3:Hid (Row X3 B 4 (λi=>(#[Value.int .i64 c.win,.int .i64 c.E,.int .i64 c.V,.int .i64 c.dr]:Array Value).getD i undef)):=jh (by rw[←CW];exact(rb3.setOther (λe=>abp.2 e) _).setOther (λe=>abp.1 e) _)
 have OX3:Hid (Off [] w X3):=jh (by
  rw[←CW]
  exact((OX2.out.trans O3.out.off λj hj=>by cases hj).cK (p:=⟨D,5,none⟩) (by have:=HP.out;show w.heap.size≤D;omega) _).cK (p:=⟨A,1,none⟩) HP.out.2.2.2 _)
 have FD:=jh (show X3.heap.size=w3.heap.size by rw[←CW];simp[World.setCell])
 have al0:Hid (∀j,j≠D→j≠A→X3.heap[j]?=w3.heap[j]?):=jh λj h1 h2=>by rw[←CW];exact(aB j h2).trans (aB j h1)
 have HX3:=jh CW;have e1:X3.cell? ⟨B,1,none⟩=some (.int .i64 c.E):=RB3.out.c 1;rw[←CW] at e1;have HEN:=jh (SL (S:=c.E) X3 (oC HCF.out.E));clear ra3 rd3 rb3 abu VD CW abp;go_wp2_with fail;rw[HX3.out];apply mO HEN;rintro e w4 ⟨eb,eh,rfl,sc4,CZ⟩;have SC4:=jh sc4;have O4:=jh CZ;clear sc4 CZ HEN sd3 fd3 sa3 fa3 e1;have ra4:=RA3.out.of_block (O4.out.off.block A RA3.out.lt sj);have rd4:=RD3.out.of_block (O4.out.off.block D RD3.out.lt sj);have FP:=RB3.out.of_block (O4.out.off.block B RB3.out.lt sj);have sd4:=rd4.c 6;have fd4:=rd4.frozen 6;have abt:A≠D:=oC HP.out;have VB:Row (w4.setCell ⟨D,6,none⟩ (.pointer (some ⟨eb,0,none⟩))) A 4 (λ_=>.int .i64 0):=ra4.setOther (λe=>abt e) _;have sa4:(w4.setCell ⟨D,6,none⟩ (.pointer (some ⟨eb,0,none⟩))).cell? ⟨A,2,none⟩=some (.int .i64 0):=VB.c 2;have fa4:=VB.frozen 2;obtain⟨X4,Cc⟩:=nE ((w4.setCell ⟨D,6,none⟩ (.pointer (some ⟨eb,0,none⟩))).setCell ⟨A,2,none⟩ (.int .i64 0));have RA4:Hid (Row X4 A 4 (λ_=>.int .i64 0)):=jh (by rw[←Cc];exact(VB.set 2 (.int .i64 0)).congr λj _=>by split<;>rfl)
 have RD4:Hid (Row X4 D 10 (λi=>(#[Value.int .i64 c.win,.int .i64 c.E,.int .i64 c.V,.int .i64 c.dr,.pointer (some ⟨CB,0,none⟩),.pointer (some ⟨F.b,0,none⟩),.pointer (some ⟨eb,0,none⟩),.pointer none,.int .u64 0,.int .u64 0]:Array Value).getD i undef)):=jh (by
  rw[←Cc]
  exact(((rd4.set 6 (.pointer (some ⟨eb,0,none⟩))).setOther (λe=>abt e.symm) _).congr lC))
 have abo:B≠A∧B≠D:=oC HP.out;have RB4:Hid (Row X4 B 4 (λi=>(#[Value.int .i64 c.win,.int .i64 c.E,.int .i64 c.V,.int .i64 c.dr]:Array Value).getD i undef)):=jh (by rw[←Cc];exact(FP.setOther (λe=>abo.2 e) _).setOther (λe=>abo.1 e) _)
 have OX4:Hid (Off [] w X4):=jh (by
  rw[←Cc]
  exact((OX3.out.trans O4.out.off λj hj=>by cases hj).cK (p:=⟨D,6,none⟩) (by have:=HP.out;show w.heap.size≤D;omega) _).cK (p:=⟨A,2,none⟩) HP.out.2.2.2 _)
 have Ot:=jh (show X4.heap.size=w4.heap.size by rw[←Cc];simp[World.setCell])
 have alZ:Hid (∀j,j≠D→j≠A→X4.heap[j]?=w4.heap[j]?):=jh λj h1 h2=>by rw[←Cc];exact(aB j h2).trans (aB j h1)
 have HX4:=jh Cc;have e1:X4.cell? ⟨B,1,none⟩=some (.int .i64 c.E):=RB4.out.c 1;have e2:X4.cell? ⟨B,2,none⟩=some (.int .i64 c.V):=RB4.out.c 2;rw[←Cc] at e1 e2;have HFN:=jh (SC (S:=c.E) (V:=c.V) X4 HCF.out.V.2 HCF.out.E.2);clear ra4 rd4 FP abt VB Cc abo;go_wp2_with fail;rw[HX4.out];apply mO HFN;rintro e w5 ⟨FF,rfl,fo5,ok5,UR⟩;have FO5:=jh fo5;have O5:=jh UR;have OK5:=jh ok5;clear fo5 UR ok5 HFN sd4 fd4 sa4 fa4 e1 e2;have ra5:=RA4.out.of_block (O5.out.off.block A RA4.out.lt sj);have rd5:=RD4.out.of_block (O5.out.off.block D RD4.out.lt sj);have rb5:=RB4.out.of_block (O5.out.off.block B RB4.out.lt sj);have sd5:=rd5.c 7;have fd5:=rd5.frozen 7;have abr:A≠D:=oC HP.out;have Vz:Row (w5.setCell ⟨D,7,none⟩ (.pointer (some ⟨FF.b,0,none⟩))) A 4 (λ_=>.int .i64 0):=ra5.setOther (λe=>abr e) _;have sa5:(w5.setCell ⟨D,7,none⟩ (.pointer (some ⟨FF.b,0,none⟩))).cell? ⟨A,3,none⟩=some (.int .i64 0):=Vz.c 3;have fa5:=Vz.frozen 3;obtain⟨X5,CV⟩:=nE ((w5.setCell ⟨D,7,none⟩ (.pointer (some ⟨FF.b,0,none⟩))).setCell ⟨A,3,none⟩ (.int .i64 0));have RA5:Hid (Row X5 A 4 (λ_=>.int .i64 0)):=jh (by rw[←CV];exact(Vz.set 3 (.int .i64 0)).congr λj _=>by split<;>rfl)
 have RD5:Hid (Row X5 D 10 (λi=>(#[Value.int .i64 c.win,.int .i64 c.E,.int .i64 c.V,.int .i64 c.dr,.pointer (some ⟨CB,0,none⟩),.pointer (some ⟨F.b,0,none⟩),.pointer (some ⟨eb,0,none⟩),.pointer (some ⟨FF.b,0,none⟩),.int .u64 0,.int .u64 0]:Array Value).getD i undef)):=jh (by
  rw[←CV]
  exact(((rd5.set 7 (.pointer (some ⟨FF.b,0,none⟩))).setOther (λe=>abr e.symm) _).congr lC))
 have abn:B≠A∧B≠D:=oC HP.out;have RB5:Hid (Row X5 B 4 (λi=>(#[Value.int .i64 c.win,.int .i64 c.E,.int .i64 c.V,.int .i64 c.dr]:Array Value).getD i undef)):=jh (by rw[←CV];exact(rb5.setOther (λe=>abn.2 e) _).setOther (λe=>abn.1 e) _)
 have OX5:Hid (Off [] w X5):=jh (by
  rw[←CV]
  exact((OX4.out.trans O5.out.off λj hj=>by cases hj).cK (p:=⟨D,7,none⟩) (by have:=HP.out;show w.heap.size≤D;omega) _).cK (p:=⟨A,3,none⟩) HP.out.2.2.2 _)
 have U1:=jh (show X5.heap.size=w5.heap.size by rw[←CV];simp[World.setCell])
 have alY:Hid (∀j,j≠D→j≠A→X5.heap[j]?=w5.heap[j]?):=jh λj h1 h2=>by rw[←CV];exact(aB j h2).trans (aB j h1)
 have Zj:=jh CV;have g0:X5.cell? ⟨A,0,none⟩=some (.int .i64 0):=RA5.out.c 0;have g1:X5.cell? ⟨A,1,none⟩=some (.int .i64 0):=RA5.out.c 1;have g2:X5.cell? ⟨A,2,none⟩=some (.int .i64 0):=RA5.out.c 2;have g3:X5.cell? ⟨A,3,none⟩=some (.int .i64 0):=RA5.out.c 3;rw[←CV] at g0 g1 g2 g3;have hn4:=ajz;clear ra5 rd5 rb5 abr Vz CV abn;go_wp2;go_ret2;rw[Zj.out];have hp:=HP.out;have z1:=HSX.out;have z1':=HCB.out;have z2:=HS2.out;have z3:=FD.out;have z4:=Ot.out;have z5:=U1.out;have y2:=Row.lt CK2.out;have y3:=O3.out.off.size;have y4:=O4.out.off.size;have y5:=O5.out.off.size;have K4:∀j<w5.heap.size,j≠D→j≠A→X5.heap[j]?=w5.heap[j]?:=λj _ h2 h3=>alY.out j h2 h3;have K3:∀j<w4.heap.size,j≠D→j≠A→X5.heap[j]?=w4.heap[j]?:=λj h1 h2 h3=>(K4 j om h2 h3).trans ((O5.out.off.block j om sj).trans (alZ.out j h2 h3));have K2:∀j<w3.heap.size,j≠D→j≠A→X5.heap[j]?=w3.heap[j]?:=λj h1 h2 h3=>(K3 j om h2 h3).trans ((O4.out.off.block j om sj).trans (al0.out j h2 h3));have K1:∀j<w2.heap.size,j≠D→j≠A→X5.heap[j]?=w2.heap[j]?:=λj h1 h2 h3=>(K2 j om h2 h3).trans ((O3.out.off.block j om sj).trans (al1.out j h2 h3));have gF:∀j∈F.bl,X2.heap.size≤j∧j<w3.heap.size:=λj hj=>⟨(O3.out.fU j hj).elim (λe=>nomatch e) id,ST3.out.lt j hj⟩;have gE:∀j∈eb::eh.bl c.E,X3.heap.size≤j∧j<w4.heap.size:=λj hj=>⟨(O4.out.fU j hj).elim (λe=>nomatch e) id,SC4.out.lt j hj⟩;have gO:∀j∈FF.bl c.E,X4.heap.size≤j∧j<w5.heap.size:=λj hj=>⟨(O5.out.fU j hj).elim (λe=>nomatch e) id,FO5.out.lt j hj⟩
 have gG:∀i j,j∈(⟨D,CB,F,eb,eh,FF⟩:dW).aN c.E i→(i=0∧j=D)∨(i=1∧j=CB)∨(i=2∧X2.heap.size≤j∧j<w3.heap.size)∨(i=3∧X3.heap.size≤j∧j<w4.heap.size)∨(i=4∧X4.heap.size≤j∧j<w5.heap.size):=λi j hj=>by
  match i,hj with
  |0,hj=>exact .inl ⟨rfl,by simpa [dW.aN] using hj⟩
  |1,hj=>exact .inr (.inl ⟨rfl,by simpa [dW.aN] using hj⟩)
  |2,hj=>exact .inr (.inr (.inl ⟨rfl,gF j hj⟩))
  |3,hj=>exact .inr (.inr (.inr (.inl ⟨rfl,gE j hj⟩)))
  |4,hj=>exact .inr (.inr (.inr (.inr ⟨rfl,gO j hj⟩)))
  |n+5,hj=>cases hj
 refine⟨⟨D,CB,F,eb,eh,FF⟩,rfl,⟨fs0,⟨?_,Row.of_block CK2.out (K1 CB om om om),⟨N,0,_,ST3.out.keep λj hj=>K2 j (oC (gF j hj)) (oC (gF j hj)) (oC (gF j hj))⟩,⟨[],SC4.out.keep λj hj=>K3 j (oC (gE j hj)) (oC (gE j hj)) (oC (gE j hj)),λe=>⟨(λh=>nomatch h),(λh=>nomatch h.1)⟩⟩,FO5.out.keep λj hj=>K4 j (oC (gO j hj)) (oC (gO j hj)) (oC (gO j hj)),?_⟩,⟨HCF.out,⟨ST3.out.ok,OK5.out,λk=>⟨(λh=>nomatch h),(λh=>nomatch h)⟩,(λk hk=>nomatch hk),(λk hk=>nomatch hk),(λk hk=>nomatch hk)⟩,(λk hk=>nomatch hk)⟩⟩,⟨OX5.out,λj hj=>?_⟩⟩
 ·refine RD5.out.congr λi hi=>?_
  match i,hi with
  |0,_ |1,_ |2,_ |3,_ |4,_ |5,_ |6,_ |7,_ |8,_ |9,_=>rfl
  |k+10,e=>exact absurd e om
 ·intro i j hij x hx hy;have h1:=gG i x hx;have h2:=gG j x hy;omega
 ·right
  obtain⟨i,_,hx⟩:=bP.1 hj;have h1:=gG i j hx;omega
def alc (w:World) (W E V D:Int) (e:Ending) (w':World):Prop:=
 e=.returned (.tuple #[.pointer none,.int .i64 2])∧Off [] w w'∧yt W E V D=false∨
 ∃(c:Cf) (G:dW),e=.returned (.tuple #[.pointer (some ⟨G.b,0,none⟩),.int .i64 0])∧tO w' G c 0 0 0 st0∧Bo [] (G.bl c.E) w w'∧c.win=W∧(c.E:Int)=E∧(c.V:Int)=V
theorem Di (w:World) (W E V D:Int) (hW:dM W):
  Calls Tryz.prog 4 #[.agg #[.int .i64 W,.int .i64 E,.int .i64 V,.int .i64 D]] w (alc w W E V D):=by
 obtain⟨W0,hW0⟩:∃X,w.alloc (.cells #[.int .i64 W,.int .i64 E,.int .i64 V,.int .i64 D] 23)=X:=⟨_,rfl⟩
 have o0:Off [] w W0:=by rw[←hW0];exact(Off.refl _ _).alloc _
 cases hb:yt W E V D with
 |false=>
  have HF:=jh (OD (w:=W0) W E V D hb);have HW0:=jh hW0;have O0:=jh o0;have HB:=jh hb;clear hW0 o0 hb;go_in;go_wp2_with fail;rw[HW0.out];apply mO HF;rintro e w1 ⟨rfl,o1⟩;have O1:=jh (O0.out.trans o1 λj hj=>by cases hj);clear o1 HF;go_wp2;go_ret2;exact .inl ⟨rfl,O1.out,HB.out⟩
 |true=>
  obtain⟨c,hc,hd,rfl,rfl,rfl,rfl⟩:∃c:Cf,Yo c∧(0≤c.dr∧c.dr≤16384)∧c.win=W∧(c.E:Int)=E∧(c.V:Int)=V∧c.dr=D:=by
   unfold yt at hb;simp only[Bool.and_eq_true,decide_eq_true_eq] at hb;obtain⟨h0,h1,h2,h3,h4,h5,h6⟩:=hb;refine⟨⟨W,E.toNat,V.toNat,D⟩,⟨⟨h0,hW.2⟩,⟨?_,?_⟩,⟨?_,?_⟩⟩,⟨h5,h6⟩,rfl,?_,?_,rfl⟩
   ·show 1≤E.toNat;omega
   ·show E.toNat≤16384;omega
   ·show 2≤V.toNat;omega
   ·show V.toNat≤4096;omega
   ·show((E.toNat:Nat):Int)=E;omega
   ·show((V.toNat:Nat):Int)=V;omega
  have HF:=jh (OC (w:=W0) hc hd);have HW0:=jh hW0;have O0:=jh o0;clear hW0 o0 hb hc hd hW;go_in;go_wp2_with fail;rw[HW0.out];apply mO HF;rintro e w1 ⟨G,rfl,m1,b1⟩;have M1:=jh m1;have B1:=jh (show Bo [] (G.bl c.E) w w1 from⟨O0.out.trans b1.off (λj hj=>nomatch hj),λj hj=>(b1.fU j hj).imp id λe=>Nat.le_trans O0.out.size e⟩);clear m1 b1 HF;go_wp2;go_ret2;exact .inr ⟨c,G,rfl,M1.out,B1.out,rfl,rfl,rfl⟩
end
end Go.Proofs.YtpaeogglppampaaGreat
