/- Lemmas of the proof. Conditions: as each one states. -/
import Derived.Test.YtpaeogglppampaaGreatDoorQf
import Derived.Test.YtpaeogglppampaaGreatDoorQQ
import Derived.Laws.EntriesVeiled
import Derived.LoopN
import Derived.RangeFuncBound
import Derived.RangeFuncCalls
import Derived.RangeFuncLeaves
import Derived.Shelf.Abstract
import Derived.Shelf.RegionOpen
import Derived.OwnWalkIn
import Derived.TacticsInMore
import Derived.LoopNIn
import Derived.LoopIn
import Derived.BigRegionIn
set_option maxRecDepth 100000
set_option maxHeartbeats 16000000
namespace Go.Proofs.YtpaeogglppampaaGreatDoor
open Go.RowKit
theorem MN (B n z x bt:Nat) (b:fF) (E:List Ed) (f:List Nat) (w:World) (h:iF w B n z b E f) (hB:B≤w.heap.size) (hT:cO w bt n z b):
  Calls Tryz.prog 198 #[.int .i64 (x:Nat),.pointer (some ⟨bt,0,none⟩)] w λe w'=>e=.returned (.bool true)∧Below w.heap.size w w':=by
 have c0:=hT.c0
 by_cases hn:x<n
 ·have HL:=jh (QG B n z x b E f w h hB hn);unfold lW at HL;have c1:=hT.c1;have c2:=hT.c2;have c3:=hT.c3;have c4:=hT.c4;have c5:=hT.c5;have d1:decide ((n:Int)≤x)=false:=dF om;have d2:decide (n≤x)=false:=dF om;clear h hT;go_in;go_wp2_with fail;apply mO HL;clear HL;rintro e w1 ⟨rfl,hb⟩;go_wp2;go_ret;exact⟨rfl,hb⟩
 ·have d1:decide ((n:Int)≤x)=true:=dP om;have d2:decide (n≤x)=true:=dP om;clear h hT;go_in;go_wp2;go_ret;exact⟨rfl,Below.refl _ _⟩
theorem MK (B n z x bt:Nat) (b:fF) (E:List Ed) (f:List Nat) (w:World) (h:iF w B n z b E f) (hB:B≤w.heap.size) (hT:cO w bt n z b) (hx:x<z):
  Calls Tryz.prog 202 #[.int .i64 (x:Nat),.pointer (some ⟨bt,0,none⟩)] w λe w'=>e=.returned (.bool true)∧Below w.heap.size w w':=by
 have HL:=jh (Nh B n z x b E f w h hB hx);unfold lW at HL;have c0:=hT.c0;have c1:=hT.c1;have c2:=hT.c2;have c3:=hT.c3;have c4:=hT.c4;have c5:=hT.c5;clear h hT;go_in;go_wp2_with fail;apply mO HL;clear HL;rintro e w1 ⟨rfl,hb⟩;go_wp2;go_ret;exact⟨rfl,hb⟩
def Vj (E:List Ed) (f:List Nat) (n k y:Nat):Nat:=if y<k then qM E f n y else 0
theorem Gl {E:List Ed} {f:List Nat} {n k y:Nat} (h:y<k):Vj E f n k y=qM E f n y:=if_pos h
theorem ML (B n z x bt g vb:Nat) (b:fF) (E:List Ed) (o:List Nat) (F:Nat→Value) (w:World) (h:iF w B n z b E (aH E o)) (ho:bO E o) (hB:B≤w.heap.size) (hT:cO w bt n z b) (hx:x<z)
  (hv:w.cell? ⟨vb,0,none⟩=some (.slice (some ⟨g,0,none⟩) z z)) (hg:Row w g z F) (hF:∀y<x,F y=.int .i64 (qM E (aH E o) n y:Nat)):
  Calls Tryz.prog 200 #[.int .i64 (x:Nat),.pointer (some ⟨bt,0,none⟩),.pointer (some ⟨vb,0,none⟩)] w λe w'=>e=.returned (.bool true)∧Below w.heap.size w w':=by
 have c0:=hT.c0
 by_cases hn:x<n
 ·have d1:decide ((x:Int)<n)=true:=dP om;have d2:decide (x<n)=true:=dP om;clear h hT hv hg hF;go_in;go_wp2;go_ret;exact⟨rfl,Below.refl _ _⟩
 ·have d1:decide ((x:Int)<n)=false:=dF om;have d2:decide (x<n)=false:=dF om;have hfo:=h.fo;have yQ:=h.pU;obtain⟨i,hi⟩:∃i,n+i=x:=⟨x-n,om⟩;have hil:i<(aH E o).length:=om;have hlf:nd E (aH E o) n i (mA E (aH E o) i)<n+i:=lH (hfo.sF hil);have hrg:nd E (aH E o) n i (mB E (aH E o) i)<n+i:=lH (hfo.wU hil)
  have HL:=jh (LY B n z i x g b E (aH E o) w h hB hil hi (λj hj=>Ry ho hj hil) hg.lt
   (by rw[hg.cell om,hF _ om,qL (hfo.sF hil)]) (by rw[hg.cell om,hF _ om,qL (hfo.wU hil)]))
  unfold lW at HL;have c1:=hT.c1;have c2:=hT.c2;have c3:=hT.c3;have c4:=hT.c4;have c5:=hT.c5;clear h hT hg hF hfo yQ hi hil hlf hrg;go_in;go_wp2_with fail;apply mO HL;clear HL;rintro e w1 ⟨rfl,hb⟩;go_wp2;go_ret;exact⟨rfl,hb⟩
structure NP (w:World) (B n z bt g vb:Nat) (b:fF) (E:List Ed) (o:List Nat) (F:Nat→Value):Prop where
 tr:iF w B n z b E (aH E o)
 hB:B≤w.heap.size
 bx:cO w bt n z b
 cv:Row w vb 1 (λ_=>.slice (some ⟨g,0,none⟩) z z)
 rg:Row w g z F
theorem NP.below {w w':World} {B n z bt g vb:Nat} {b:fF} {E:List Ed} {o:List Nat} {F:Nat→Value} (h:NP w B n z bt g vb b E o F) (hb:Below w.heap.size w w'):NP w' B n z bt g vb b E o F:=
 ⟨h.tr.below (hb.mono h.hB),Nat.le_trans h.hB hb.size,Row.below h.bx hb (Row.lt h.bx),h.cv.below hb h.cv.lt,h.rg.below hb h.rg.lt⟩
theorem NP.set {w:World} {B n z bt g vb:Nat} {b:fF} {E:List Ed} {o:List Nat} {F:Nat→Value} (h:NP w B n z bt g vb b E o F) (hg:B≤g) (h1:bt≠g) (h2:vb≠g) (x:Nat) (v:Value):NP (w.setCell ⟨g,x,none⟩ v) B n z bt g vb b E o (λy=>if y=x then v else F y):=
 ⟨h.tr.below ((Below.refl _ _).setCell (p:=⟨g,x,none⟩) hg v),Nat.le_trans h.hB ((Below.refl B w).setCell (p:=⟨g,x,none⟩) hg v).size,Row.setOther h.bx h1 v,h.cv.setOther h2 v,h.rg.set x v⟩
theorem NP.congr {w:World} {B n z bt g vb:Nat} {b:fF} {E:List Ed} {o:List Nat} {F F':Nat→Value} (h:NP w B n z bt g vb b E o F) (e:∀i<z,F i=F' i):NP w B n z bt g vb b E o F':=⟨h.tr,h.hB,h.bx,h.cv,h.rg.congr e⟩
def fnC (bt vb:Nat) (i:Nat):Value:=
 if i=0 then .func (.func 198) #[] #[.pointer (some ⟨bt,0,none⟩)] else if i=1 then .func (.func 200) #[] #[.pointer (some ⟨bt,0,none⟩),.pointer (some ⟨vb,0,none⟩)] else .func (.func 202) #[] #[.pointer (some ⟨bt,0,none⟩)]
theorem Mc (B n z x bt g vb cb fb:Nat) (b:fF) (E:List Ed) (o:List Nat) (F:Nat→Value) (w:World) (h:NP w B n z bt g vb b E o F) (ho:bO E o) (hx:x<z) (hF:∀y<x,F y=.int .i64 (qM E (aH E o) n y:Nat))
  (hc:Row w cb 1 (λ_=>.slice (some ⟨fb,0,none⟩) 3 3)) (hf:Row w fb 3 (fnC bt vb)):
  Calls Tryz.prog 204 #[.int .i64 (x:Nat),.pointer (some ⟨cb,0,none⟩)] w λe w'=>e=.returned (.bool true)∧Below w.heap.size w w':=by
 have c0:w.cell? ⟨cb,0,none⟩=some (.slice (some ⟨fb,0,none⟩) 3 3):=hc.c 0;have c1:w.cell? ⟨fb,0,none⟩=some (.func (.func 198) #[] #[.pointer (some ⟨bt,0,none⟩)]):=hf.c 0;have H:=jh h;have HF:=jh hF;have HC:=jh hc;have Hf:=jh hf;clear h hF hc hf;go_in;go_wp2_with fail;refine wp_loop_rounds 4 ?_;rw[rounds_succ];go_wp2_with fail;refine(MN B n z x bt b E (aH E o) w H.out.tr H.out.hB H.out.bx).mono ?_;rintro e w1 ⟨rfl,hb1⟩;have H1:=jh (H.out.below hb1);have c2:w1.cell? ⟨fb,1,none⟩=some (.func (.func 200) #[] #[.pointer (some ⟨bt,0,none⟩),.pointer (some ⟨vb,0,none⟩)]):=(Hf.out.below hb1 Hf.out.lt).c 1;have HB1:=jh hb1;clear hb1 c0 c1 H;go_wp2;rw[rounds_succ];go_wp2_with fail;refine(ML B n z x bt g vb b E o F w1 H1.out.tr ho H1.out.hB H1.out.bx hx (H1.out.cv.c 0) H1.out.rg HF.out).mono ?_;rintro e w2 ⟨rfl,hb2⟩;have H2:=jh (H1.out.below hb2);have Zm:=HB1.out.trans (hb2.mono HB1.out.size);have c3:w2.cell? ⟨fb,2,none⟩=some (.func (.func 202) #[] #[.pointer (some ⟨bt,0,none⟩)]):=(Hf.out.below Zm Hf.out.lt).c 2;have HB2:=jh Zm;clear hb2 Zm c2 H1 HB1;go_wp2;rw[rounds_succ];go_wp2_with fail;refine(MK B n z x bt b E (aH E o) w2 H2.out.tr H2.out.hB H2.out.bx hx).mono ?_;rintro e w3 ⟨rfl,hb3⟩;have HB3:=jh (HB2.out.trans (hb3.mono HB2.out.size));clear hb3 c3 H2 HB2;go_wp2;rw[rounds_succ];go_wp2;go_ret;exact⟨rfl,HB3.out⟩
def aaA (n z:Nat) (E:List Ed) (f:List Nat) (w:World) (e:Ending) (w':World):Prop:=
 ∃g,e=.returned (.tuple #[.slice (some ⟨g,0,none⟩) z z,.bool true])∧Row w' g z (iK (qM E f n))∧w.heap.size≤g∧Below w.heap.size w w'
theorem Gm (B n z:Nat) (b:fF) (E:List Ed) (o:List Nat) (w:World) (h:iF w B n z b E (aH E o)) (ho:bO E o) (hB:B≤w.heap.size):
  Calls Tryz.prog 175 #[.agg (lW n z b)] w (aaA n z E (aH E o) w):=by
 have hA:Below w.heap.size w (w.alloc (.cells (lW n z b) 74)):=(Below.refl _ _).alloc (Nat.le_refl _) _;have hT:cO (w.alloc (.cells (lW n z b) 74)) w.heap.size n z b:=qC w n z b _;have h1:=(h.mono hB).below hA;obtain⟨tv,Gu⟩:=nE (lW n z b);rw[Gu] at hA hT h1⊢;have hz8:=h.Um;have hnl:=h.qK;have hfl:=h.fo.qN;have yQ:=h.pU;have hnz:n≤z:=om;have hz2:z≤2*n:=om;have HA:=jh hA;have H1:=jh h1;have HT:=jh hT;have HS:=jh (show(w.alloc (.cells tv 74)).heap.size=w.heap.size+1 by simp);clear Gu h h1 hA hT yQ hfl
 have hmk:∀w,(Instr.makeSlice 62 (.int .i64 z) (.int .i64 z)).run Tryz.prog w=.ok (.slice (some ⟨w.heap.size,0,none⟩) z z) (w.alloc (.cells (madeCells #[.int .i64 0] z) 3)):=λw=>
  run_make_row' (P:=Tryz.prog) 62 3 (.int .i64 0) 8 Tryz.underlying62 Tryz.ng rfl .i64 .i64 z om om w
 go_in
 go_upto_region 1 with(fail)
 generalize w.alloc (.cells tv 74)=wa at*;have c0:=HT.out.c0;have c1:=HT.out.c1;have c2:=HT.out.c2;have c3:=HT.out.c3;have c4:=HT.out.c4;have c5:=HT.out.c5;have d1:decide ((n:Int)<0)=false:=dF om;have d2:decide ((4096:Int)<n)=false:=dF om;have d3:decide ((z:Int)<n)=false:=dF om;have d4:decide (z<n)=false:=dF om;have d5:decide (2*(n:Int)<z)=false:=dF om;have d6:decide (4096<n)=false:=dF om;go_wp2_with fail;have hbk:w.heap.size<wa.heap.size:=oC HS.out
 have M1:Row (wa.alloc (.cells (madeCells #[.int .i64 0] z) 3)) wa.heap.size z (iK (Vj E (aH E o) n 0)):=(Row.made wa (.int .i64 0) z 3).congr λi _=>by unfold iK Vj;rw[if_neg om];rfl
 have M2:Row ((wa.alloc (.cells (madeCells #[.int .i64 0] z) 3)).alloc (.cells #[.slice (some ⟨wa.heap.size,0,none⟩) z z] 62)) (wa.heap.size+1) 1 (λ_=>.slice (some ⟨wa.heap.size,0,none⟩) z z):=by
  have:=Row.lit (wa.alloc (.cells (madeCells #[.int .i64 0] z) 3)) #[.slice (some ⟨wa.heap.size,0,none⟩) z z] 62 (n:=1) (f:=λ_=>.slice (some ⟨wa.heap.size,0,none⟩) z z) sj lC
  rwa [World.size_alloc] at this
 have hb2:Below wa.heap.size wa ((wa.alloc (.cells (madeCells #[.int .i64 0] z) 3)).alloc (.cells #[.slice (some ⟨wa.heap.size,0,none⟩) z z] 62)):=((Below.refl _ wa).alloc (Nat.le_refl _) _).alloc sj _;have M1:=M1.alloc (.cells #[.slice (some ⟨wa.heap.size,0,none⟩) z z] 62);have hs2:((wa.alloc (.cells (madeCells #[.int .i64 0] z) 3)).alloc (.cells #[.slice (some ⟨wa.heap.size,0,none⟩) z z] 62)).heap.size=wa.heap.size+1+1:=sj;generalize (wa.alloc (.cells (madeCells #[.int .i64 0] z) 3)).alloc (.cells #[.slice (some ⟨wa.heap.size,0,none⟩) z z] 62)=wb at*
 have M3:Row (wb.alloc (.cells #[.func (.func 198) #[] #[.pointer (some ⟨w.heap.size,0,none⟩)],.func (.func 200) #[] #[.pointer (some ⟨w.heap.size,0,none⟩),.pointer (some ⟨wa.heap.size+1,0,none⟩)],.func (.func 202) #[] #[.pointer (some ⟨w.heap.size,0,none⟩)]] 146)) (wa.heap.size+1+1) 3 (fnC w.heap.size (wa.heap.size+1)):=by
  rw[←hs2];exact Row.lit wb _ _ sj lC
 have hb3:=hb2.alloc (o:=.cells #[.func (.func 198) #[] #[.pointer (some ⟨w.heap.size,0,none⟩)],.func (.func 200) #[] #[.pointer (some ⟨w.heap.size,0,none⟩),.pointer (some ⟨wa.heap.size+1,0,none⟩)],.func (.func 202) #[] #[.pointer (some ⟨w.heap.size,0,none⟩)]] 146) om
 have hs3:(wb.alloc (.cells #[.func (.func 198) #[] #[.pointer (some ⟨w.heap.size,0,none⟩)],.func (.func 200) #[] #[.pointer (some ⟨w.heap.size,0,none⟩),.pointer (some ⟨wa.heap.size+1,0,none⟩)],.func (.func 202) #[] #[.pointer (some ⟨w.heap.size,0,none⟩)]] 146)).heap.size=wa.heap.size+1+1+1:=by rw[World.size_alloc,hs2]
 have M1:=M1.alloc (.cells #[.func (.func 198) #[] #[.pointer (some ⟨w.heap.size,0,none⟩)],.func (.func 200) #[] #[.pointer (some ⟨w.heap.size,0,none⟩),.pointer (some ⟨wa.heap.size+1,0,none⟩)],.func (.func 202) #[] #[.pointer (some ⟨w.heap.size,0,none⟩)]] 146);have M2:=M2.alloc (.cells #[.func (.func 198) #[] #[.pointer (some ⟨w.heap.size,0,none⟩)],.func (.func 200) #[] #[.pointer (some ⟨w.heap.size,0,none⟩),.pointer (some ⟨wa.heap.size+1,0,none⟩)],.func (.func 202) #[] #[.pointer (some ⟨w.heap.size,0,none⟩)]] 146);generalize wb.alloc (.cells #[.func (.func 198) #[] #[.pointer (some ⟨w.heap.size,0,none⟩)],.func (.func 200) #[] #[.pointer (some ⟨w.heap.size,0,none⟩),.pointer (some ⟨wa.heap.size+1,0,none⟩)],.func (.func 202) #[] #[.pointer (some ⟨w.heap.size,0,none⟩)]] 146)=wd at*
 have M4:Row (wd.alloc (.cells #[.slice (some ⟨wa.heap.size+1+1,0,none⟩) 3 3] 297)) (wa.heap.size+1+1+1) 1 (λ_=>.slice (some ⟨wa.heap.size+1+1,0,none⟩) 3 3):=by
  rw[←hs3];exact Row.lit wd _ _ sj lC
 have hb4:=hb3.alloc (o:=.cells #[.slice (some ⟨wa.heap.size+1+1,0,none⟩) 3 3] 297) om;have M1:=M1.alloc (.cells #[.slice (some ⟨wa.heap.size+1+1,0,none⟩) 3 3] 297);have M2:=M2.alloc (.cells #[.slice (some ⟨wa.heap.size+1+1,0,none⟩) 3 3] 297);have M3:=M3.alloc (.cells #[.slice (some ⟨wa.heap.size+1+1,0,none⟩) 3 3] 297);generalize wd.alloc (.cells #[.slice (some ⟨wa.heap.size+1+1,0,none⟩) 3 3] 297)=wf at*
 have HL:=jh (show NP wf w.heap.size n z w.heap.size wa.heap.size (wa.heap.size+1) b E o (iK (Vj E (aH E o) n 0)) from
  ⟨H1.out.below (hb4.mono (Nat.le_of_lt hbk)),oC hb4.size,Row.below HT.out hb4 hbk,M2,M1⟩)
 have CO:=jh M3;have Fv:=jh M4;have HB:=jh (HA.out.trans (hb4.mono (Nat.le_of_lt hbk)));generalize hg:wa.heap.size=g at*;clear M1 M2 M3 M4 hb2 hb3 hb4 hs2 hs3 H1 HT HA HS c0 c1 c2 c3 c4 c5 d1 d2 d3 d4 d5 d6 hmk hg
 go_loopw [67] (λiv wr=>∃k:Nat,k≤z∧iv=.int .i64 k∧Hid (NP wr w.heap.size n z w.heap.size g (g+1) b E o (iK (Vj E (aH E o) n k)))∧Hid (Row wr (g+1+1) 3 (fnC w.heap.size (g+1)))∧Hid (Row wr (g+1+1+1) 1 (λ_=>.slice (some ⟨g+1+1,0,none⟩) 3 3))∧Hid (Below w.heap.size w wr)) (λiv _=>z-(intOf iv).toNat)
 case atStart=>exact⟨0,Nat.zero_le _,rfl,HL,CO,Fv,HB⟩
 case round=>
  clear HL CO Fv HB;obtain⟨k,hk,rfl,HL,CO,Fv,HB⟩:=hrel
  by_cases hlt:k<z
  ·have hki:(0:Int)≤k∧(k:Int)<z:=om;have cv:=HL.out.cv.c 0;have cr:=HL.out.rg.cell hlt;have fr:=HL.out.rg.frozen k;replace HL:=jh (HL.out.set (Nat.le_of_lt hbk) om om k (.int .i64 k));replace CO:=jh (CO.out.setOther (a:=⟨g,k,none⟩) (by show g+1+1≠g;omega) (.int .i64 k));replace Fv:=jh (Fv.out.setOther (a:=⟨g,k,none⟩) (by show g+1+1+1≠g;omega) (.int .i64 k));replace HB:=jh (HB.out.setCell (p:=⟨g,k,none⟩) (Nat.le_of_lt hbk) (.int .i64 k));go_wp2_with fail;clear cv cr fr;generalize wr.setCell ⟨g,k,none⟩ (.int .i64 k)=w1 at*;refine(Mc w.heap.size n z k w.heap.size g (g+1) (g+1+1+1) (g+1+1) b E o _ w1 HL.out ho hlt (λy hy=>by rw[if_neg om];unfold iK;rw[Gl hy]) Fv.out CO.out).mono ?_;rintro e w2 ⟨rfl,hb5⟩;replace HL:=jh (HL.out.below hb5);replace CO:=jh (CO.out.below hb5 CO.out.lt);replace Fv:=jh (Fv.out.below hb5 Fv.out.lt);replace HB:=jh (HB.out.trans (hb5.mono HB.out.size));have c0:=HL.out.bx.c0;clear hb5
   by_cases hn:k<n
   ·have d1:decide ((n:Int)≤k)=false:=dF om;have d2:decide (n≤k)=false:=dF om;go_wp2_with fail
    replace HL:=jh (HL.out.congr (F':=iK (Vj E (aH E o) n (k+1))) (λy _=>by
     unfold iK Vj
     by_cases e:y=k
     ·rw[if_pos e,if_pos om,e,Gi hn]
     ·rw[if_neg e]
      by_cases e2:y<k
      ·rw[if_pos e2,if_pos om]
      ·rw[if_neg e2,if_neg om]))
    go_roundw
    case rel=>exact⟨k+1,om,by go_num,HL,CO,Fv,HB⟩
    case measure=>simp only[intOf];omega
   ·have d1:decide ((n:Int)≤k)=true:=dP om;have d2:decide (n≤k)=true:=dP om;go_wp2_with fail;have hfo:=HL.out.tr.fo;have yQ:=HL.out.tr.pU;obtain⟨i,hi⟩:∃i,n+i=k:=⟨k-n,om⟩;have hil:i<(aH E o).length:=om;have hlf:nd E (aH E o) n i (mA E (aH E o) i)<n+i:=lH (hfo.sF hil)
    have r1:w2.cell? ⟨b.l,k,none⟩=some (.int .i64 (nd E (aH E o) n i (mA E (aH E o) i):Nat)):=by rw[HL.out.tr.rl.cell hlt,←hi];unfold dJ;rw[FE hil]
    have r2:w2.cell? ⟨g,nd E (aH E o) n i (mA E (aH E o) i),none⟩=some (.int .i64 (mA E (aH E o) i:Nat)):=by
     rw[HL.out.rg.cell om,if_neg om];unfold iK;rw[Gl om,qL (hfo.sF hil)]
    have HmA:=jh (show qM E (aH E o) n k=mA E (aH E o) i by rw[←hi,Gj]);have cv:=HL.out.cv.c 0;have c1:=HL.out.bx.c1;have cr:=HL.out.rg.cell hlt;have fr:=HL.out.rg.frozen k;have hlz:nd E (aH E o) n i (mA E (aH E o) i)≠k:=om;have hl0:(0:Int)≤(nd E (aH E o) n i (mA E (aH E o) i):Nat)∧((nd E (aH E o) n i (mA E (aH E o) i):Nat):Int)<z:=om;generalize nd E (aH E o) n i (mA E (aH E o) i)=lf at*;generalize mA E (aH E o) i=ma at*;clear hfo yQ hi hil hlf;have HS:w2.drew.cell? ⟨g+1,0,none⟩=some (.slice (some ⟨g,0,none⟩) z z)∧w2.drew.cell? ⟨w.heap.size,1,none⟩=some (.slice (some ⟨b.l,0,none⟩) z z)∧w2.drew.cell? ⟨b.l,k,none⟩=some (.int .i64 lf)∧w2.drew.cell? ⟨g,lf,none⟩=some (.int .i64 ma):=⟨cv,c1,r1,r2⟩;have hdr:=(Below.refl w2.heap.size w2).drew;replace HL:=jh (HL.out.below hdr);replace CO:=jh (CO.out.below hdr CO.out.lt);replace Fv:=jh (Fv.out.below hdr Fv.out.lt);replace HB:=jh HB.out.drew;clear hdr cv c1 r1 r2 cr fr c0;refine aj (λw'=>w'.cell? ⟨g+1,0,none⟩=some (.slice (some ⟨g,0,none⟩) z z)∧w'.cell? ⟨w.heap.size,1,none⟩=some (.slice (some ⟨b.l,0,none⟩) z z)∧w'.cell? ⟨b.l,k,none⟩=some (.int .i64 lf)∧w'.cell? ⟨g,lf,none⟩=some (.int .i64 ma)) (by kernel_rfl) ?_;generalize w2.drew=w3 at*;refine tC 0 ?_;refine tC 1 ?_;refine tC 2 ?_;refine tC 3 ?_;refine tC 4 ?_;refine tC 5 ?_;refine tC 6 ?_;refine tC 7 ?_;refine tC 8 ?_;refine tC 9 ?_;refine tC 10 ?_
    try simp only[sD]
    have cr:=HL.out.rg.cell hlt;have fr:=HL.out.rg.frozen k;have hne:∀(v:Value) (p:Addr),¬(p.block=g∧p.off=k)→(w3.setCell ⟨g,k,none⟩ v).cell? p=w3.cell? p:=λv p hp=>World.cell?_setCell_other _ _ _ _ (λe=>hp (by rw[←e];exact⟨rfl,rfl⟩));have Hne:=jh hne;clear hne;have hbl:b.l<w.heap.size:=HL.out.tr.lo.1;refine rC 11 λK hK=>?_;go_simp;refine hK.out _ _ ⟨by rw[Hne.out _ _ (by show ¬(g+1=g∧0=k);omega)];exact HS.1,by rw[Hne.out _ _ (by show ¬(w.heap.size=g∧1=k);omega)];exact HS.2.1,by rw[Hne.out _ _ (by show ¬(b.l=g∧k=k);omega)];exact HS.2.2.1,by rw[Hne.out _ _ (by show ¬(g=g∧lf=k);omega)];exact HS.2.2.2⟩ (λ_=>?_);clear hK Hne HS cr fr;refine dD ⟨rfl,?_⟩
    replace HL:=jh ((HL.out.set (Nat.le_of_lt hbk) om om k (.int .i64 ma)).congr (F':=iK (Vj E (aH E o) n (k+1))) (λy _=>by
     unfold iK Vj
     by_cases e:y=k
     ·rw[if_pos e,if_pos om,e,HmA.out]
     ·rw[if_neg e,if_neg e]
      by_cases e2:y<k
      ·rw[if_pos e2,if_pos om]
      ·rw[if_neg e2,if_neg om]))
    replace CO:=jh (CO.out.setOther (a:=⟨g,k,none⟩) (by show g+1+1≠g;omega) (.int .i64 ma));replace Fv:=jh (Fv.out.setOther (a:=⟨g,k,none⟩) (by show g+1+1+1≠g;omega) (.int .i64 ma));replace HB:=jh (HB.out.setCell (p:=⟨g,k,none⟩) (Nat.le_of_lt hbk) (.int .i64 ma));generalize w3.setCell ⟨g,k,none⟩ (.int .i64 ma)=w4 at*;go_wp2;go_roundw
    case rel=>exact⟨k+1,om,by go_num,HL,CO,Fv,HB⟩
    case measure=>simp only[intOf];omega
  ·obtain rfl:z=k:=om;have cv:=HL.out.cv.c 0;go_wp2;go_ret2;exact⟨g,rfl,HL.out.rg.congr (λy hy=>by unfold iK;rw[Gl hy]),Nat.le_of_lt hbk,HB.out⟩
section
open Go.Shelf
theorem LQ (B n z:Nat) (b:fF) (E:List Ed) (o:List Nat) (w:World) (h:iF w B n z b E (aH E o)) (ho:bO E o) (hB:B≤w.heap.size):
  Calls Tryz.prog 146 #[.agg (lW n z b)] w λe w'=>∃g,e=.returned (.slice (some ⟨g,0,none⟩) z z)∧Row w' g z (iK (qM E (aH E o) n))∧w.heap.size≤g∧Below w.heap.size w w':=by
 have hA:Below w.heap.size w (w.alloc (.cells (lW n z b) 74)):=(Below.refl _ _).alloc (Nat.le_refl _) _;have hT:cO (w.alloc (.cells (lW n z b) 74)) w.heap.size n z b:=qC w n z b _;have h1:=(h.mono hB).below hA;have HL:=jh (Gm w.heap.size n z b E o _ h1 ho hA.size);have HL2:=HL;unfold lW at HL2;obtain⟨tv,Gu⟩:=nE (lW n z b);have HA:=jh hA;rw[Gu] at HA hT HL⊢;have VK:=Gu;unfold lW at VK;rw[VK] at HL2;clear h h1 hA HL Gu;have c0:=hT.c0;have c1:=hT.c1;have c2:=hT.c2;have c3:=hT.c3;have c4:=hT.c4;have c5:=hT.c5;have Htv:=jh VK;clear hT VK;go_in
 go_upto_region 1 with(fail)
 generalize w.alloc (.cells tv 74)=wa at*;go_wp2_with fail;rw[Htv.out];apply mO HL2;rintro e w1 ⟨g,rfl,hr,hg,hb⟩;have HR:=jh (And.intro hr (And.intro (Nat.le_trans HA.out.size hg) (HA.out.trans (hb.mono HA.out.size))));clear hr hg hb;go_wp2;go_ret;exact⟨g,rfl,HR.out⟩
end
section
open Go.Shelf
attribute [local go_sem] Oper.semAt_some
end
section
open Go.Shelf
attribute [local go_sem] Oper.semAt_some
end
def TF (n z:Nat) (b:fF) (tb g:Nat):Array Value:=#[.pointer (some ⟨tb,0,none⟩),.int .i64 (n:Nat),.slice (some ⟨b.l,0,none⟩) z z,.slice (some ⟨b.r,0,none⟩) z z,.slice (some ⟨b.p,0,none⟩) z z,.slice (some ⟨b.h,0,none⟩) z z,.slice (some ⟨b.s,0,none⟩) z z,.slice (some ⟨g,0,none⟩) z z]
structure y8 (w:World) (B vb n z:Nat) (b:fF) (tb g:Nat) (E:List Ed) (o:List Nat):Prop where
 ok:tZ n E
 ord:bO E o
 row:Row w vb 8 (λi=>(TF n z b tb g).getD i undef)
 lt:vb<B
 tab:TabAt w B tb (pT E (aH E o) n)
 tr:iF w B n z b E (aH E o)
 qM:Row w g z (iK (qM E (aH E o) n))
 JJ:g<B
section
variable {w w':World} {B B' vb n z tb g:Nat} {b:fF} {E:List Ed} {o:List Nat}
theorem y8.below (h:y8 w B vb n z b tb g E o) (hb:Below B w w'):y8 w' B vb n z b tb g E o:=
 ⟨h.ok,h.ord,h.row.below hb h.lt,h.lt,h.tab.below hb,h.tr.below hb,h.qM.below hb h.JJ,h.JJ⟩
theorem y8.mono (h:y8 w B vb n z b tb g E o) (hB:B≤B'):y8 w B' vb n z b tb g E o:=
 ⟨h.ok,h.ord,h.row,Nat.lt_of_lt_of_le h.lt hB,h.tab.mono hB,h.tr.mono hB,h.qM,Nat.lt_of_lt_of_le h.JJ hB⟩
theorem y8.c0 (h:y8 w B vb n z b tb g E o):w.cell? ⟨vb,0,none⟩=some (.pointer (some ⟨tb,0,none⟩)):=h.row.c 0
theorem y8.c1 (h:y8 w B vb n z b tb g E o):w.cell? ⟨vb,1,none⟩=some (.int .i64 (n:Nat)):=h.row.c 1
theorem y8.c5 (h:y8 w B vb n z b tb g E o):w.cell? ⟨vb,5,none⟩=some (.slice (some ⟨b.h,0,none⟩) z z):=h.row.c 5
theorem y8.c6 (h:y8 w B vb n z b tb g E o):w.cell? ⟨vb,6,none⟩=some (.slice (some ⟨b.s,0,none⟩) z z):=h.row.c 6
theorem y8.c7 (h:y8 w B vb n z b tb g E o):w.cell? ⟨vb,7,none⟩=some (.slice (some ⟨g,0,none⟩) z z):=h.row.c 7
end
def yh (w:World) (B vb n:Nat) (E:List Ed):Prop:=∃(z:Nat) (b:fF) (tb g:Nat) (o:List Nat),y8 w B vb n z b tb g E o
theorem yh.below {w w':World} {B vb n:Nat} {E:List Ed} (h:yh w B vb n E) (hb:Below B w w'):yh w' B vb n E:=by
 obtain⟨z,b,tb,g,o,h⟩:=h;exact⟨z,b,tb,g,o,h.below hb⟩
theorem yh.mono {w:World} {B B' vb n:Nat} {E:List Ed} (h:yh w B vb n E) (hB:B≤B'):yh w B' vb n E:=by
 obtain⟨z,b,tb,g,o,h⟩:=h;exact⟨z,b,tb,g,o,h.mono hB⟩
theorem iF.sl {w:World} {B n:Nat} {b:fF} {E:List Ed} {f:List Nat} (h:iF w B n (n+f.length) b E f):Sl 62 .i64 w B (.slice (some ⟨b.p,0,none⟩) (pT E f n).length (n+f.length)) (pT E f n) (λi=>(⟨b.p,0,none⟩:Addr).add (i*1)):=
 Rd.addr Cw (λ_=>h.lo.2.2.1) (λi hi j hj=>by
  obtain rfl:j=0:=om;rw[cK] at hi;rw[kV,Nat.mul_one,Nat.zero_add,Nat.add_zero,h.rp.cell hi]
  unfold nums dJ;rw[PY hi];rfl)
theorem y8.held {lo:Nat} {w:World} {B vb n z tb g:Nat} {b:fF} {E:List Ed} {o:List Nat} (h:y8 w B vb n z b tb g E o) (h1:lo≤vb) (h2:lo≤b.l∧lo≤b.r∧lo≤b.p∧lo≤b.h∧lo≤b.s) (h3:Held lo w λW=>TabAt W B tb (pT E (aH E o) n)) (h4:lo≤g):Held lo w λW=>yh W B vb n E:=λW hW=>
 ⟨z,b,tb,g,o,h.ok,h.ord,h.row.of_block (hW _ h1 h.row.lt),h.lt,h3 W hW,
  ⟨h.tr.fo,h.tr.qK,h.tr.pU,h.tr.lo,h.tr.rl.of_block (hW _ h2.1 h.tr.rl.lt),h.tr.rr.of_block (hW _ h2.2.1 h.tr.rr.lt),h.tr.rp.of_block (hW _ h2.2.2.1 h.tr.rp.lt),h.tr.rh.of_block (hW _ h2.2.2.2.1 h.tr.rh.lt),h.tr.rs.of_block (hW _ h2.2.2.2.2 h.tr.rs.lt)⟩,
  h.qM.of_block (hW _ h4 h.qM.lt),h.JJ⟩
theorem Held.on {base:Nat} {w w':World} {P:World→Prop} (h:Held base w P) (hb:Below w.heap.size w w'):Held base w' P:=λW hW=>h W λj h1 h2=>(hW j h1 (Nat.lt_of_lt_of_le h2 hb.size)).trans (hb.block j h2)
theorem Held.imp {base:Nat} {w:World} {P Q:World→Prop} (h:Held base w P) (f:∀W,P W→Q W):Held base w Q:=λW hW=>f W (h W hW)
def aa8 (n:Int) (E:List Ed) (w:World) (e:Ending) (w':World):Prop:=
 Below w.heap.size w w'∧((j5 n E≠0∧e=.returned (.tuple #[.pointer none,.int .i64 (j5 n E)]))∨
  (∃k vb:Nat,n=k∧tZ k E∧e=.returned (.tuple #[.pointer (some ⟨vb,0,none⟩),.int .i64 0])∧Held w.heap.size w' λW=>yh W w'.heap.size vb k E))
theorem MS (B:Nat) (a:Option Addr) (cap:Nat) (A:Nat→Addr) (n:Int) (E:List Ed) (w:World) (hS:ES w B (.slice a E.length cap) E A) (hB:B≤w.heap.size) (hm:E.length≤9223372036854775807):
  Calls Tryz.prog 110 #[.int .i64 n,.slice a E.length cap] w (aa8 n E w):=by
 have HM:=jh (qG B a cap A n E w hS hB hm);clear hS hm;go_in;go_wp2_with fail;apply mO HM;clear HM;rintro e w1 ⟨b1,⟨he,rfl⟩ |⟨k,o,b,z,rfl,G,ho,rfl,hT,hlo⟩⟩
 ·obtain⟨x,hx⟩:=nE (j5 n E);rw[hx] at he⊢
  have hne:(x !=0)=true:=by simpa using he
  have HE:=jh (And.intro he hx);have HB1:=jh b1;clear he hx b1;unfold iO;go_wp2;go_ret2;exact⟨HB1.out.alloc HB1.out.size _,.inl ⟨by rw[HE.out.2];exact HE.out.1,by rw[HE.out.2];rfl⟩⟩
 ·have hz8:=hT.Um;have yQ:=hT.pU;have hF:=hT.fo;have hE0:=hF.newE om;subst yQ;have hb2:Below w1.heap.size w1 (w1.alloc (.cells (lW k (k+(aH E o).length) b) 74)):=(Below.refl _ _).alloc (Nat.le_refl _) _;have Zq:cO (w1.alloc (.cells (lW k (k+(aH E o).length) b) 74)) w1.heap.size k (k+(aH E o).length) b:=qC w1 _ _ b _;have V5:=hT.below hb2;have HN:=jh (Qj hE0 V5.sl hb2.size);rw[cK] at HN;obtain⟨z,hz⟩:=nE (k+(aH E o).length);rw[hz] at hb2 Zq V5 HN⊢;have HL:=jh (fun(w9:World) (h9:Below w1.heap.size w1 w9) (hl9:w1.heap.size≤w9.heap.size)=>LQ w1.heap.size k z b E o w9 (by rw[hz] at hT;exact hT.below h9) ho hl9);have HT2:=jh V5;have HB1:=jh b1;have HB2:=jh hb2;have Kj:=jh (And.intro G ho);have HTb:=jh Zq;have HLo:=jh hlo;clear hlo;unfold lW at HN HB2 HT2 HTb HL⊢;clear hz hT hE0 hF hb2 Zq V5 b1 G ho;go_wp2_with fail;have hs2:w1.heap.size<(w1.alloc (.cells #[.int .i64 k,.slice (some ⟨b.l,0,none⟩) z z,.slice (some ⟨b.r,0,none⟩) z z,.slice (some ⟨b.p,0,none⟩) z z,.slice (some ⟨b.h,0,none⟩) z z,.slice (some ⟨b.s,0,none⟩) z z] 74)).heap.size:=sj;generalize w1.alloc (.cells #[.int .i64 k,.slice (some ⟨b.l,0,none⟩) z z,.slice (some ⟨b.r,0,none⟩) z z,.slice (some ⟨b.p,0,none⟩) z z,.slice (some ⟨b.h,0,none⟩) z z,.slice (some ⟨b.s,0,none⟩) z z] 74)=w2 at*;apply mO HN;clear HN;rintro e w3 ⟨tb,rfl,VZ,hb3,hth⟩;have HTh:=jh hth;have Ra:=HB1.out.size;have ahO:w.heap.size≤w2.heap.size:=Nat.le_trans Ra (Nat.le_of_lt hs2);have aaJ:=jh VZ;have HT3:=jh (HT2.out.below (hb3.mono HB2.out.size));have vM:cO w3 w1.heap.size k z b:=Row.below HTb.out hb3 hs2;have HB3:=jh (HB1.out.trans ((HB2.out.trans (hb3.mono HB2.out.size)).mono HB1.out.size));have aa3:=jh (HB2.out.trans (hb3.mono HB2.out.size));have Iw:=jh (HL.out w3.drew aa3.out.drew aa3.out.size);clear HL VZ hb3 HT2 HTb HB2 hs2 hth;go_wp2_with fail;have HS:w3.drew.cell? ⟨w1.heap.size,0,none⟩=some (.int .i64 k)∧w3.drew.cell? ⟨w1.heap.size,1,none⟩=some (.slice (some ⟨b.l,0,none⟩) z z)∧w3.drew.cell? ⟨w1.heap.size,2,none⟩=some (.slice (some ⟨b.r,0,none⟩) z z)∧w3.drew.cell? ⟨w1.heap.size,3,none⟩=some (.slice (some ⟨b.p,0,none⟩) z z)∧w3.drew.cell? ⟨w1.heap.size,4,none⟩=some (.slice (some ⟨b.h,0,none⟩) z z)∧w3.drew.cell? ⟨w1.heap.size,5,none⟩=some (.slice (some ⟨b.s,0,none⟩) z z):=⟨vM.c0,vM.c1,vM.c2,vM.c3,vM.c4,vM.c5⟩;have HTx:=jh vM;clear vM;refine aj (λw'=>w'.cell? ⟨w1.heap.size,0,none⟩=some (.int .i64 k)∧w'.cell? ⟨w1.heap.size,1,none⟩=some (.slice (some ⟨b.l,0,none⟩) z z)∧w'.cell? ⟨w1.heap.size,2,none⟩=some (.slice (some ⟨b.r,0,none⟩) z z)∧w'.cell? ⟨w1.heap.size,3,none⟩=some (.slice (some ⟨b.p,0,none⟩) z z)∧w'.cell? ⟨w1.heap.size,4,none⟩=some (.slice (some ⟨b.h,0,none⟩) z z)∧w'.cell? ⟨w1.heap.size,5,none⟩=some (.slice (some ⟨b.s,0,none⟩) z z)) (by kernel_rfl) ?_;refine tC 0 ?_;refine tC 1 ?_;refine tC 2 ?_
  try simp only[sD]
  refine rC 3 λK hK=>?_;go_simp;apply mO Iw;clear Iw;rintro e w5 ⟨g,rfl,hr,hg,hb5⟩;have hb5:Below w3.heap.size w3 w5:=(Below.refl w3.heap.size w3).drew.trans hb5;have XA:cO w5 w1.heap.size k z b:=Row.below HTx.out hb5 (Row.lt HTx.out);refine hK.out _ _ ⟨XA.c0,XA.c1,XA.c2,XA.c3,XA.c4,XA.c5⟩ (λHS=>?_);clear hK;refine tC 4 ?_
  try simp only[sD]
  refine rC 5 λK hK=>?_;go_simp;have Xz:cO (w5.alloc (.cells (TF k z b tb g) 162)) w1.heap.size k z b:=Row.alloc XA _;have hb6:Below w5.heap.size w5 (w5.alloc (.cells (TF k z b tb g) 162)):=(Below.refl _ _).alloc (Nat.le_refl _) _;have hs6:(w5.alloc (.cells (TF k z b tb g) 162)).heap.size=w5.heap.size+1:=sj;have hV6:Row (w5.alloc (.cells (TF k z b tb g) 162)) w5.heap.size 8 (λi=>(TF k z b tb g).getD i undef):=Row.lit w5 _ _ (by simp[TF]) lC;have Rk:=hb5.size;have h13:=aa3.out.size
  have HV:=jh (show Held w.heap.size (w5.alloc (.cells (TF k z b tb g) 162)) λW=>yh W (w5.alloc (.cells (TF k z b tb g) 162)).heap.size w5.heap.size k E from
   y8.held (z:=z) (b:=b) (tb:=tb) (g:=g) (o:=o) ⟨Kj.out.1,Kj.out.2,hV6,om,((aaJ.out.below hb5).mono Rk).below hb6 |>.mono hb6.size,((HT3.out.below (hb5.mono h13)).mono (Nat.le_trans h13 Rk)).below hb6 |>.mono hb6.size,hr.alloc _,oC hr.lt⟩
    om HLo.out (((((HTh.out.lower ahO).on hb5).on hb6).imp λW hW=>hW.mono (Nat.le_trans Rk hb6.size))) (Nat.le_trans (Nat.le_trans Ra h13) hg))
  have CP:=jh ((HB3.out.trans (hb5.mono HB3.out.size)).trans (hb6.mono (Nat.le_trans HB3.out.size Rk)));unfold TF at HV CP Xz;refine hK.out _ _ ⟨Xz.c0,Xz.c1,Xz.c2,Xz.c3,Xz.c4,Xz.c5⟩ (λHS=>?_);clear hK Xz hb6 hs6 hV6 Rk h13 hr hg hb5 XA;refine tC 6 ?_;refine tC 7 ?_
  try simp only[sD]
  refine dD ⟨rfl,?_⟩;clear HS;generalize w5.alloc (.cells #[.pointer (some ⟨tb,0,none⟩),.int .i64 k,.slice (some ⟨b.l,0,none⟩) z z,.slice (some ⟨b.r,0,none⟩) z z,.slice (some ⟨b.p,0,none⟩) z z,.slice (some ⟨b.h,0,none⟩) z z,.slice (some ⟨b.s,0,none⟩) z z,.slice (some ⟨g,0,none⟩) z z] 162)=w6 at*;go_wp2;go_ret2;exact⟨CP.out,.inr ⟨k,_,rfl,Kj.out.1,rfl,HV.out⟩⟩
theorem Kr (vb tb:Nat) (w:World) (h:w.cell? ⟨vb,0,none⟩=some (.pointer (some ⟨tb,0,none⟩))):
  Calls Tryz.prog 120 #[.pointer (some ⟨vb,0,none⟩)] w λe w'=>e=.returned (.bool true)∧w=w':=by
 go_in;go_wp2;go_ret;exact⟨rfl,rfl⟩
theorem adX:ET 72 2 1 8:=ET.of Tryz.underlying72 Tryz.JC rfl (by decide)
theorem IZ {E:List Ed} {f:List Nat} {n x:Nat} (h:x<n+f.length):gX E f n f.length x=hgt E f n x:=by
 unfold gX hgt
 by_cases c:x<n
 ·rw[if_pos c,if_neg om]
 ·rw[if_neg c,if_pos om]
theorem iF.rdH {w:World} {B n:Nat} {b:fF} {E:List Ed} {f:List Nat} (h:iF w B n (n+f.length) b E f):Rd 72 1 w B (.slice (some ⟨b.h,0,none⟩) (hT E f n).length (n+f.length)) (hT E f n).length (nums .i64 (hT E f n)) (λi=>(⟨b.h,0,none⟩:Addr).add (i*1)):=
 Rd.addr adX (λ_=>h.lo.2.2.2.1) (λi hi j hj=>by
  obtain rfl:j=0:=om;rw[GK] at hi;rw[kV,Nat.mul_one,Nat.zero_add,Nat.add_zero,h.rh.cell hi]
  unfold nums dJ;rw[uN hi,IZ hi])
theorem iF.key {w:World} {B n:Nat} {b:fF} {E:List Ed} {f:List Nat} (h:iF w B n (n+f.length) b E f):Key w B (.slice (some ⟨b.h,0,none⟩) (hT E f n).length (n+f.length)) (hT E f n) (λi=>(⟨b.h,0,none⟩:Addr).add (i*1)):=
 ⟨h.rdH.ix,h.rdH.lt,λi hi=>by have:=h.rdH.cell i hi 0 om;rw[add_zero] at this;exact this⟩
def C8 (E:List Ed) (o:List Nat) (n:Nat) (θ:Int) (u:Nat):Nat:=nd E (aH E o) n (YO (aH E o) (NI E θ)) (gQ E θ u)
theorem Wu {E:List Ed} {o:List Nat} {n:Nat} (G:tZ n E) (ho:bO E o) (θ:Int) {u:Nat} (hu:u<n):TY (pT E (aH E o) n) (u:Int) (hT E (aH E o) n) θ=((C8 E o n θ u:Nat):Int):=by
 rw[Sv hu,xW (GN G ho) (Br _ _) (λi hi=>by rw[GD ho hi]) hu,Jv ho];rfl
theorem Yl (vb n z tb g u:Nat) (b:fF) (E:List Ed) (o:List Nat) (θ:Int) (w:World) (h:y8 w w.heap.size vb n z b tb g E o) (hu:u<n):
  Calls Tryz.prog 73 #[.pointer (some ⟨vb,0,none⟩),.int .i64 (u:Nat),.int .i64 θ] w λe w'=>e=.returned (.tuple #[.int .i64 (C8 E o n θ u:Nat),.int .i64 0])∧Below w.heap.size w w':=by
 have HV:=jh (Kr vb tb w h.c0);have c0:=h.c0;have c1:=h.c1;have c5:=h.c5;have htr:=h.tr;have yQ:=htr.pU;subst yQ;have htab:=(h.tab.mono (Nat.le_refl _)).below (Below.refl w.heap.size w).drew;have HC:=jh (MU tb w.heap.size (pT E (aH E o) n) (hT E (aH E o) n) θ _ _ _ (u:Int) w.drew htab (htr.key.below (Below.refl w.heap.size w).drew) (Nat.le_refl _));rw[Wu h.ok h.ord θ hu,EN hu,GK] at HC;obtain⟨z,hz⟩:=nE (n+(aH E o).length);rw[hz] at HC c5;have HU:=jh h.row.lt;clear h htr htab hz;have d1:decide ((u:Int)<0)=false:=dF om;have d2:decide ((n:Int)≤u)=false:=dF om;have d3:decide (n≤u)=false:=dF om;go_in;go_wp2_with fail;apply mO HV;rintro e w' ⟨rfl,rfl⟩;go_wp2_with fail;have HS:w.drew.cell? ⟨vb,0,none⟩=some (.pointer (some ⟨tb,0,none⟩))∧w.drew.cell? ⟨vb,5,none⟩=some (.slice (some ⟨b.h,0,none⟩) z z):=⟨c0,c5⟩;refine aj (λw'=>w'.cell? ⟨vb,0,none⟩=some (.pointer (some ⟨tb,0,none⟩))∧w'.cell? ⟨vb,5,none⟩=some (.slice (some ⟨b.h,0,none⟩) z z)) (by kernel_rfl) ?_;refine tC 0 ?_;refine tC 1 ?_;refine tC 2 ?_;refine tC 3 ?_;refine tC 4 ?_;refine tC 5 ?_;refine tC 6 ?_;refine tC 7 ?_;refine tC 8 ?_;refine tC 9 ?_;refine tC 10 ?_
 try simp only[sD]
 refine rC 11 λK hK=>?_;go_simp;apply mO HC;clear HC;rintro e w5 ⟨rfl,hb5⟩;have hb5:Below w.heap.size w w5:=(Below.refl w.heap.size w).drew.trans hb5;refine hK.out _ _ ⟨(hb5.cell (p:=⟨vb,0,none⟩) HU.out).trans c0,(hb5.cell (p:=⟨vb,5,none⟩) HU.out).trans c5⟩ (λHS=>?_);have HB5:=jh hb5;clear hK hb5 c0 c5 c1 HU HV d1 d2 d3;refine tC 12 ?_;refine tC 13 ?_;refine tC 14 ?_;refine tC 15 ?_
 try simp only[sD]
 refine dD ⟨rfl,?_⟩;clear HS;go_wp2;go_ret2;exact⟨rfl,HB5.out⟩
section
variable {E:List Ed} {o:List Nat} {n:Nat}
theorem uE {θ:Int} {u:Nat} (hu:u<n):gQ E θ u<n:=Nat.lt_of_le_of_lt ((vZ E _).le u) hu
theorem D9 (θ:Int) (u:Nat):gQ E θ (gQ E θ u)=gQ E θ u:=(vZ E _).idem u
theorem Ur (θ:Int) {u:Nat} (hu:u<n):C8 E o n θ u<n+(aH E o).length:=by
 have h1:=lH (E:=E) (f:=aH E o) (i:=YO (aH E o) (NI E θ)) (uE (E:=E) (θ:=θ) hu);have h2:=Br (aH E o) (NI E θ);unfold C8;omega
theorem Oo (θ:Int) {u:Nat} (hu:u<n):qM E (aH E o) n (C8 E o n θ u)=gQ E θ u:=qL (uE hu)
theorem Uq (G:tZ n E) (ho:bO E o) (θ:Int) {u:Nat} (hu:u<n):nJ E (aH E o) n (C8 E o n θ u)=dU n (gQ E θ) u:=by
 unfold C8;rw[Fz (GN G ho) (Br _ _) (uE hu) (by rw[Jv ho,D9]),Jv ho];exact qU (D9 θ u)
end
def V8 (a s:Nat):Array Value:=#[.int .i64 (a:Nat),.int .i64 (s:Nat)]
theorem acn (vb n u:Nat) (E:List Ed) (θ:Int) (w:World) (h:yh w w.heap.size vb n E) (hu:u<n):
  Calls Tryz.prog 34 #[.pointer (some ⟨vb,0,none⟩),.int .i64 (u:Nat),.int .i64 θ] w λe w'=>e=.returned (.tuple #[.agg (V8 (gQ E θ u) (dU n (gQ E θ) u)),.int .i64 0])∧Below w.heap.size w w':=by
 obtain⟨z,b,tb,g,o,h⟩:=h;have hA:Below w.heap.size w (w.alloc (.cells #[.int .i64 0,.int .i64 0] 91)):=(Below.refl _ _).alloc (Nat.le_refl _) _;have hZ:Row (w.alloc (.cells #[.int .i64 0,.int .i64 0] 91)) w.heap.size 2 (λ_=>.int .i64 0):=Row.lit w _ _ sj lC;have h1:=(h.below hA).mono hA.size;have HA:=jh hA;have HZ:=jh hZ;have H0:=jh h;have HT:=jh (Yl vb n z tb g u b E o θ _ h1 hu);have htl:=Ur (o:=o) (E:=E) θ hu;have yQ:=h.tr.pU;have HLs:=jh (Oo (o:=o) (E:=E) θ hu);have uV:=jh (Uq h.ok h.ord θ hu);rw[←yQ] at htl;have HSs:=jh (show w.heap.size<(w.alloc (.cells #[.int .i64 0,.int .i64 0] 91)).heap.size by simp);have Hze:=jh yQ;clear h hA hZ h1 yQ;go_in;go_wp2_with fail;generalize w.alloc (.cells #[.int .i64 0,.int .i64 0] 91)=wa at*;apply mO HT;clear HT;rintro e w1 ⟨rfl,hb1⟩;have HB1:=jh (HA.out.trans (hb1.mono HA.out.size));have HZ1:=jh (HZ.out.below hb1 HSs.out);have H1:=jh (H0.out.below HB1.out);clear hb1 HA HZ;go_wp2_with fail;obtain⟨nd',hnd⟩:=nE (C8 E o n θ u);rw[hnd] at htl HLs uV⊢;have c7:=H1.out.c7;have c6:=H1.out.c6
 have cl:w1.cell? ⟨g,nd',none⟩=some (.int .i64 (gQ E θ u:Nat)):=by rw[H1.out.qM.cell htl];unfold iK;rw[HLs.out]
 have cs:w1.cell? ⟨b.s,nd',none⟩=some (.int .i64 (dU n (gQ E θ) u:Nat)):=by
  rw[H1.out.tr.rs.cell htl];unfold dJ;rw[AL (oC Hze.out),uV.out]
 have hni:(0:Int)≤nd'∧(nd':Int)<z:=om;have HS:w1.drew.cell? ⟨vb,7,none⟩=some (.slice (some ⟨g,0,none⟩) z z)∧w1.drew.cell? ⟨vb,6,none⟩=some (.slice (some ⟨b.s,0,none⟩) z z)∧w1.drew.cell? ⟨g,nd',none⟩=some (.int .i64 (gQ E θ u:Nat))∧w1.drew.cell? ⟨b.s,nd',none⟩=some (.int .i64 (dU n (gQ E θ) u:Nat)):=⟨c7,c6,cl,cs⟩;have HKp:=jh (show vb<w.heap.size∧g<w.heap.size∧b.s<w.heap.size from⟨H1.out.lt,H1.out.JJ,H1.out.tr.lo.2.2.2.2⟩);clear c7 c6 cl cs hnd HLs uV;obtain⟨lb,hlb⟩:=nE (gQ E θ u);obtain⟨sz,hsz⟩:=nE (dU n (gQ E θ) u);rw[hlb,hsz] at HS;have aev:=jh (And.intro hlb hsz);clear hlb hsz;refine aj (λw'=>w'.cell? ⟨vb,7,none⟩=some (.slice (some ⟨g,0,none⟩) z z)∧w'.cell? ⟨vb,6,none⟩=some (.slice (some ⟨b.s,0,none⟩) z z)∧w'.cell? ⟨g,nd',none⟩=some (.int .i64 lb)∧w'.cell? ⟨b.s,nd',none⟩=some (.int .i64 sz)) (by kernel_rfl) ?_;have HB2:=jh HB1.out.drew;have HZ2:=jh HZ1.out.drew;generalize w1.drew=w2 at*;refine tC 0 ?_;refine tC 1 ?_;refine tC 2 ?_;refine tC 3 ?_;refine tC 4 ?_;refine tC 5 ?_;refine tC 6 ?_;refine tC 7 ?_;refine tC 8 ?_;refine tC 9 ?_;refine tC 10 ?_;refine tC 11 ?_;refine tC 12 ?_;refine tC 13 ?_;refine tC 14 ?_;refine tC 15 ?_
 try simp only[sD]
 have z0:=HZ2.out.c 0;have z1:=HZ2.out.c 1;have fz:=λi=>HZ2.out.frozen i;have hb3:Below w.heap.size w2 ((w2.setCell ⟨w.heap.size,0,none⟩ (.int .i64 lb)).setCell ⟨w.heap.size,1,none⟩ (.int .i64 sz)):=((Below.refl _ _).setCell (p:=⟨w.heap.size,0,none⟩) (Nat.le_refl _) _).setCell (p:=⟨w.heap.size,1,none⟩) (Nat.le_refl _) _;have EZ:=jh (And.intro ((hb3.cell (p:=⟨vb,7,none⟩) HKp.out.1).trans HS.1) (And.intro ((hb3.cell (p:=⟨vb,6,none⟩) HKp.out.1).trans HS.2.1) (And.intro ((hb3.cell (p:=⟨g,nd',none⟩) HKp.out.2.1).trans HS.2.2.1) ((hb3.cell (p:=⟨b.s,nd',none⟩) HKp.out.2.2).trans HS.2.2.2))));have HB3:=jh (HB2.out.trans (hb3.mono (Nat.le_refl _)));have HZ3:=jh ((HZ2.out.set 0 (.int .i64 lb)).set 1 (.int .i64 sz));clear hb3;refine rC 16 λK hK=>?_;go_simp;refine hK.out _ _ EZ.out (λHS=>?_);clear hK z0 z1 fz EZ;generalize (w2.setCell ⟨w.heap.size,0,none⟩ (.int .i64 lb)).setCell ⟨w.heap.size,1,none⟩ (.int .i64 sz)=w3 at*;refine tC 17 ?_
 try simp only[sD]
 refine dD ⟨rfl,?_⟩;clear HS;go_wp2_with fail;have s0:=HZ3.out.c 0;have s1:=HZ3.out.c 1;refine bodyPost_ret (v:=.tuple #[.agg (V8 lb sz),.int .i64 0]) (by simp[results,Tryz.results34,go_sem,s0,s1,V8]) rfl ?_;exact⟨by rw[aev.out.1,aev.out.2],HB3.out⟩
section
variable {E:List Ed} {o:List Nat} {n:Nat}
theorem Ql (ho:bO E o) (F:Fo n E (aH E o)) {x y:Nat} (h:pa (pT E (aH E o) n) x=some y):n≤y∧y<n+(aH E o).length∧(n≤x→nth (hT E (aH E o) n) x≤nth (hT E (aH E o) n) y):=by
 have hx:=zD h;rw[cK] at hx;rw[Jk hx] at h
 cases hp:pk E (aH E o) n (aH E o).length x with
 |none=>rw[hp] at h;cases h
 |some i=>
  rw[hp] at h
  have e:n+i=y:=by simpa using h
  have h1:=wN F (Nat.le_refl _) hp;have h2:=uX hp;refine⟨om,om,λhn=>?_⟩;obtain⟨j,rfl⟩:∃j,x=n+j:=⟨x-n,om⟩;rw[←e,uN om,uN om,GH,GH];exact Ry ho om h2
theorem Bd (ho:bO E o) (F:Fo n E (aH E o)):∀(k:Nat) {x y:Nat},aL (pT E (aH E o) n) k x=some y→n≤x→n≤y∧nth (hT E (aH E o) n) x≤nth (hT E (aH E o) n) y
 |0,x,y,h,hx=>by
  obtain rfl:x=y:=by simpa [aL] using h
  exact⟨hx,Int.le_refl _⟩
 |k+1,x,y,h,hx=>by
  rw[pJ] at h;obtain⟨u,h1,h2⟩:=Option.bind_eq_some_iff.1 h;obtain⟨a1,_,a3⟩:=Ql ho F h1;obtain⟨b1,b2⟩:=Bd ho F k h2 a1;exact⟨b1,Int.le_trans (a3 hx) b2⟩
theorem DL (ho:bO E o) (F:Fo n E (aH E o)) {k x y:Nat} (h:aL (pT E (aH E o) n) (k+1) x=some y):n≤y:=by
 rw[pJ] at h;obtain⟨u,h1,h2⟩:=Option.bind_eq_some_iff.1 h;exact(Bd ho F k h2 (Ql ho F h1).1).1
theorem wR (ho:bO E o) (F:Fo n E (aH E o)) {θ:Int}:∀(k:Nat) {x y:Nat},aL (pT E (aH E o) n) k x=some y→x<n+(aH E o).length→nth (hT E (aH E o) n) y≤θ→iD (pT E (aH E o) n) (hT E (aH E o) n) θ x=iD (pT E (aH E o) n) (hT E (aH E o) n) θ y
 |0,x,y,h,_,_=>by
  obtain rfl:x=y:=by simpa [aL] using h
  rfl
 |k+1,x,y,h,hx,hy=>by
  rw[pJ] at h;obtain⟨u,h1,h2⟩:=Option.bind_eq_some_iff.1 h;obtain⟨a1,a2,_⟩:=Ql ho F h1;have hu:=(Bd ho F k h2 a1).2
  have hon:onward (pT E (aH E o) n) (hT E (aH E o) n) θ x=true:=by
   unfold onward;rw[h1];exact dP (Int.le_trans hu hy)
  obtain⟨u',e1,_,_,e2⟩:=tK F.tree (by rw[cK];exact hx) hon;rw[h1] at e1;obtain rfl:u=u':=Option.some.inj e1;rw[e2];exact wR ho F k h2 a2 hy
theorem Jm (F:Fo n E (aH E o)) {θ:Int}:∀(d:Nat) {x:Nat},x<n+(aH E o).length→dp (pT E (aH E o) n) x=d→
  (∃k,aL (pT E (aH E o) n) k x=some (iD (pT E (aH E o) n) (hT E (aH E o) n) θ x))∧(iD (pT E (aH E o) n) (hT E (aH E o) n) θ x=x∨nth (hT E (aH E o) n) (iD (pT E (aH E o) n) (hT E (aH E o) n) θ x)≤θ):=by
 intro d
 induction d using Nat.strongRecOn with
 |_ d ih=>
  intro x hx hd
  cases hon:onward (pT E (aH E o) n) (hT E (aH E o) n) θ x with
  |false=>rw[mK hon];exact⟨⟨0,rfl⟩,.inl rfl⟩
  |true=>
   obtain⟨u,e1,e2,e3,e4⟩:=tK F.tree (by rw[cK];exact hx) hon;obtain⟨⟨k,h1⟩,h2⟩:=ih (dp (pT E (aH E o) n) u) om (x:=u) (by rw[cK] at e2;exact e2) rfl;rw[e4];refine⟨⟨k+1,by rw[pJ,e1];exact h1⟩,.inr (h2.elim (λe=>?_) id)⟩;rw[e];unfold onward at hon;rw[e1] at hon;exact of_decide_eq_true hon
theorem Gd (ho:bO E o) (F:Fo n E (aH E o)) {u v:Nat} (hu:u<n) (hv:v<n) (θ:Int):
  gQ E θ u=gQ E θ v↔iD (pT E (aH E o) n) (hT E (aH E o) n) θ u=iD (pT E (aH E o) n) (hT E (aH E o) n) θ v:=by
 have hk:=Br (aH E o) (NI E θ);rw[xW F hk (λi hi=>GD ho hi θ) hu,xW F hk (λi hi=>GD ho hi θ) hv,←Jv ho];constructor
 ·intro e;rw[e]
 ·exact λe=>Bc (Nat.lt_of_le_of_lt (kT _ _ _ _) hu) (Nat.lt_of_le_of_lt (kT _ _ _ _) hv) e
theorem YI (ho:bO E o) (F:Fo n E (aH E o)) {u v c:Nat} (hu:u<n) (hv:v<n) (hne:u≠v) (hc:com (pT E (aH E o) n) u v=some c) (θ:Int):
  (gQ E θ u=gQ E θ v↔nth (hT E (aH E o) n) c≤θ)∧n≤c∧c<n+(aH E o).length:=by
 have Zh:u<(pT E (aH E o) n).length:=by rw[cK];omega
 have hlv:v<(pT E (aH E o) n).length:=by rw[cK];omega
 obtain⟨c1,c2,c3⟩:=Sc F.tree Zh hc;obtain⟨j,hj⟩:=(aF F.tree Zh).1 c1;obtain⟨i,hi⟩:=(aF F.tree hlv).1 c2;have hcl:=sJ F.tree Zh c1;rw[cK] at hcl
 have hcn:n≤c:=by
  cases j with
  |succ j=>exact DL ho F hj
  |zero=>
   cases i with
   |succ i=>exact DL ho F hi
   |zero=>
    have a:u=c:=by simpa [aL] using hj
    have b:v=c:=by simpa [aL] using hi
    exact absurd (a.trans b.symm) hne
 refine⟨⟨λe=>?_,λe=>?_⟩,hcn,hcl⟩
 ·rw[Gd ho F hu hv] at e;obtain⟨⟨k1,a1⟩,a2⟩:=Jm F (θ:=θ) _ (show u<n+(aH E o).length by omega) rfl;obtain⟨⟨k2,b1⟩,_⟩:=Jm F (θ:=θ) _ (show v<n+(aH E o).length by omega) rfl;rw[←e] at b1;have x3:=c3 _ ((aF F.tree Zh).2 ⟨k1,a1⟩) ((aF F.tree hlv).2 ⟨k2,b1⟩);obtain⟨k,hk⟩:=(aF F.tree (by rw[cK];exact hcl)).1 x3;obtain⟨d1,d2⟩:=Bd ho F k hk hcn;exact Int.le_trans d2 (a2.resolve_left λq=>om)
 ·rw[Gd ho F hu hv];exact(wR ho F j hj om e).trans (wR ho F i hi om e).symm
theorem Ve (ho:bO E o) (F:Fo n E (aH E o)) {u v:Nat} (hu:u<n) (hv:v<n) (hc:com (pT E (aH E o) n) u v=none) (θ:Int):gQ E θ u≠gQ E θ v:=λe=>by
 have Zh:u<(pT E (aH E o) n).length:=by rw[cK];omega
 have hlv:v<(pT E (aH E o) n).length:=by rw[cK];omega
 rw[Gd ho F hu hv] at e;obtain⟨⟨k1,a1⟩,_⟩:=Jm F (θ:=θ) _ (show u<n+(aH E o).length by omega) rfl;obtain⟨⟨k2,b1⟩,_⟩:=Jm F (θ:=θ) _ (show v<n+(aH E o).length by omega) rfl;rw[←e] at b1;obtain⟨c,k⟩:=Hg F.tree Zh ((aF F.tree Zh).2 ⟨k1,a1⟩) ((aF F.tree hlv).2 ⟨k2,b1⟩);rw[hc] at k;cases k
end
def Ij (E:List Ed) (p q:Nat) (θ:Int) (ok:Bool):Prop:=
 (ok=true∧(∀t,gQ E t p=gQ E t q↔θ≤t)∧∃j,j<E.length∧(aR E j).w=θ)∨(ok=false∧θ=0∧∀t,gQ E t p≠gQ E t q)
theorem Lm {E:List Ed} {o:List Nat} {n:Nat} (ho:bO E o) (F:Fo n E (aH E o)) {u v c:Nat} (hu:u<n) (hv:v<n) (hne:u≠v) (hc:com (pT E (aH E o) n) u v=some c):
  Ij E u v (hgt E (aH E o) n c) true∧n≤c∧c<n+(aH E o).length:=by
 have h:=λt=>YI ho F hu hv hne hc t;obtain⟨_,h1,h2⟩:=h 0;refine⟨.inl ⟨rfl,λt=>?_,(aH E o).getD (c-n) 0,Rz ho om,?_⟩,h1,h2⟩
 ·have:=(h t).1
  rwa [uN h2] at this
 ·unfold hgt;rw[if_neg om]
theorem Lp {E:List Ed} {o:List Nat} {n:Nat} (ho:bO E o) (F:Fo n E (aH E o)) {u v:Nat} (hu:u<n) (hv:v<n) (hc:com (pT E (aH E o) n) u v=none):Ij E u v 0 false:=
 .inr ⟨rfl,rfl,λt=>Ve ho F hu hv hc t⟩
theorem Pz:∀l:List Rc,∃M:Int,∀r∈l,r.w≤M
 |[]=>⟨0,λ_ h=>nomatch h⟩
 |r::l=>by
  obtain⟨M,h⟩:=Pz l;refine⟨max r.w M,λx hx=>?_⟩
  rcases List.mem_cons.1 hx with rfl |hx
  ·omega
  ·have:=h x hx;omega
section
variable {S:List Int} {l:List Rc} {E:List Ed} {p q:Nat} {θ:Int} {ok:Bool}
theorem yt.ahu (h:yt S l E) (hp:p<S.length) (hq:q<S.length) (m:Ij E p q θ ok):ok=true↔cZ (RL l) (aQ S p) (aQ S q):=by
 rcases m with⟨rfl,h1,_⟩ |⟨rfl,_,h1⟩
 ·exact⟨λ_=>((h.light θ hp hq).1 ((h1 θ).2 (Int.le_refl _))).mono λa b ⟨r,hr,e⟩=>⟨r,(List.mem_filter.1 hr).1,e⟩,λ_=>rfl⟩
 ·refine⟨λe=>(by cases e),λk=>?_⟩;obtain⟨M,hM⟩:=Pz l;have e:jV l M=l:=List.filter_eq_self.2 λr hr=>dP (hM r hr);exact absurd ((h.light M hp hq).2 (by rw[e];exact k)) (h1 M)
end
end Go.Proofs.YtpaeogglppampaaGreatDoor
