/- Lemmas of the proof. Conditions: as each one states. -/
import Derived.Test.YtpaeogglppampaaGreatQf
import Derived.Test.YtpaeogglppampaaGreatQO
import Derived.Laws.EntriesVeiled
import Derived.LoopN
import Derived.RangeFuncBound
import Derived.RangeFuncCalls
import Derived.RangeFuncLeaves
import Derived.Shelf.Abstract
import Derived.Shelf.RegionOpen
import Derived.OwnWalkIn
import Derived.TacticsInMore
import Derived.LoopNIn
import Derived.LoopIn
import Derived.BigRegionIn
set_option maxRecDepth 100000
set_option maxHeartbeats 16000000
namespace Go.Proofs.YtpaeogglppampaaGreat
open Go.RowKit
theorem ND (B n z x bt:Nat) (b:fB) (E:List Ed) (f:List Nat) (w:World) (h:fV w B n z b E f) (hB:B≤w.heap.size) (hT:aU w bt n z b):
  Calls Tryz.prog 191 #[.int .i64 (x:Nat),.pointer (some ⟨bt,0,none⟩)] w λe w'=>e=.returned (.bool true)∧Below w.heap.size w w':=by
 have c0:=hT.c0
 by_cases hn:x<n
 ·have HL:=jh (Q7 B n z x b E f w h hB hn);unfold jE at HL;have c1:=hT.c1;have c2:=hT.c2;have c3:=hT.c3;have c4:=hT.c4;have c5:=hT.c5;have d1:decide ((n:Int)≤x)=false:=dF om;have d2:decide (n≤x)=false:=dF om;clear h hT;go_in;go_wp2_with fail;apply mO HL;clear HL;rintro e w1 ⟨rfl,hb⟩;go_wp2;go_ret;exact⟨rfl,hb⟩
 ·have d1:decide ((n:Int)≤x)=true:=dP om;have d2:decide (n≤x)=true:=dP om;clear h hT;go_in;go_wp2;go_ret;exact⟨rfl,Below.refl _ _⟩
theorem NA (B n z x bt:Nat) (b:fB) (E:List Ed) (f:List Nat) (w:World) (h:fV w B n z b E f) (hB:B≤w.heap.size) (hT:aU w bt n z b) (hx:x<z):
  Calls Tryz.prog 195 #[.int .i64 (x:Nat),.pointer (some ⟨bt,0,none⟩)] w λe w'=>e=.returned (.bool true)∧Below w.heap.size w w':=by
 have HL:=jh (NV B n z x b E f w h hB hx);unfold jE at HL;have c0:=hT.c0;have c1:=hT.c1;have c2:=hT.c2;have c3:=hT.c3;have c4:=hT.c4;have c5:=hT.c5;clear h hT;go_in;go_wp2_with fail;apply mO HL;clear HL;rintro e w1 ⟨rfl,hb⟩;go_wp2;go_ret;exact⟨rfl,hb⟩
def Wh (E:List Ed) (f:List Nat) (n k y:Nat):Nat:=if y<k then lH E f n y else 0
theorem GN {E:List Ed} {f:List Nat} {n k y:Nat} (h:y<k):Wh E f n k y=lH E f n y:=if_pos h
theorem NC (B n z x bt g vb:Nat) (b:fB) (E:List Ed) (o:List Nat) (F:Nat→Value) (w:World) (h:fV w B n z b E (aM E o)) (ho:dO E o) (hB:B≤w.heap.size) (hT:aU w bt n z b) (hx:x<z)
  (hv:w.cell? ⟨vb,0,none⟩=some (.slice (some ⟨g,0,none⟩) z z)) (hg:Row w g z F) (hF:∀y<x,F y=.int .i64 (lH E (aM E o) n y:Nat)):
  Calls Tryz.prog 193 #[.int .i64 (x:Nat),.pointer (some ⟨bt,0,none⟩),.pointer (some ⟨vb,0,none⟩)] w λe w'=>e=.returned (.bool true)∧Below w.heap.size w w':=by
 have c0:=hT.c0
 by_cases hn:x<n
 ·have d1:decide ((x:Int)<n)=true:=dP om;have d2:decide (x<n)=true:=dP om;clear h hT hv hg hF;go_in;go_wp2;go_ret;exact⟨rfl,Below.refl _ _⟩
 ·have d1:decide ((x:Int)<n)=false:=dF om;have d2:decide (x<n)=false:=dF om;have hfo:=h.fo;have uE:=h.nQ;obtain⟨i,hi⟩:∃i,n+i=x:=⟨x-n,om⟩;have hil:i<(aM E o).length:=om;have hlf:nd E (aM E o) n i (mA E (aM E o) i)<n+i:=lF (hfo.qG hil);have hrg:nd E (aM E o) n i (mB E (aM E o) i)<n+i:=lF (hfo.vL hil)
  have HL:=jh (MO B n z i x g b E (aM E o) w h hB hil hi (λj hj=>abz ho hj hil) hg.lt
   (by rw[hg.cell om,hF _ om,mo (hfo.qG hil)]) (by rw[hg.cell om,hF _ om,mo (hfo.vL hil)]))
  unfold jE at HL;have c1:=hT.c1;have c2:=hT.c2;have c3:=hT.c3;have c4:=hT.c4;have c5:=hT.c5;clear h hT hg hF hfo uE hi hil hlf hrg;go_in;go_wp2_with fail;apply mO HL;clear HL;rintro e w1 ⟨rfl,hb⟩;go_wp2;go_ret;exact⟨rfl,hb⟩
structure Om (w:World) (B n z bt g vb:Nat) (b:fB) (E:List Ed) (o:List Nat) (F:Nat→Value):Prop where
 tr:fV w B n z b E (aM E o)
 hB:B≤w.heap.size
 bx:aU w bt n z b
 cv:Row w vb 1 (λ_=>.slice (some ⟨g,0,none⟩) z z)
 rg:Row w g z F
theorem Om.below {w w':World} {B n z bt g vb:Nat} {b:fB} {E:List Ed} {o:List Nat} {F:Nat→Value} (h:Om w B n z bt g vb b E o F) (hb:Below w.heap.size w w'):Om w' B n z bt g vb b E o F:=
 ⟨h.tr.below (hb.mono h.hB),Nat.le_trans h.hB hb.size,Row.below h.bx hb (Row.lt h.bx),h.cv.below hb h.cv.lt,h.rg.below hb h.rg.lt⟩
theorem Om.set {w:World} {B n z bt g vb:Nat} {b:fB} {E:List Ed} {o:List Nat} {F:Nat→Value} (h:Om w B n z bt g vb b E o F) (hg:B≤g) (h1:bt≠g) (h2:vb≠g) (x:Nat) (v:Value):Om (w.setCell ⟨g,x,none⟩ v) B n z bt g vb b E o (λy=>if y=x then v else F y):=
 ⟨h.tr.below ((Below.refl _ _).setCell (p:=⟨g,x,none⟩) hg v),Nat.le_trans h.hB ((Below.refl B w).setCell (p:=⟨g,x,none⟩) hg v).size,Row.setOther h.bx h1 v,h.cv.setOther h2 v,h.rg.set x v⟩
theorem Om.congr {w:World} {B n z bt g vb:Nat} {b:fB} {E:List Ed} {o:List Nat} {F F':Nat→Value} (h:Om w B n z bt g vb b E o F) (e:∀i<z,F i=F' i):Om w B n z bt g vb b E o F':=⟨h.tr,h.hB,h.bx,h.cv,h.rg.congr e⟩
def fnC (bt vb:Nat) (i:Nat):Value:=
 if i=0 then .func (.func 191) #[] #[.pointer (some ⟨bt,0,none⟩)] else if i=1 then .func (.func 193) #[] #[.pointer (some ⟨bt,0,none⟩),.pointer (some ⟨vb,0,none⟩)] else .func (.func 195) #[] #[.pointer (some ⟨bt,0,none⟩)]
theorem MZ (B n z x bt g vb cb fb:Nat) (b:fB) (E:List Ed) (o:List Nat) (F:Nat→Value) (w:World) (h:Om w B n z bt g vb b E o F) (ho:dO E o) (hx:x<z) (hF:∀y<x,F y=.int .i64 (lH E (aM E o) n y:Nat))
  (hc:Row w cb 1 (λ_=>.slice (some ⟨fb,0,none⟩) 3 3)) (hf:Row w fb 3 (fnC bt vb)):
  Calls Tryz.prog 197 #[.int .i64 (x:Nat),.pointer (some ⟨cb,0,none⟩)] w λe w'=>e=.returned (.bool true)∧Below w.heap.size w w':=by
 have c0:w.cell? ⟨cb,0,none⟩=some (.slice (some ⟨fb,0,none⟩) 3 3):=hc.c 0;have c1:w.cell? ⟨fb,0,none⟩=some (.func (.func 191) #[] #[.pointer (some ⟨bt,0,none⟩)]):=hf.c 0;have H:=jh h;have HF:=jh hF;have HC:=jh hc;have Hf:=jh hf;clear h hF hc hf;go_in;go_wp2_with fail;refine wp_loop_rounds 4 ?_;rw[rounds_succ];go_wp2_with fail;refine(ND B n z x bt b E (aM E o) w H.out.tr H.out.hB H.out.bx).mono ?_;rintro e w1 ⟨rfl,hb1⟩;have H1:=jh (H.out.below hb1);have c2:w1.cell? ⟨fb,1,none⟩=some (.func (.func 193) #[] #[.pointer (some ⟨bt,0,none⟩),.pointer (some ⟨vb,0,none⟩)]):=(Hf.out.below hb1 Hf.out.lt).c 1;have HB1:=jh hb1;clear hb1 c0 c1 H;go_wp2;rw[rounds_succ];go_wp2_with fail;refine(NC B n z x bt g vb b E o F w1 H1.out.tr ho H1.out.hB H1.out.bx hx (H1.out.cv.c 0) H1.out.rg HF.out).mono ?_;rintro e w2 ⟨rfl,hb2⟩;have H2:=jh (H1.out.below hb2);have aaW:=HB1.out.trans (hb2.mono HB1.out.size);have c3:w2.cell? ⟨fb,2,none⟩=some (.func (.func 195) #[] #[.pointer (some ⟨bt,0,none⟩)]):=(Hf.out.below aaW Hf.out.lt).c 2;have HB2:=jh aaW;clear hb2 aaW c2 H1 HB1;go_wp2;rw[rounds_succ];go_wp2_with fail;refine(NA B n z x bt b E (aM E o) w2 H2.out.tr H2.out.hB H2.out.bx hx).mono ?_;rintro e w3 ⟨rfl,hb3⟩;have HB3:=jh (HB2.out.trans (hb3.mono HB2.out.size));clear hb3 c3 H2 HB2;go_wp2;rw[rounds_succ];go_wp2;go_ret;exact⟨rfl,HB3.out⟩
def ab9 (n z:Nat) (E:List Ed) (f:List Nat) (w:World) (e:Ending) (w':World):Prop:=
 ∃g,e=.returned (.tuple #[.slice (some ⟨g,0,none⟩) z z,.bool true])∧Row w' g z (iK (lH E f n))∧w.heap.size≤g∧Below w.heap.size w w'
theorem xA (B n z:Nat) (b:fB) (E:List Ed) (o:List Nat) (w:World) (h:fV w B n z b E (aM E o)) (ho:dO E o) (hB:B≤w.heap.size):
  Calls Tryz.prog 167 #[.agg (jE n z b)] w (ab9 n z E (aM E o) w):=by
 have hA:Below w.heap.size w (w.alloc (.cells (jE n z b) 67)):=(Below.refl _ _).alloc (Nat.le_refl _) _;have hT:aU (w.alloc (.cells (jE n z b) 67)) w.heap.size n z b:=lW w n z b _;have h1:=(h.mono hB).below hA;obtain⟨tv,BS⟩:=nE (jE n z b);rw[BS] at hA hT h1⊢;have hz8:=h.Le;have hnl:=h.nZ;have hfl:=h.fo.qH;have uE:=h.nQ;have hnz:n≤z:=om;have hz2:z≤2*n:=om;have HA:=jh hA;have H1:=jh h1;have HT:=jh hT;have HS:=jh (show(w.alloc (.cells tv 67)).heap.size=w.heap.size+1 by simp);clear BS h h1 hA hT uE hfl
 have hmk:∀w,(Instr.makeSlice 64 (.int .i64 z) (.int .i64 z)).run Tryz.prog w=.ok (.slice (some ⟨w.heap.size,0,none⟩) z z) (w.alloc (.cells (madeCells #[.int .i64 0] z) 3)):=λw=>
  run_make_row' (P:=Tryz.prog) 64 3 (.int .i64 0) 8 Tryz.underlying64 Tryz.ng rfl .i64 .i64 z om om w
 go_in
 go_upto_region 1 with(fail)
 generalize w.alloc (.cells tv 67)=wa at*;have c0:=HT.out.c0;have c1:=HT.out.c1;have c2:=HT.out.c2;have c3:=HT.out.c3;have c4:=HT.out.c4;have c5:=HT.out.c5;have d1:decide ((n:Int)<0)=false:=dF om;have d2:decide ((4096:Int)<n)=false:=dF om;have d3:decide ((z:Int)<n)=false:=dF om;have d4:decide (z<n)=false:=dF om;have d5:decide (2*(n:Int)<z)=false:=dF om;have d6:decide (4096<n)=false:=dF om;go_wp2_with fail;have hbk:w.heap.size<wa.heap.size:=oC HS.out
 have M1:Row (wa.alloc (.cells (madeCells #[.int .i64 0] z) 3)) wa.heap.size z (iK (Wh E (aM E o) n 0)):=(Row.made wa (.int .i64 0) z 3).congr λi _=>by unfold iK Wh;rw[if_neg om];rfl
 have M2:Row ((wa.alloc (.cells (madeCells #[.int .i64 0] z) 3)).alloc (.cells #[.slice (some ⟨wa.heap.size,0,none⟩) z z] 64)) (wa.heap.size+1) 1 (λ_=>.slice (some ⟨wa.heap.size,0,none⟩) z z):=by
  have:=Row.lit (wa.alloc (.cells (madeCells #[.int .i64 0] z) 3)) #[.slice (some ⟨wa.heap.size,0,none⟩) z z] 64 (n:=1) (f:=λ_=>.slice (some ⟨wa.heap.size,0,none⟩) z z) sj lC
  rwa [World.size_alloc] at this
 have hb2:Below wa.heap.size wa ((wa.alloc (.cells (madeCells #[.int .i64 0] z) 3)).alloc (.cells #[.slice (some ⟨wa.heap.size,0,none⟩) z z] 64)):=((Below.refl _ wa).alloc (Nat.le_refl _) _).alloc sj _;have M1:=M1.alloc (.cells #[.slice (some ⟨wa.heap.size,0,none⟩) z z] 64);have hs2:((wa.alloc (.cells (madeCells #[.int .i64 0] z) 3)).alloc (.cells #[.slice (some ⟨wa.heap.size,0,none⟩) z z] 64)).heap.size=wa.heap.size+1+1:=sj;generalize (wa.alloc (.cells (madeCells #[.int .i64 0] z) 3)).alloc (.cells #[.slice (some ⟨wa.heap.size,0,none⟩) z z] 64)=wb at*
 have M3:Row (wb.alloc (.cells #[.func (.func 191) #[] #[.pointer (some ⟨w.heap.size,0,none⟩)],.func (.func 193) #[] #[.pointer (some ⟨w.heap.size,0,none⟩),.pointer (some ⟨wa.heap.size+1,0,none⟩)],.func (.func 195) #[] #[.pointer (some ⟨w.heap.size,0,none⟩)]] 182)) (wa.heap.size+1+1) 3 (fnC w.heap.size (wa.heap.size+1)):=by
  rw[←hs2];exact Row.lit wb _ _ sj lC
 have hb3:=hb2.alloc (o:=.cells #[.func (.func 191) #[] #[.pointer (some ⟨w.heap.size,0,none⟩)],.func (.func 193) #[] #[.pointer (some ⟨w.heap.size,0,none⟩),.pointer (some ⟨wa.heap.size+1,0,none⟩)],.func (.func 195) #[] #[.pointer (some ⟨w.heap.size,0,none⟩)]] 182) om
 have hs3:(wb.alloc (.cells #[.func (.func 191) #[] #[.pointer (some ⟨w.heap.size,0,none⟩)],.func (.func 193) #[] #[.pointer (some ⟨w.heap.size,0,none⟩),.pointer (some ⟨wa.heap.size+1,0,none⟩)],.func (.func 195) #[] #[.pointer (some ⟨w.heap.size,0,none⟩)]] 182)).heap.size=wa.heap.size+1+1+1:=by rw[World.size_alloc,hs2]
 have M1:=M1.alloc (.cells #[.func (.func 191) #[] #[.pointer (some ⟨w.heap.size,0,none⟩)],.func (.func 193) #[] #[.pointer (some ⟨w.heap.size,0,none⟩),.pointer (some ⟨wa.heap.size+1,0,none⟩)],.func (.func 195) #[] #[.pointer (some ⟨w.heap.size,0,none⟩)]] 182);have M2:=M2.alloc (.cells #[.func (.func 191) #[] #[.pointer (some ⟨w.heap.size,0,none⟩)],.func (.func 193) #[] #[.pointer (some ⟨w.heap.size,0,none⟩),.pointer (some ⟨wa.heap.size+1,0,none⟩)],.func (.func 195) #[] #[.pointer (some ⟨w.heap.size,0,none⟩)]] 182);generalize wb.alloc (.cells #[.func (.func 191) #[] #[.pointer (some ⟨w.heap.size,0,none⟩)],.func (.func 193) #[] #[.pointer (some ⟨w.heap.size,0,none⟩),.pointer (some ⟨wa.heap.size+1,0,none⟩)],.func (.func 195) #[] #[.pointer (some ⟨w.heap.size,0,none⟩)]] 182)=wd at*
 have M4:Row (wd.alloc (.cells #[.slice (some ⟨wa.heap.size+1+1,0,none⟩) 3 3] 299)) (wa.heap.size+1+1+1) 1 (λ_=>.slice (some ⟨wa.heap.size+1+1,0,none⟩) 3 3):=by
  rw[←hs3];exact Row.lit wd _ _ sj lC
 have hb4:=hb3.alloc (o:=.cells #[.slice (some ⟨wa.heap.size+1+1,0,none⟩) 3 3] 299) om;have M1:=M1.alloc (.cells #[.slice (some ⟨wa.heap.size+1+1,0,none⟩) 3 3] 299);have M2:=M2.alloc (.cells #[.slice (some ⟨wa.heap.size+1+1,0,none⟩) 3 3] 299);have M3:=M3.alloc (.cells #[.slice (some ⟨wa.heap.size+1+1,0,none⟩) 3 3] 299);generalize wd.alloc (.cells #[.slice (some ⟨wa.heap.size+1+1,0,none⟩) 3 3] 299)=wf at*
 have HL:=jh (show Om wf w.heap.size n z w.heap.size wa.heap.size (wa.heap.size+1) b E o (iK (Wh E (aM E o) n 0)) from
  ⟨H1.out.below (hb4.mono (Nat.le_of_lt hbk)),oC hb4.size,Row.below HT.out hb4 hbk,M2,M1⟩)
 have yN:=jh M3;have FW:=jh M4;have HB:=jh (HA.out.trans (hb4.mono (Nat.le_of_lt hbk)));generalize hg:wa.heap.size=g at*;clear M1 M2 M3 M4 hb2 hb3 hb4 hs2 hs3 H1 HT HA HS c0 c1 c2 c3 c4 c5 d1 d2 d3 d4 d5 d6 hmk hg
 go_loopw [67] (λiv wr=>∃k:Nat,k≤z∧iv=.int .i64 k∧Hid (Om wr w.heap.size n z w.heap.size g (g+1) b E o (iK (Wh E (aM E o) n k)))∧Hid (Row wr (g+1+1) 3 (fnC w.heap.size (g+1)))∧Hid (Row wr (g+1+1+1) 1 (λ_=>.slice (some ⟨g+1+1,0,none⟩) 3 3))∧Hid (Below w.heap.size w wr)) (λiv _=>z-(intOf iv).toNat)
 case atStart=>exact⟨0,Nat.zero_le _,rfl,HL,yN,FW,HB⟩
 case round=>
  clear HL yN FW HB;obtain⟨k,hk,rfl,HL,yN,FW,HB⟩:=hrel
  by_cases hlt:k<z
  ·have hki:(0:Int)≤k∧(k:Int)<z:=om;have cv:=HL.out.cv.c 0;have cr:=HL.out.rg.cell hlt;have fr:=HL.out.rg.frozen k;replace HL:=jh (HL.out.set (Nat.le_of_lt hbk) om om k (.int .i64 k));replace yN:=jh (yN.out.setOther (a:=⟨g,k,none⟩) (by show g+1+1≠g;omega) (.int .i64 k));replace FW:=jh (FW.out.setOther (a:=⟨g,k,none⟩) (by show g+1+1+1≠g;omega) (.int .i64 k));replace HB:=jh (HB.out.setCell (p:=⟨g,k,none⟩) (Nat.le_of_lt hbk) (.int .i64 k));go_wp2_with fail;clear cv cr fr;generalize wr.setCell ⟨g,k,none⟩ (.int .i64 k)=w1 at*;refine(MZ w.heap.size n z k w.heap.size g (g+1) (g+1+1+1) (g+1+1) b E o _ w1 HL.out ho hlt (λy hy=>by rw[if_neg om];unfold iK;rw[GN hy]) FW.out yN.out).mono ?_;rintro e w2 ⟨rfl,hb5⟩;replace HL:=jh (HL.out.below hb5);replace yN:=jh (yN.out.below hb5 yN.out.lt);replace FW:=jh (FW.out.below hb5 FW.out.lt);replace HB:=jh (HB.out.trans (hb5.mono HB.out.size));have c0:=HL.out.bx.c0;clear hb5
   by_cases hn:k<n
   ·have d1:decide ((n:Int)≤k)=false:=dF om;have d2:decide (n≤k)=false:=dF om;go_wp2_with fail
    replace HL:=jh (HL.out.congr (F':=iK (Wh E (aM E o) n (k+1))) (λy _=>by
     unfold iK Wh
     by_cases e:y=k
     ·rw[if_pos e,if_pos om,e,BD hn]
     ·rw[if_neg e]
      by_cases e2:y<k
      ·rw[if_pos e2,if_pos om]
      ·rw[if_neg e2,if_neg om]))
    go_roundw
    case rel=>exact⟨k+1,om,by go_num,HL,yN,FW,HB⟩
    case measure=>simp only[intOf];omega
   ·have d1:decide ((n:Int)≤k)=true:=dP om;have d2:decide (n≤k)=true:=dP om;go_wp2_with fail;have hfo:=HL.out.tr.fo;have uE:=HL.out.tr.nQ;obtain⟨i,hi⟩:∃i,n+i=k:=⟨k-n,om⟩;have hil:i<(aM E o).length:=om;have hlf:nd E (aM E o) n i (mA E (aM E o) i)<n+i:=lF (hfo.qG hil)
    have r1:w2.cell? ⟨b.l,k,none⟩=some (.int .i64 (nd E (aM E o) n i (mA E (aM E o) i):Nat)):=by rw[HL.out.tr.rl.cell hlt,←hi];unfold aX;rw[Gc hil]
    have r2:w2.cell? ⟨g,nd E (aM E o) n i (mA E (aM E o) i),none⟩=some (.int .i64 (mA E (aM E o) i:Nat)):=by
     rw[HL.out.rg.cell om,if_neg om];unfold iK;rw[GN om,mo (hfo.qG hil)]
    have HmA:=jh (show lH E (aM E o) n k=mA E (aM E o) i by rw[←hi,BF]);have cv:=HL.out.cv.c 0;have c1:=HL.out.bx.c1;have cr:=HL.out.rg.cell hlt;have fr:=HL.out.rg.frozen k;have hlz:nd E (aM E o) n i (mA E (aM E o) i)≠k:=om;have hl0:(0:Int)≤(nd E (aM E o) n i (mA E (aM E o) i):Nat)∧((nd E (aM E o) n i (mA E (aM E o) i):Nat):Int)<z:=om;generalize nd E (aM E o) n i (mA E (aM E o) i)=lf at*;generalize mA E (aM E o) i=ma at*;clear hfo uE hi hil hlf;have HS:w2.drew.cell? ⟨g+1,0,none⟩=some (.slice (some ⟨g,0,none⟩) z z)∧w2.drew.cell? ⟨w.heap.size,1,none⟩=some (.slice (some ⟨b.l,0,none⟩) z z)∧w2.drew.cell? ⟨b.l,k,none⟩=some (.int .i64 lf)∧w2.drew.cell? ⟨g,lf,none⟩=some (.int .i64 ma):=⟨cv,c1,r1,r2⟩;have hdr:=(Below.refl w2.heap.size w2).drew;replace HL:=jh (HL.out.below hdr);replace yN:=jh (yN.out.below hdr yN.out.lt);replace FW:=jh (FW.out.below hdr FW.out.lt);replace HB:=jh HB.out.drew;clear hdr cv c1 r1 r2 cr fr c0;refine aj (λw'=>w'.cell? ⟨g+1,0,none⟩=some (.slice (some ⟨g,0,none⟩) z z)∧w'.cell? ⟨w.heap.size,1,none⟩=some (.slice (some ⟨b.l,0,none⟩) z z)∧w'.cell? ⟨b.l,k,none⟩=some (.int .i64 lf)∧w'.cell? ⟨g,lf,none⟩=some (.int .i64 ma)) (by kernel_rfl) ?_;generalize w2.drew=w3 at*;refine tC 0 ?_;refine tC 1 ?_;refine tC 2 ?_;refine tC 3 ?_;refine tC 4 ?_;refine tC 5 ?_;refine tC 6 ?_;refine tC 7 ?_;refine tC 8 ?_;refine tC 9 ?_;refine tC 10 ?_
    try simp only[sD]
    have cr:=HL.out.rg.cell hlt;have fr:=HL.out.rg.frozen k;have hne:∀(v:Value) (p:Addr),¬(p.block=g∧p.off=k)→(w3.setCell ⟨g,k,none⟩ v).cell? p=w3.cell? p:=λv p hp=>World.cell?_setCell_other _ _ _ _ (λe=>hp (by rw[←e];exact⟨rfl,rfl⟩));have Zh:=jh hne;clear hne;have hbl:b.l<w.heap.size:=HL.out.tr.lo.1;refine rC 11 λK hK=>?_;go_simp;refine hK.out _ _ ⟨by rw[Zh.out _ _ (by show ¬(g+1=g∧0=k);omega)];exact HS.1,by rw[Zh.out _ _ (by show ¬(w.heap.size=g∧1=k);omega)];exact HS.2.1,by rw[Zh.out _ _ (by show ¬(b.l=g∧k=k);omega)];exact HS.2.2.1,by rw[Zh.out _ _ (by show ¬(g=g∧lf=k);omega)];exact HS.2.2.2⟩ (λ_=>?_);clear hK Zh HS cr fr;refine dD ⟨rfl,?_⟩
    replace HL:=jh ((HL.out.set (Nat.le_of_lt hbk) om om k (.int .i64 ma)).congr (F':=iK (Wh E (aM E o) n (k+1))) (λy _=>by
     unfold iK Wh
     by_cases e:y=k
     ·rw[if_pos e,if_pos om,e,HmA.out]
     ·rw[if_neg e,if_neg e]
      by_cases e2:y<k
      ·rw[if_pos e2,if_pos om]
      ·rw[if_neg e2,if_neg om]))
    replace yN:=jh (yN.out.setOther (a:=⟨g,k,none⟩) (by show g+1+1≠g;omega) (.int .i64 ma));replace FW:=jh (FW.out.setOther (a:=⟨g,k,none⟩) (by show g+1+1+1≠g;omega) (.int .i64 ma));replace HB:=jh (HB.out.setCell (p:=⟨g,k,none⟩) (Nat.le_of_lt hbk) (.int .i64 ma));generalize w3.setCell ⟨g,k,none⟩ (.int .i64 ma)=w4 at*;go_wp2;go_roundw
    case rel=>exact⟨k+1,om,by go_num,HL,yN,FW,HB⟩
    case measure=>simp only[intOf];omega
  ·obtain rfl:z=k:=om;have cv:=HL.out.cv.c 0;go_wp2;go_ret2;exact⟨g,rfl,HL.out.rg.congr (λy hy=>by unfold iK;rw[GN hy]),Nat.le_of_lt hbk,HB.out⟩
section
open Go.Shelf
theorem MH (B n z:Nat) (b:fB) (E:List Ed) (o:List Nat) (w:World) (h:fV w B n z b E (aM E o)) (ho:dO E o) (hB:B≤w.heap.size):
  Calls Tryz.prog 163 #[.agg (jE n z b)] w λe w'=>∃g,e=.returned (.slice (some ⟨g,0,none⟩) z z)∧Row w' g z (iK (lH E (aM E o) n))∧w.heap.size≤g∧Below w.heap.size w w':=by
 have hA:Below w.heap.size w (w.alloc (.cells (jE n z b) 67)):=(Below.refl _ _).alloc (Nat.le_refl _) _;have hT:aU (w.alloc (.cells (jE n z b) 67)) w.heap.size n z b:=lW w n z b _;have h1:=(h.mono hB).below hA;have HL:=jh (xA w.heap.size n z b E o _ h1 ho hA.size);have HL2:=HL;unfold jE at HL2;obtain⟨tv,BS⟩:=nE (jE n z b);have HA:=jh hA;rw[BS] at HA hT HL⊢;have BR:=BS;unfold jE at BR;rw[BR] at HL2;clear h h1 hA HL BS;have c0:=hT.c0;have c1:=hT.c1;have c2:=hT.c2;have c3:=hT.c3;have c4:=hT.c4;have c5:=hT.c5;have Htv:=jh BR;clear hT BR;go_in
 go_upto_region 1 with(fail)
 generalize w.alloc (.cells tv 67)=wa at*;go_wp2_with fail;rw[Htv.out];apply mO HL2;rintro e w1 ⟨g,rfl,hr,hg,hb⟩;have HR:=jh (And.intro hr (And.intro (Nat.le_trans HA.out.size hg) (HA.out.trans (hb.mono HA.out.size))));clear hr hg hb;go_wp2;go_ret;exact⟨g,rfl,HR.out⟩
def tJ (n₀ bt:Nat) (W W':World):Prop:=Below n₀ W W'∧W'.heap[bt]?=W.heap[bt]?
theorem JY {n₀ bt:Nat} {A B C:World} (h:tJ n₀ bt A B) (k:tJ n₀ bt B C):tJ n₀ bt A C:=⟨h.1.trans k.1,k.2.trans h.2⟩
theorem Wy {n₀ bt:Nat} {w:World} (h0:n₀≤w.heap.size) (hg:bt<w.heap.size) (W:World) (l:Nat) (o o':Obj) (hl:w.heap.size≤l) (ho:W.heap[l]?=some o) (hc:o.isCells=false) (hw:o.isWalk=false):tJ n₀ bt W (W.putObj l o'):=
 ⟨belowK_b h0 W l o o' hl ho hc hw,World.putObj_heap_other om⟩
def dnV (E:List Ed) (f:List Nat) (n x:Nat):Array Value:=#[.int .i64 (x:Nat),.int .i64 (stP E f n f.length x)]
theorem Io (m:Nat) (hm:1≤m) (bt n₀ n z:Nat) (b:fB) (E:List Ed) (f:List Nat) (w:World) (hT:aU w bt n z b) (h:fV w n₀ n z b E f) (hn0:n₀≤w.heap.size):
  XQ Fence.wide m Tryz.prog 198 #[.pointer (some ⟨bt,0,none⟩)] (dnV E f n) (tJ n₀ bt) (λpre x=>x+pre.length+1=z) (λxs=>xs.length=z) w:=λl J Jx W hW hJ hJx hY h0=>by
 have hz8:=h.Le;have HT:=jh (show aU W bt n z b from Row.below hT hW (Row.lt hT));have HTr:=jh (show fV W n₀ n z b E f from h.below (hW.mono hn0));have hbt:=Row.lt hT;have hsz:=hW.size;clear hT h hW hJx;have c3:=HT.out.c3;have hdz:IntKind.i64.wrap ((z:Int)-1)=(z:Int)-1:=IntWalk.i64_in _ om;refine callsIn_of_wp Tryz.func198 rfl trivial ?_ rfl;simp only[Tryz.ntmps198,List.size_toArray,List.length_cons,List.length_nil,Nat.reduceAdd,Nat.reduceSub,Array.replicate_succ,Array.replicate_zero,List.push_toArray,List.append_toArray,List.nil_append,List.cons_append]
 gi_wp2
 clear c3 hdz;have Zv:=jh h0;clear h0
 gi_loopw [3] (λp wr=>∃(c:Nat) (pre:List Nat) (y:Int),Hid (c≤z∧pre.length+c=z∧y=(c:Int)-1)∧p=.int .i64 y∧Hid (J pre wr)∧Hid (tJ n₀ bt W wr)) (λp _=>(intOf p+1).toNat)
 case atStart=>exact⟨z,[],(z:Int)-1,jh ⟨Nat.le_refl _,sj,rfl⟩,rfl,Zv,jh ⟨Below.refl _ _,rfl⟩⟩
 case round=>
  clear Zv;obtain⟨c,pre,y,HC,rfl,HJ,HK⟩:=hrel;obtain⟨hc1,hc2,hc3⟩:=HC.out
  cases c with
  |zero=>
   obtain rfl:y=-1:=om;clear hc3
   gi_wp2
   go_end0;exact⟨⟨_,rfl⟩,.inl ⟨pre,om,HJ.out⟩⟩
  |succ x=>
   obtain rfl:y=(x:Int):=om;have hxz:x<z:=om;have hxi:(0:Int)≤x∧(x:Int)<z:=om;obtain⟨fn,tmps,assign,body,hy,hR⟩:=hY pre x wr HJ.out om;have hTr:=HTr.out.below HK.out.1;have UH:aU wr bt n z b:=Row.of_block HT.out HK.out.2;have c3:=UH.c3;have r3:wr.cell? ⟨b.p,x,none⟩=some (.int .i64 (stP E f n f.length x)):=hTr.rp.cell hxz;unfold dnV at hy;obtain⟨pv,hpv⟩:=nE (stP E f n f.length x);rw[hpv] at hy r3;have hdx:IntKind.i64.wrap ((x:Int)-1)=(x:Int)-1:=IntWalk.i64_in _ om;have HCx:=jh (And.intro hc1 hc2);clear hTr UH hpv hc1 hc2 hc3 HC
   gi_wp2
   refine hR.mono ?_;rintro e W3 (⟨rfl,hJ3,hk3⟩ |⟨rfl,hJx3⟩)
   ·have HJ3:=jh hJ3;have HK3:=jh (JY HK.out hk3);clear hJ3 hk3
    gi_wp2
    go_roundw
    case rel=>exact⟨x,pre++[x],(x:Int)-1,jh ⟨oC HCx.out,by have:=HCx.out;simp;omega,rfl⟩,rfl,HJ3,HK3⟩
    case measure=>simp only[intOf];omega
   ·gi_wp2
    refine bodyPost_ret (results_none rfl _ _ _) rfl ?_;exact⟨⟨_,rfl⟩,.inr ⟨_,hJx3⟩⟩
theorem Nv (n z:Nat) (b:fB) (w:World):
  Calls Tryz.prog 168 #[.agg (jE n z b)] w λe w'=>e=.returned (.func (.func 198) #[] #[.pointer (some ⟨w.heap.size,0,none⟩)])∧w.alloc (.cells (jE n z b) 67)=w':=by
 go_in
 go_wp2
 go_ret;exact⟨rfl,rfl⟩
end
section
open Go.Shelf
attribute [local go_sem] Oper.semAt_some
theorem Tn (B:Nat) (ad:Addr) (cap m:Nat) (A:Nat→Addr) (f:Nat→Nat→Value) (w:World) (hS:Rd 64 1 w B (.slice (some ad) m cap) m f A) (hB:B≤w.heap.size) (hf:∀i<m,∀j<1,(f i j).oneCell'=true) (hm:m≤1000000):
  Calls Tryz.prog 90 #[.slice (some ad) m cap] w λe w'=>∃g cp,e=.returned (.slice (some ⟨g,0,none⟩) m cp)∧w.heap.size≤g∧w'.ownsRow w.heap.size 3 1 (.slice (some ⟨g,0,none⟩) m cp) m (flat f m 1)∧Below w.heap.size w w':=by
 have he:=λw=>Lib.run_eql_slice_nil (P:=Tryz.prog) w 64 3 (some ad) m cap 0 0 Tryz.underlying64;go_in
 go_wp2_with (at_builtin;refine uM Af rfl _ _ rfl hS hB hf _ rfl sj rfl om om ?_;intro g cp w1 hg R1 D1)
 go_ret;exact⟨g,cp,rfl,hg,R1,D1⟩
theorem Bb {w:World} {g m cap:Nat} {F:Nat→Int} (h:Row w g m (aX F)):Rd 64 1 w w.heap.size (.slice (some ⟨g,0,none⟩) m cap) m (λi _=>.int .i64 (F i)) (λi=>(⟨g,0,none⟩:Addr).add (i*1)):=
 Rd.addr Af (λ_=>h.lt) (λi hi j hj=>by
  obtain rfl:j=0:=om
  rw[ku,Nat.mul_one,Nat.zero_add,Nat.add_zero];exact h.cell hi)
theorem Qd {w:World} {base g m cp:Nat} {F:Nat→Int} (h:w.ownsRow base 3 1 (.slice (some ⟨g,0,none⟩) m cp) m (flat (λi _=>.int .i64 (F i)) m 1)):Row w g m (aX F):=
 (Row.owned h).congr λi hi=>by
  rw[xY];simp[List.getD,hi,aX]
theorem VT {w:World} {base g m cp:Nat} {e:TypeId} {xs:List Value} (h:w.ownsRow base e 1 (.slice (some ⟨g,0,none⟩) m cp) m xs):m≤cp:=by
 rcases h.2 with⟨h0,_⟩ |⟨g',c',cur,e1,h1⟩
 ·cases h0
 ·cases e1;exact h1.2.2.1
theorem JD {A B:World} {b n:Nat} {f:Nat→Value} {row:Option Nat} (h:Row A b n f) (hg:A.grownBy B row) (hr:∀r,row=some r→∃o:Obj,A.heap[r]?=some o∧o.isCells=false):Row B b n f:=
 h.of_block (hg.block b h.lt λe=>by
  obtain⟨o,ho,hc⟩:=hr b e.symm;obtain⟨c,t,h1,_⟩:=h
  rw[h1] at ho;cases ho;cases hc)
theorem Row.take {w:World} {g z n:Nat} {f:Nat→Value} (h:Row w g z f) (hn:n≤z):Row w g n f:=by
 obtain⟨c,t,h1,h2⟩:=h;exact⟨c,t,h1,λi hi=>h2 i om⟩
theorem zJ {w:World} {base base' n size:Nat} {e:TypeId} {v:Value} {xs:List Value} (h:w.ownsRow base e size v n xs) (hb:base'≤base):w.ownsRow base' e size v n xs:=
 ⟨h.1,h.2.imp id λ⟨g,c,cur,h1,h2,h3⟩=>⟨g,c,cur,h1,Nat.le_trans hb h2,h3⟩⟩
theorem Wx {w:World} {base n:Nat} {v:Value} {F:Nat→Int} {f:Nat→Nat} (h:w.ownsRow base 3 1 v n (flat (λi _=>.int .i64 (F i)) n 1)) (e:∀i<n,F i=((f i:Nat):Int)):IU base v n f w:=by
 have e2:(aH (jy n f)).map (Value.int .i64)=flat (λi _=>.int .i64 (F i)) n 1:=by
  rw[xY];unfold aH jy;rw[List.map_map,List.map_map]
  exact List.map_congr_left λi hi=>by simp only[Function.comp];rw[e i (List.mem_range.1 hi)]
 unfold IU;rw[e2];exact h
def JW (E:List Ed) (f:List Nat) (n k c y:Nat):Int:=if c≤y then((CR E f n k y:Nat):Int) else((lH E f n y:Nat):Int)
def agd (n:Nat) (E:List Ed) (θ:Int) (w:World) (e:Ending) (w':World):Prop:=∃v,e=.returned (.tuple #[v,.int .i64 0])∧IU w.heap.size v n (gV E θ) w'∧Below w.heap.size w w'
theorem Rl {E:List Ed} {f:List Nat} {n k y:Nat}:JW E f n k 0 y=((CR E f n k y:Nat):Int):=if_pos (Nat.zero_le _)
theorem Wt {E:List Ed} {f:List Nat} {n k z y:Nat} (h:y<z):JW E f n k z y=((lH E f n y:Nat):Int):=if_neg om
theorem Ez {E:List Ed} {f:List Nat} {n k x y:Nat} (h:CR E f n k x=lH E f n x):JW E f n k (x+1) y=JW E f n k x y:=by
 unfold JW
 by_cases e:y=x
 ·rw[if_neg om,if_pos om,e,h]
 ·by_cases c:x≤y
  ·rw[if_pos c,if_pos om]
  ·rw[if_neg c,if_neg om]
theorem Wu {E:List Ed} {f:List Nat} {n k x y:Nat} {v:Int} (h:((CR E f n k x:Nat):Int)=v):lV (JW E f n k (x+1)) x v y=JW E f n k x y:=by
 unfold lV JW
 by_cases e:y=x
 ·rw[if_pos e,if_pos om,e,h]
 ·rw[if_neg e]
  by_cases c:x≤y
  ·rw[if_pos c,if_pos om]
  ·rw[if_neg c,if_neg om]
theorem Bc (B n z:Nat) (b:fB) (E:List Ed) (o:List Nat) (θ:Int) (w:World) (h:fV w B n z b E (aM E o)) (ho:dO E o) (hB:B≤w.heap.size):
  Calls Tryz.prog 123 #[.agg (jE n z b),.int .i64 θ] w (agd n E θ w):=by
 refine(callsIn_wide (n:=8)).1 ?_;have hA:Below w.heap.size w ((w.alloc (.cells (jE n z b) 67)).alloc (.cells #[.int .i64 θ] 2)):=((Below.refl _ _).alloc (Nat.le_refl _) _).alloc sj _;have hT:aU ((w.alloc (.cells (jE n z b) 67)).alloc (.cells #[.int .i64 θ] 2)) w.heap.size n z b:=(lW w n z b _).alloc _
 have hTh:Boxed ((w.alloc (.cells (jE n z b) 67)).alloc (.cells #[.int .i64 θ] 2)) (w.heap.size+1) 2 (.int .i64 θ):=by
  have:=Boxed.new (w.alloc (.cells (jE n z b) 67)) 2 (.int .i64 θ)
  rwa [World.size_alloc] at this
 have HTw:=jh (h.mono hB);have h1:=(h.mono hB).below hA;have hz8:=h.Le;have uE:=h.nQ;have hnz:n≤z:=om;have HL:=jh (xA w.heap.size n z b E o _ h1 ho hA.size);have HDc:=jh (Nv n z b);unfold jE at HL HDc;obtain⟨tv,BS⟩:=nE (jE n z b);rw[BS] at hA hT hTh h1⊢;have BR:=BS;unfold jE at BR;rw[BR] at HL HDc;have Htv:=jh BR;have HA:=jh hA;have HT:=jh hT;have HTh:=jh hTh;have H1:=jh h1;have HS:=jh (show((w.alloc (.cells tv 67)).alloc (.cells #[.int .i64 θ] 2)).heap.size=w.heap.size+1+1 by simp);have c0:=hT.c0;have c1:=hT.c1;have c2:=hT.c2;have c3:=hT.c3;have c4:=hT.c4;have c5:=hT.c5;clear BS BR h h1 hA hT hTh uE;refine callsIn_of_wp_marks Tryz.func123 rfl trivial ?_ rfl;simp only[Tryz.ntmps123,List.size_toArray,List.length_cons,List.length_nil,Nat.reduceAdd,Nat.reduceSub,Array.replicate_succ,Array.replicate_zero,List.push_toArray,List.append_toArray,List.nil_append,List.cons_append]
 gi_wp2_with fail
 generalize (w.alloc (.cells tv 67)).alloc (.cells #[.int .i64 θ] 2)=wa at*;refine⟨trivial,?_⟩;rw[Htv.out];refine(callsIn_wide.2 HL.out).mono ?_;clear HL c0 c1 c2 c3 c4 c5;rintro e w1 ⟨g,rfl,hr,hg,hb1⟩;have hs1:=hb1.size;have HBa:=jh (HA.out.trans (hb1.mono HA.out.size));have HT1:=jh (show aU w1 w.heap.size n z b from Row.below HT.out hb1 (oC HS.out));have agD:=jh (show Boxed w1 (w.heap.size+1) 2 (.int .i64 θ) from(hb1.block _ (oC HS.out)).trans HTh.out);have H11:=jh (H1.out.below (hb1.mono (oC HS.out)));have K7:=jh (Tn w1.heap.size ⟨g,0,none⟩ z z _ _ w1 (Bb (F:=λy=>((lH E (aM E o) n y:Nat):Int)) hr) (Nat.le_refl _) (λ_ _ _ _=>rfl) om);have HSa:=jh (show w.heap.size+1<w1.heap.size by have:=HS.out;omega);clear hr hg hb1 hs1 HT HTh H1 HA HS
 gi_wp2_with fail
 refine⟨trivial,?_⟩;refine(callsIn_wide.2 K7.out).mono ?_;clear K7;rintro e w2 ⟨gl,cp,rfl,hgl,hown,hb2⟩;have hcp:=VT hown;have X9:=jh (Qd (F:=λy=>((lH E (aM E o) n y:Nat):Int)) hown);have hs2:=hb2.size;have aqV:=X9.out.lt;have HBb:=jh (HBa.out.trans (hb2.mono HBa.out.size));have HT2:=jh (show aU w2 w.heap.size n z b from Row.below HT1.out hb2 (oC HSa.out));have acp:=jh (show Boxed w2 (w.heap.size+1) 2 (.int .i64 θ) from(hb2.block _ (oC HSa.out)).trans agD.out);have H12:=jh (H11.out.below (hb2.mono (oC HSa.out)));have HSb:=jh (show w.heap.size+1<w2.heap.size∧w.heap.size+1<gl by have:=HSa.out;omega);have hbn:Below w2.heap.size w2 (w2.alloc (.cells #[.slice (some ⟨gl,0,none⟩) z cp] 64)):=(Below.refl _ _).alloc (Nat.le_refl _) _;have hTx:aU (w2.alloc (.cells #[.slice (some ⟨gl,0,none⟩) z cp] 64)) w.heap.size n z b:=Row.alloc HT2.out _;have c0:=hTx.c0;have c1:=hTx.c1;have c2:=hTx.c2;have c3:=hTx.c3;have c4:=hTx.c4;have c5:=hTx.c5;clear hown hb2 hs2 hTx hbn HT1 agD H11 HSa HBa hgl
 gi_wp2_with fail
 refine⟨trivial,?_⟩;rw[Htv.out];refine(callsIn_wide.2 (HDc.out _)).mono ?_;rintro e w3 ⟨rfl,rfl⟩;clear HDc c0 c1 c2 c3 c4 c5
 gi_wp2_with fail
 obtain⟨k,hk⟩:=nE (YI (aM E o) (GU E θ));have Hk:=jh hk
 have hkl:k≤(aM E o).length:=by rw[←hk];exact BL _ _
 clear hk;obtain⟨W0,hW0⟩:∃W0,(w2.alloc (.cells #[.slice (some ⟨gl,0,none⟩) z cp] 64)).alloc (.cells tv 67)=W0:=⟨_,rfl⟩
 have hb0:Below w2.heap.size w2 W0:=by rw[←hW0];exact((Below.refl _ _).alloc (Nat.le_refl _) _).alloc sj _
 have hs0:W0.heap.size=w2.heap.size+2:=by rw[←hW0];simp
 have hb9:Below w.heap.size w W0:=HBb.out.trans (hb0.mono HBb.out.size)
 have hv0:Boxed W0 w2.heap.size 64 (.slice (some ⟨gl,0,none⟩) z cp):=by rw[←hW0];exact(Boxed.new w2 64 _).alloc _
 have hbx0:aU W0 (w2.heap.size+1) n z b:=by
  rw[←hW0,←Htv.out];have:=lW (w2.alloc (.cells #[.slice (some ⟨gl,0,none⟩) z cp] 64)) n z b 67
  rwa [World.size_alloc] at this
 have hT0:aU W0 w.heap.size n z b:=Row.below HT2.out hb0 (Row.lt HT2.out);have aa1:Boxed W0 (w.heap.size+1) 2 (.int .i64 θ):=(hb0.block _ acp.out.lt).trans acp.out
 have hR0:Row W0 gl z (aX (JW E (aM E o) n k z)):=(X9.out.below hb0 X9.out.lt).congr λy hy=>by unfold aX;rw[Wt hy]
 have aa0:fV W0 w.heap.size n z b E (aM E o):=HTw.out.below hb9;have hsw:=HSb.out;rw[hW0];clear hW0 HBb HT2 acp H12 X9
 refine Gp (F:=Fence.wide) rfl om (gf:=198) (lb:=#[.pointer (some ⟨w2.heap.size+1,0,none⟩)]) rfl trivial (enters_of Tryz.func198 (by kernel_rfl) rfl)
  (Io 7 om (w2.heap.size+1) w.heap.size n z b E (aM E o) W0 hbx0 aa0 om) JY (Wy om om) (Below.refl _ _) (λ_=>rfl)
  (λpre W=>(Row W gl z (aX (JW E (aM E o) n k (z-pre.length)))∧Boxed W w2.heap.size 64 (.slice (some ⟨gl,0,none⟩) z cp)∧aU W w.heap.size n z b∧Boxed W (w.heap.size+1) 2 (.int .i64 θ))∧Below w.heap.size w W)
  (λ_ _ _=>False)
  (OwnFrom.and (λs A B row hs hg hr=>⟨JD hs.1 hg (λr e=>(hr r e).2),boxed_own _ _ (λ_:Unit=>.slice (some ⟨gl,0,none⟩) z cp) () A B row hs.2.1 hg (λr e=>(hr r e).2),JD hs.2.2.1 hg (λr e=>(hr r e).2),boxed_own _ _ (λ_:Unit=>.int .i64 θ) () A B row hs.2.2.2 hg (λr e=>(hr r e).2)⟩) (ownFrom_below (Nat.le_refl _) om))
  (λ_ _ _ _ _ hs _ _=>hs)
  ⟨⟨hR0,hv0,hT0,aa1⟩,hb9⟩
  (λ_ x a' _=>a'={ tmps:=#[.agg tv,.int .i64 θ,.pointer (some ⟨w.heap.size,0,none⟩),.pointer (some ⟨w.heap.size+1,0,none⟩),.slice none 0 0,.int .i64 0,.slice (some ⟨g,0,none⟩) z z,.bool true,.pointer (some ⟨w2.heap.size,0,none⟩),.int .i64 x,.int .i64 (stP E (aM E o) n (aM E o).length x),.tuple #[.slice (some ⟨g,0,none⟩) z z,.bool true],.agg tv,.tuple #[.slice (some ⟨g,0,none⟩) z z,.bool true],.slice (some ⟨g,0,none⟩) z z,.bool true,.bool true,.bool false,.slice (some ⟨g,0,none⟩) z z,.slice (some ⟨gl,0,none⟩) z cp,.agg tv,.func (.func 198) #[] #[.pointer (some ⟨w2.heap.size+1,0,none⟩)],.int .i64 x,.int .i64 (stP E (aM E o) n (aM E o).length x),undef,undef,undef,undef,undef,undef,undef,undef,undef,undef,undef,undef,undef,undef,undef,undef,undef,undef,undef,undef,undef,undef,undef],defers:=[] })
  (λ_ _ _ _ _ _ _ hs _ _=>hs) ?assign ?body ?done ?stop
 case assign=>
  intro l pre x W K hI hR hK;unfold dnV
  gi_wp2
  exact hK _ _ (KeepsFrom.refl _ _) ⟨Below.refl _ _,rfl⟩ hI rfl
 case body=>
  rintro l pre x a' W hl-⟨⟨hrow,hbv,hbt,BZ⟩,hB⟩ rfl hR;clear hR0 hv0 hT0 aa1 aa0 hbx0 hb0 hb9;have hxz:x<z:=om;have hc:z-pre.length=x+1:=om
  have hc2:z-(pre++[x]).length=x:=by simp;omega
  rw[hc] at hrow;have hTr:=HTw.out.below hB;have hrp:=hTr.rp;have hrh:=hTr.rh;have F:=hTr.fo;have uE:=hTr.nQ;have aaV:=hTr.lo;have Hc2:=jh hc2;have tQ:=jh hs0;clear hc hc2 hR hTr hs0
  cases hp:pk E (aM E o) n (aM E o).length x with
  |none=>
   have hpv:stP E (aM E o) n (aM E o).length x=-1:=by unfold stP;rw[hp];rfl
   have hlt:CR E (aM E o) n k x=lH E (aM E o) n x:=JR F hkl (λi hi=>by rw[hp] at hi;cases hi)
   have FIN:=jh (show KeepsFrom W0.heap.size W W.drew∧tJ w.heap.size (w2.heap.size+1) W W.drew∧(Row W.drew gl z (aX (JW E (aM E o) n k (z-(pre++[x]).length)))∧Boxed W.drew w2.heap.size 64 (.slice (some ⟨gl,0,none⟩) z cp)∧aU W.drew w.heap.size n z b∧Boxed W.drew (w.heap.size+1) 2 (.int .i64 θ))∧Below w.heap.size w W.drew from
    ⟨(KeepsOthers.drew W).from _,⟨(Below.refl _ W).drew,rfl⟩,⟨by rw[Hc2.out];exact hrow.congr λy _=>by unfold aX;rw[Ez hlt],hbv,hbt,BZ⟩,hB.drew⟩)
   rw[hpv];have HS:True:=trivial;clear hrow hbv hbt BZ hB hrp hrh F uE aaV hp hpv hlt
   gi_wp2
   refine fK (λ_=>True) (by kernel_rfl) (by kernel_rfl) ?_;generalize W.drew=v0 at*;refine tC 0 ?_;refine tC 1 ?_;refine tC 2 ?_;refine sC 3 ?_;refine sC 4 ?_;refine sC 5 ?_;refine sC 6 ?_;refine sC 7 ?_;refine sC 8 ?_;refine sC 9 ?_;refine tC 10 ?_
   try simp only[sD]
   refine dD ⟨rfl,?_⟩
   gi_wp2
   exact FIN.out
  |some i=>
   have hil:=rH hp;have hbel:=rJ F (Nat.le_refl _) hp;obtain⟨y,hy⟩:=nE (n+i)
   have hpv:stP E (aM E o) n (aM E o).length x=((y:Nat):Int):=by unfold stP;rw[hp,←hy];rfl
   have hyz:y<z:=om;have hxy:x<y:=om;have hkk:=J5 ho xB (S:=GU E θ) hil;rw[Hk.out,Wm] at hkk
   have ch:W.cell? ⟨b.h,y,none⟩=some (.int .i64 (aO E ((aM E o).getD i 0)).w):=by rw[hrh.cell hyz,←hy];unfold aX;rw[Gd hil]
   generalize (aO E ((aM E o).getD i 0)).w=hw at*;have HS:W.drew.cell? ⟨w.heap.size,4,none⟩=some (.slice (some ⟨b.h,0,none⟩) z z)∧W.drew.cell? ⟨b.h,y,none⟩=some (.int .i64 hw)∧W.drew.cell? ⟨w.heap.size+1,0,none⟩=some (.int .i64 θ):=⟨hbt.c4,ch,BZ.cell⟩;rw[hpv];have hyi:(0:Int)≤y∧(y:Int)<z:=om;have g1:decide ((0:Int)≤y)=true:=dP om
   by_cases hik:i<k
   ·have g2:decide (hw≤θ)=true:=dP (hkk.2 hik)
    have hlt:CR E (aM E o) n k x=CR E (aM E o) n k y:=by rw[aak F hp hik,hy]
    have cy:W.cell? ⟨gl,y,none⟩=some (.int .i64 (CR E (aM E o) n k y:Nat)):=by rw[hrow.cell hyz];unfold aX JW;rw[if_pos om]
    generalize CR E (aM E o) n k y=lb at*;have cx:=hrow.cell hxz;have fx:=hrow.frozen x;have aff:gl≠w2.heap.size:=om;have hxi:(0:Int)≤x∧(x:Int)<z:=om
    have FIN:=jh (show KeepsFrom W0.heap.size W (W.drew.drew.setCell ⟨gl,x,none⟩ (.int .i64 lb))∧tJ w.heap.size (w2.heap.size+1) W (W.drew.drew.setCell ⟨gl,x,none⟩ (.int .i64 lb))∧(Row (W.drew.drew.setCell ⟨gl,x,none⟩ (.int .i64 lb)) gl z (aX (JW E (aM E o) n k (z-(pre++[x]).length)))∧Boxed (W.drew.drew.setCell ⟨gl,x,none⟩ (.int .i64 lb)) w2.heap.size 64 (.slice (some ⟨gl,0,none⟩) z cp)∧aU (W.drew.drew.setCell ⟨gl,x,none⟩ (.int .i64 lb)) w.heap.size n z b∧Boxed (W.drew.drew.setCell ⟨gl,x,none⟩ (.int .i64 lb)) (w.heap.size+1) 2 (.int .i64 θ))∧Below w.heap.size w (W.drew.drew.setCell ⟨gl,x,none⟩ (.int .i64 lb)) from
     ⟨(((KeepsOthers.drew W).trans (KeepsOthers.drew _)).trans (KeepsOthers.setCell _ _ _)).from _,⟨((Below.refl _ W).drew.drew).setCell (p:=⟨gl,x,none⟩) (by show w.heap.size≤gl;omega) _,Below.heap_setCell _ _ _ _ (by show w2.heap.size+1≠gl;omega)⟩,
     ⟨by rw[Hc2.out];exact((hrow.drew.drew).set x _).congr λj _=>by rw[lJ];unfold aX;rw[Wu (by rw[hlt])],
      (Below.heap_setCell _ _ _ _ (by show w2.heap.size≠gl;omega)).trans hbv,Row.setOther (hbt:Row W.drew.drew w.heap.size 6 (trC n z b)) (a:=⟨gl,x,none⟩) (by show w.heap.size≠gl;omega) _,(Below.heap_setCell _ _ _ _ (by show w.heap.size+1≠gl;omega)).trans BZ⟩,
     (hB.drew.drew).setCell (p:=⟨gl,x,none⟩) (by show w.heap.size≤gl;omega) _⟩)
    have HS9:=jh (show W.drew.drew.cell? ⟨w2.heap.size,0,none⟩=some (.slice (some ⟨gl,0,none⟩) z cp)∧W.drew.drew.cell? ⟨gl,y,none⟩=some (.int .i64 lb) from⟨hbv.cell,cy⟩);have HC9:=jh (show W.drew.drew.cell? ⟨gl,x,none⟩=_∧W.drew.drew.frozen? ⟨gl,x,none⟩=false from⟨cx,fx⟩);have HZ9:=jh aff;have hyx:y≠x:=om;clear hrow hbv hbt BZ hB hrp hrh F uE aaV hp hpv hlt hkk ch cy cx fx aff hbel hil
    gi_wp2
    refine fK (λw'=>w'.cell? ⟨w.heap.size,4,none⟩=some (.slice (some ⟨b.h,0,none⟩) z z)∧w'.cell? ⟨b.h,y,none⟩=some (.int .i64 hw)∧w'.cell? ⟨w.heap.size+1,0,none⟩=some (.int .i64 θ)) (by kernel_rfl) (by kernel_rfl) ?_;generalize W.drew=v0 at*;refine tC 0 ?_;refine tC 1 ?_;refine tC 2 ?_;refine tC 3 ?_;refine tC 4 ?_;refine tC 5 ?_;refine tC 6 ?_;refine tC 7 ?_;refine tC 8 ?_;refine tC 9 ?_;refine tC 10 ?_
    try simp only[sD]
    refine dD ⟨rfl,?_⟩;clear HS
    gi_wp2
    have HS:=HS9.out;refine fK (λw'=>w'.cell? ⟨w2.heap.size,0,none⟩=some (.slice (some ⟨gl,0,none⟩) z cp)∧w'.cell? ⟨gl,y,none⟩=some (.int .i64 lb)) (by kernel_rfl) (by kernel_rfl) ?_;clear HS9;generalize v0.drew=v1 at*;refine tC 0 ?_;refine tC 1 ?_;refine tC 2 ?_;refine tC 3 ?_;refine tC 4 ?_;refine tC 5 ?_;refine tC 6 ?_
    try simp only[sD]
    obtain⟨cx,fx⟩:=HC9.out
    have Zh:=jh (show(v1.setCell ⟨gl,x,none⟩ (.int .i64 lb)).cell? ⟨w2.heap.size,0,none⟩=some (.slice (some ⟨gl,0,none⟩) z cp)∧(v1.setCell ⟨gl,x,none⟩ (.int .i64 lb)).cell? ⟨gl,y,none⟩=some (.int .i64 lb) from
     ⟨(World.cell?_setCell_other _ _ _ _ (λe=>HZ9.out (Addr.mk.inj e).1)).trans HS.1,(World.cell?_setCell_other _ _ _ _ (λe=>hyx (Addr.mk.inj e).2.1.symm)).trans HS.2⟩)
    refine rC 7 λK hK=>?_;go_simp;refine hK.out _ _ Zh.out (λ_=>?_);clear hK HS cx fx HC9 Zh;refine dD ⟨rfl,?_⟩
    gi_wp2
    exact FIN.out
   ·have g2:decide (hw≤θ)=false:=dF (λc=>hik (hkk.1 c));have hlt:CR E (aM E o) n k x=lH E (aM E o) n x:=JR F hkl (λj hj=>by rw[hp] at hj;cases hj;omega)
    have FIN:=jh (show KeepsFrom W0.heap.size W W.drew∧tJ w.heap.size (w2.heap.size+1) W W.drew∧(Row W.drew gl z (aX (JW E (aM E o) n k (z-(pre++[x]).length)))∧Boxed W.drew w2.heap.size 64 (.slice (some ⟨gl,0,none⟩) z cp)∧aU W.drew w.heap.size n z b∧Boxed W.drew (w.heap.size+1) 2 (.int .i64 θ))∧Below w.heap.size w W.drew from
     ⟨(KeepsOthers.drew W).from _,⟨(Below.refl _ W).drew,rfl⟩,⟨by rw[Hc2.out];exact hrow.congr λy _=>by unfold aX;rw[Ez hlt],hbv,hbt,BZ⟩,hB.drew⟩)
    clear hrow hbv hbt BZ hB hrp hrh F uE aaV hp hpv hlt hkk ch hbel hil
    gi_wp2
    refine fK (λw'=>w'.cell? ⟨w.heap.size,4,none⟩=some (.slice (some ⟨b.h,0,none⟩) z z)∧w'.cell? ⟨b.h,y,none⟩=some (.int .i64 hw)∧w'.cell? ⟨w.heap.size+1,0,none⟩=some (.int .i64 θ)) (by kernel_rfl) (by kernel_rfl) ?_;generalize W.drew=v0 at*;refine tC 0 ?_;refine tC 1 ?_;refine tC 2 ?_;refine tC 3 ?_;refine tC 4 ?_;refine tC 5 ?_;refine tC 6 ?_;refine tC 7 ?_;refine tC 8 ?_;refine tC 9 ?_;refine tC 10 ?_
    try simp only[sD]
    refine dD ⟨rfl,?_⟩;clear HS
    gi_wp2
    exact FIN.out
 case done=>
  rintro D xs W hD hS ⟨⟨hrow,hbv,hbt,BZ⟩,hB⟩ hK;rw[show z-xs.length=0 by omega] at hrow
  have hRn:Row W gl n (aX λy=>((CR E (aM E o) n k y:Nat):Int)):=(hrow.take hnz).congr λy _=>by unfold aX;rw[Rl]
  have K7:=jh (Tn W.heap.size ⟨gl,0,none⟩ cp n _ _ W (Bb hRn) (Nat.le_refl _) (λ_ _ _ _=>rfl) om);have cv:=hbv.cell;have c0:=hbt.c0;have hnc:n≤cp:=om;have Yh:=jh hB;have hKl:=(Array.getElem?_eq_some_iff.1 hK).1;clear hrow hbv hbt BZ hB hRn hR0 hv0 hT0 aa1 aa0 hbx0 hb0 hb9
  gi_wp2_with fail
  refine⟨trivial,?_⟩;refine(callsIn_wide.2 K7.out).mono ?_;rintro e w5 ⟨gr,cr,rfl,hgr,hown,hb5⟩
  gi_wp2_with fail
  have hK5:w5.heap[D]?=some (.deferred (some [])):=(hb5.block D hKl).trans hK;have hB5:=Yh.out.trans (hb5.mono Yh.out.size);have hwW:=Yh.out.size;refine⟨sj,.inl ⟨_,_,rfl,run_takeDeferred hK5,?_⟩⟩;exact⟨_,results_tmp2 rfl _ _ _,_,rfl,Wx (zJ (ownsRow_putObj hown _ hK5 rfl) hwW) (λy hy=>by rw[Ri hy,←Hk.out,JV ho]),hB5.trans (belowK_b (w:=w) (Nat.le_refl _) w5 D _ _ om hK5 rfl rfl)⟩
 case stop=>
  rintro D c pre W _ h _;exact h.elim
end
section
open Go.Shelf
attribute [local go_sem] Oper.semAt_some
def JK (n:Nat) (lab:Nat→Nat) (a:Nat):List Nat:=(List.range n).filter λx=>decide (lab x=a)
theorem V8 {x la:Nat} {lab:Nat→Nat} (h:lab x=la):JK (x+1) lab la=JK x lab la++[x]:=by
 unfold JK;rw[List.range_succ,List.filter_append,List.filter_cons,if_pos (dP h)];rfl
theorem aai {x la:Nat} {lab:Nat→Nat} (h:¬lab x=la):JK (x+1) lab la=JK x lab la:=by
 unfold JK;rw[List.range_succ,List.filter_append,List.filter_cons,if_neg (by simp[h])];simp
end
def Ux (n z:Nat) (b:fB) (tb g:Nat):Array Value:=#[.pointer (some ⟨tb,0,none⟩),.int .i64 (n:Nat),.slice (some ⟨b.l,0,none⟩) z z,.slice (some ⟨b.r,0,none⟩) z z,.slice (some ⟨b.p,0,none⟩) z z,.slice (some ⟨b.h,0,none⟩) z z,.slice (some ⟨b.s,0,none⟩) z z,.slice (some ⟨g,0,none⟩) z z]
structure uP (w:World) (B vb n z:Nat) (b:fB) (tb g:Nat) (E:List Ed) (o:List Nat):Prop where
 ok:tX n E
 ord:dO E o
 row:Row w vb 8 (λi=>(Ux n z b tb g).getD i undef)
 lt:vb<B
 tab:TabAt w B tb (pT E (aM E o) n)
 tr:fV w B n z b E (aM E o)
 lH:Row w g z (iK (lH E (aM E o) n))
 FU:g<B
section
variable {w w':World} {B B' vb n z tb g:Nat} {b:fB} {E:List Ed} {o:List Nat}
theorem uP.below (h:uP w B vb n z b tb g E o) (hb:Below B w w'):uP w' B vb n z b tb g E o:=
 ⟨h.ok,h.ord,h.row.below hb h.lt,h.lt,h.tab.below hb,h.tr.below hb,h.lH.below hb h.FU,h.FU⟩
theorem uP.mono (h:uP w B vb n z b tb g E o) (hB:B≤B'):uP w B' vb n z b tb g E o:=
 ⟨h.ok,h.ord,h.row,Nat.lt_of_lt_of_le h.lt hB,h.tab.mono hB,h.tr.mono hB,h.lH,Nat.lt_of_lt_of_le h.FU hB⟩
theorem uP.c0 (h:uP w B vb n z b tb g E o):w.cell? ⟨vb,0,none⟩=some (.pointer (some ⟨tb,0,none⟩)):=h.row.c 0
theorem uP.c1 (h:uP w B vb n z b tb g E o):w.cell? ⟨vb,1,none⟩=some (.int .i64 (n:Nat)):=h.row.c 1
theorem uP.c2 (h:uP w B vb n z b tb g E o):w.cell? ⟨vb,2,none⟩=some (.slice (some ⟨b.l,0,none⟩) z z):=h.row.c 2
theorem uP.c3 (h:uP w B vb n z b tb g E o):w.cell? ⟨vb,3,none⟩=some (.slice (some ⟨b.r,0,none⟩) z z):=h.row.c 3
theorem uP.c4 (h:uP w B vb n z b tb g E o):w.cell? ⟨vb,4,none⟩=some (.slice (some ⟨b.p,0,none⟩) z z):=h.row.c 4
theorem uP.c5 (h:uP w B vb n z b tb g E o):w.cell? ⟨vb,5,none⟩=some (.slice (some ⟨b.h,0,none⟩) z z):=h.row.c 5
theorem uP.c6 (h:uP w B vb n z b tb g E o):w.cell? ⟨vb,6,none⟩=some (.slice (some ⟨b.s,0,none⟩) z z):=h.row.c 6
theorem uP.c7 (h:uP w B vb n z b tb g E o):w.cell? ⟨vb,7,none⟩=some (.slice (some ⟨g,0,none⟩) z z):=h.row.c 7
end
def vQ (w:World) (B vb n:Nat) (E:List Ed):Prop:=∃(z:Nat) (b:fB) (tb g:Nat) (o:List Nat),uP w B vb n z b tb g E o
theorem vQ.below {w w':World} {B vb n:Nat} {E:List Ed} (h:vQ w B vb n E) (hb:Below B w w'):vQ w' B vb n E:=by
 obtain⟨z,b,tb,g,o,h⟩:=h;exact⟨z,b,tb,g,o,h.below hb⟩
theorem vQ.mono {w:World} {B B' vb n:Nat} {E:List Ed} (h:vQ w B vb n E) (hB:B≤B'):vQ w B' vb n E:=by
 obtain⟨z,b,tb,g,o,h⟩:=h;exact⟨z,b,tb,g,o,h.mono hB⟩
theorem fV.sl {w:World} {B n:Nat} {b:fB} {E:List Ed} {f:List Nat} (h:fV w B n (n+f.length) b E f):Sl 64 .i64 w B (.slice (some ⟨b.p,0,none⟩) (pT E f n).length (n+f.length)) (pT E f n) (λi=>(⟨b.p,0,none⟩:Addr).add (i*1)):=
 Rd.addr Af (λ_=>h.lo.2.2.1) (λi hi j hj=>by
  obtain rfl:j=0:=om;rw[jB] at hi;rw[ku,Nat.mul_one,Nat.zero_add,Nat.add_zero,h.rp.cell hi]
  unfold nums aX;rw[Qs hi];rfl)
theorem uP.held {lo:Nat} {w:World} {B vb n z tb g:Nat} {b:fB} {E:List Ed} {o:List Nat} (h:uP w B vb n z b tb g E o) (h1:lo≤vb) (h2:lo≤b.l∧lo≤b.r∧lo≤b.p∧lo≤b.h∧lo≤b.s) (h3:Held lo w λW=>TabAt W B tb (pT E (aM E o) n)) (h4:lo≤g):Held lo w λW=>vQ W B vb n E:=λW hW=>
 ⟨z,b,tb,g,o,h.ok,h.ord,h.row.of_block (hW _ h1 h.row.lt),h.lt,h3 W hW,
  ⟨h.tr.fo,h.tr.nZ,h.tr.nQ,h.tr.lo,h.tr.rl.of_block (hW _ h2.1 h.tr.rl.lt),h.tr.rr.of_block (hW _ h2.2.1 h.tr.rr.lt),h.tr.rp.of_block (hW _ h2.2.2.1 h.tr.rp.lt),h.tr.rh.of_block (hW _ h2.2.2.2.1 h.tr.rh.lt),h.tr.rs.of_block (hW _ h2.2.2.2.2 h.tr.rs.lt)⟩,
  h.lH.of_block (hW _ h4 h.lH.lt),h.FU⟩
theorem Held.on {base:Nat} {w w':World} {P:World→Prop} (h:Held base w P) (hb:Below w.heap.size w w'):Held base w' P:=λW hW=>h W λj h1 h2=>(hW j h1 (Nat.lt_of_lt_of_le h2 hb.size)).trans (hb.block j h2)
theorem Held.imp {base:Nat} {w:World} {P Q:World→Prop} (h:Held base w P) (f:∀W,P W→Q W):Held base w Q:=λW hW=>f W (h W hW)
def ac3 (n:Int) (E:List Ed) (w:World) (e:Ending) (w':World):Prop:=
 Below w.heap.size w w'∧((j5 n E≠0∧e=.returned (.tuple #[.pointer none,.int .i64 (j5 n E)]))∨
  (∃k vb:Nat,n=k∧tX k E∧e=.returned (.tuple #[.pointer (some ⟨vb,0,none⟩),.int .i64 0])∧Held w.heap.size w' λW=>vQ W w'.heap.size vb k E))
theorem NH (B:Nat) (a:Option Addr) (cap:Nat) (A:Nat→Addr) (n:Int) (E:List Ed) (w:World) (hS:ES w B (.slice a E.length cap) E A) (hB:B≤w.heap.size) (hm:E.length≤9223372036854775807):
  Calls Tryz.prog 117 #[.int .i64 n,.slice a E.length cap] w (ac3 n E w):=by
 have HM:=jh (qD B a cap A n E w hS hB hm);clear hS hm;go_in;go_wp2_with fail;apply mO HM;clear HM;rintro e w1 ⟨b1,⟨he,rfl⟩ |⟨k,o,b,z,rfl,G,ho,rfl,hT,hlo⟩⟩
 ·obtain⟨x,hx⟩:=nE (j5 n E);rw[hx] at he⊢
  have hne:(x !=0)=true:=by simpa using he
  have HE:=jh (And.intro he hx);have HB1:=jh b1;clear he hx b1;unfold iP;go_wp2;go_ret2;exact⟨HB1.out.alloc HB1.out.size _,.inl ⟨by rw[HE.out.2];exact HE.out.1,by rw[HE.out.2];rfl⟩⟩
 ·have hz8:=hT.Le;have uE:=hT.nQ;have hF:=hT.fo;have hE0:=hF.newE om;subst uE;have hb2:Below w1.heap.size w1 (w1.alloc (.cells (jE k (k+(aM E o).length) b) 67)):=(Below.refl _ _).alloc (Nat.le_refl _) _;have UH:aU (w1.alloc (.cells (jE k (k+(aM E o).length) b) 67)) w1.heap.size k (k+(aM E o).length) b:=lW w1 _ _ b _;have Xj:=hT.below hb2;have HN:=jh (QF hE0 Xj.sl hb2.size);rw[jB] at HN;obtain⟨z,hz⟩:=nE (k+(aM E o).length);rw[hz] at hb2 UH Xj HN⊢;have HL:=jh (fun(w9:World) (h9:Below w1.heap.size w1 w9) (hl9:w1.heap.size≤w9.heap.size)=>MH w1.heap.size k z b E o w9 (by rw[hz] at hT;exact hT.below h9) ho hl9);have HT2:=jh Xj;have HB1:=jh b1;have HB2:=jh hb2;have K6:=jh (And.intro G ho);have HTb:=jh UH;have HLo:=jh hlo;clear hlo;unfold jE at HN HB2 HT2 HTb HL⊢;clear hz hT hE0 hF hb2 UH Xj b1 G ho;go_wp2_with fail;have hs2:w1.heap.size<(w1.alloc (.cells #[.int .i64 k,.slice (some ⟨b.l,0,none⟩) z z,.slice (some ⟨b.r,0,none⟩) z z,.slice (some ⟨b.p,0,none⟩) z z,.slice (some ⟨b.h,0,none⟩) z z,.slice (some ⟨b.s,0,none⟩) z z] 67)).heap.size:=sj;generalize w1.alloc (.cells #[.int .i64 k,.slice (some ⟨b.l,0,none⟩) z z,.slice (some ⟨b.r,0,none⟩) z z,.slice (some ⟨b.p,0,none⟩) z z,.slice (some ⟨b.h,0,none⟩) z z,.slice (some ⟨b.s,0,none⟩) z z] 67)=w2 at*;apply mO HN;clear HN;rintro e w3 ⟨tb,rfl,Xi,hb3,hth⟩;have HTh:=jh hth;have G8:=HB1.out.size;have ajS:w.heap.size≤w2.heap.size:=Nat.le_trans G8 (Nat.le_of_lt hs2);have acu:=jh Xi;have HT3:=jh (HT2.out.below (hb3.mono HB2.out.size));have vN:aU w3 w1.heap.size k z b:=Row.below HTb.out hb3 hs2;have HB3:=jh (HB1.out.trans ((HB2.out.trans (hb3.mono HB2.out.size)).mono HB1.out.size));have acX:=jh (HB2.out.trans (hb3.mono HB2.out.size));have AF:=jh (HL.out w3.drew acX.out.drew acX.out.size);clear HL Xi hb3 HT2 HTb HB2 hs2 hth;go_wp2_with fail;have HS:w3.drew.cell? ⟨w1.heap.size,0,none⟩=some (.int .i64 k)∧w3.drew.cell? ⟨w1.heap.size,1,none⟩=some (.slice (some ⟨b.l,0,none⟩) z z)∧w3.drew.cell? ⟨w1.heap.size,2,none⟩=some (.slice (some ⟨b.r,0,none⟩) z z)∧w3.drew.cell? ⟨w1.heap.size,3,none⟩=some (.slice (some ⟨b.p,0,none⟩) z z)∧w3.drew.cell? ⟨w1.heap.size,4,none⟩=some (.slice (some ⟨b.h,0,none⟩) z z)∧w3.drew.cell? ⟨w1.heap.size,5,none⟩=some (.slice (some ⟨b.s,0,none⟩) z z):=⟨vN.c0,vN.c1,vN.c2,vN.c3,vN.c4,vN.c5⟩;have HTx:=jh vN;clear vN;refine aj (λw'=>w'.cell? ⟨w1.heap.size,0,none⟩=some (.int .i64 k)∧w'.cell? ⟨w1.heap.size,1,none⟩=some (.slice (some ⟨b.l,0,none⟩) z z)∧w'.cell? ⟨w1.heap.size,2,none⟩=some (.slice (some ⟨b.r,0,none⟩) z z)∧w'.cell? ⟨w1.heap.size,3,none⟩=some (.slice (some ⟨b.p,0,none⟩) z z)∧w'.cell? ⟨w1.heap.size,4,none⟩=some (.slice (some ⟨b.h,0,none⟩) z z)∧w'.cell? ⟨w1.heap.size,5,none⟩=some (.slice (some ⟨b.s,0,none⟩) z z)) (by kernel_rfl) ?_;refine tC 0 ?_;refine tC 1 ?_;refine tC 2 ?_
  try simp only[sD]
  refine rC 3 λK hK=>?_;go_simp;apply mO AF;clear AF;rintro e w5 ⟨g,rfl,hr,hg,hb5⟩;have hb5:Below w3.heap.size w3 w5:=(Below.refl w3.heap.size w3).drew.trans hb5;have Y1:aU w5 w1.heap.size k z b:=Row.below HTx.out hb5 (Row.lt HTx.out);refine hK.out _ _ ⟨Y1.c0,Y1.c1,Y1.c2,Y1.c3,Y1.c4,Y1.c5⟩ (λHS=>?_);clear hK;refine tC 4 ?_
  try simp only[sD]
  refine rC 5 λK hK=>?_;go_simp;have Y0:aU (w5.alloc (.cells (Ux k z b tb g) 155)) w1.heap.size k z b:=Row.alloc Y1 _;have hb6:Below w5.heap.size w5 (w5.alloc (.cells (Ux k z b tb g) 155)):=(Below.refl _ _).alloc (Nat.le_refl _) _;have hs6:(w5.alloc (.cells (Ux k z b tb g) 155)).heap.size=w5.heap.size+1:=sj;have hV6:Row (w5.alloc (.cells (Ux k z b tb g) 155)) w5.heap.size 8 (λi=>(Ux k z b tb g).getD i undef):=Row.lit w5 _ _ (by simp[Ux]) lC;have xU:=hb5.size;have h13:=acX.out.size
  have HV:=jh (show Held w.heap.size (w5.alloc (.cells (Ux k z b tb g) 155)) λW=>vQ W (w5.alloc (.cells (Ux k z b tb g) 155)).heap.size w5.heap.size k E from
   uP.held (z:=z) (b:=b) (tb:=tb) (g:=g) (o:=o) ⟨K6.out.1,K6.out.2,hV6,om,((acu.out.below hb5).mono xU).below hb6 |>.mono hb6.size,((HT3.out.below (hb5.mono h13)).mono (Nat.le_trans h13 xU)).below hb6 |>.mono hb6.size,hr.alloc _,oC hr.lt⟩
    om HLo.out (((((HTh.out.lower ajS).on hb5).on hb6).imp λW hW=>hW.mono (Nat.le_trans xU hb6.size))) (Nat.le_trans (Nat.le_trans G8 h13) hg))
  have Da:=jh ((HB3.out.trans (hb5.mono HB3.out.size)).trans (hb6.mono (Nat.le_trans HB3.out.size xU)));unfold Ux at HV Da Y0;refine hK.out _ _ ⟨Y0.c0,Y0.c1,Y0.c2,Y0.c3,Y0.c4,Y0.c5⟩ (λHS=>?_);clear hK Y0 hb6 hs6 hV6 xU h13 hr hg hb5 Y1;refine tC 6 ?_;refine tC 7 ?_
  try simp only[sD]
  refine dD ⟨rfl,?_⟩;clear HS;generalize w5.alloc (.cells #[.pointer (some ⟨tb,0,none⟩),.int .i64 k,.slice (some ⟨b.l,0,none⟩) z z,.slice (some ⟨b.r,0,none⟩) z z,.slice (some ⟨b.p,0,none⟩) z z,.slice (some ⟨b.h,0,none⟩) z z,.slice (some ⟨b.s,0,none⟩) z z,.slice (some ⟨g,0,none⟩) z z] 155)=w6 at*;go_wp2;go_ret2;exact⟨Da.out,.inr ⟨k,_,rfl,K6.out.1,rfl,HV.out⟩⟩
theorem zx (vb tb:Nat) (w:World) (h:w.cell? ⟨vb,0,none⟩=some (.pointer (some ⟨tb,0,none⟩))):
  Calls Tryz.prog 119 #[.pointer (some ⟨vb,0,none⟩)] w λe w'=>e=.returned (.bool true)∧w=w':=by
 go_in;go_wp2;go_ret;exact⟨rfl,rfl⟩
theorem Fj (vb n:Nat) (E:List Ed) (θ:Int) (w:World) (h:vQ w w.heap.size vb n E):
  Calls Tryz.prog 73 #[.pointer (some ⟨vb,0,none⟩),.int .i64 θ] w λe w'=>∃v,e=.returned v∧IU w.heap.size v n (gV E θ) w'∧Below w.heap.size w w':=by
 obtain⟨z,b,tb,g,o,h⟩:=h;have HV:=jh (zx vb tb w h.c0);have HL:=jh (Bc w.heap.size n z b E o θ w h.tr h.ord (Nat.le_refl _));unfold jE at HL;have c1:=h.c1;have c2:=h.c2;have c3:=h.c3;have c4:=h.c4;have c5:=h.c5;have c6:=h.c6;clear h;go_in;go_wp2_with fail;apply mO HV;rintro e w' ⟨rfl,rfl⟩;go_wp2_with fail;apply mO HL;clear HL HV c1 c2 c3 c4 c5 c6;rintro e w1 ⟨v,rfl,hv,hb⟩;have HR:=jh (And.intro hv hb);clear hv hb;go_wp2;go_ret;exact⟨v,rfl,HR.out.1,HR.out.2⟩
theorem afQ:ET 65 2 1 8:=ET.of Tryz.underlying65 Tryz.J7 rfl (by decide)
theorem Vi {E:List Ed} {f:List Nat} {n x:Nat} (h:x<n+f.length):iw E f n f.length x=hgt E f n x:=by
 unfold iw hgt
 by_cases c:x<n
 ·rw[if_pos c,if_neg om]
 ·rw[if_neg c,if_pos om]
theorem fV.rdH {w:World} {B n:Nat} {b:fB} {E:List Ed} {f:List Nat} (h:fV w B n (n+f.length) b E f):Rd 65 1 w B (.slice (some ⟨b.h,0,none⟩) (hT E f n).length (n+f.length)) (hT E f n).length (nums .i64 (hT E f n)) (λi=>(⟨b.h,0,none⟩:Addr).add (i*1)):=
 Rd.addr afQ (λ_=>h.lo.2.2.2.1) (λi hi j hj=>by
  obtain rfl:j=0:=om;rw[Ib] at hi;rw[ku,Nat.mul_one,Nat.zero_add,Nat.add_zero,h.rh.cell hi]
  unfold nums aX;rw[Ia hi,Vi hi])
theorem fV.key {w:World} {B n:Nat} {b:fB} {E:List Ed} {f:List Nat} (h:fV w B n (n+f.length) b E f):Key w B (.slice (some ⟨b.h,0,none⟩) (hT E f n).length (n+f.length)) (hT E f n) (λi=>(⟨b.h,0,none⟩:Addr).add (i*1)):=
 ⟨h.rdH.ix,h.rdH.lt,λi hi=>by have:=h.rdH.cell i hi 0 om;rw[add_zero] at this;exact this⟩
def Dt (E:List Ed) (o:List Nat) (n:Nat) (θ:Int) (u:Nat):Nat:=nd E (aM E o) n (YI (aM E o) (GU E θ)) (gV E θ u)
theorem XF {E:List Ed} {o:List Nat} {n:Nat} (G:tX n E) (ho:dO E o) (θ:Int) {u:Nat} (hu:u<n):UN (pT E (aM E o) n) (u:Int) (hT E (aM E o) n) θ=((Dt E o n θ u:Nat):Int):=by
 rw[Tq hu,Tp (Ie G ho) (BL _ _) (λi hi=>by rw[aaO ho hi]) hu,JV ho];rfl
theorem ZI (vb n z tb g u:Nat) (b:fB) (E:List Ed) (o:List Nat) (θ:Int) (w:World) (h:uP w w.heap.size vb n z b tb g E o) (hu:u<n):
  Calls Tryz.prog 71 #[.pointer (some ⟨vb,0,none⟩),.int .i64 (u:Nat),.int .i64 θ] w λe w'=>e=.returned (.tuple #[.int .i64 (Dt E o n θ u:Nat),.int .i64 0])∧Below w.heap.size w w':=by
 have HV:=jh (zx vb tb w h.c0);have c0:=h.c0;have c1:=h.c1;have c5:=h.c5;have htr:=h.tr;have uE:=htr.nQ;subst uE;have htab:=(h.tab.mono (Nat.le_refl _)).below (Below.refl w.heap.size w).drew;have HC:=jh (NI tb w.heap.size (pT E (aM E o) n) (hT E (aM E o) n) θ _ _ _ (u:Int) w.drew htab (htr.key.below (Below.refl w.heap.size w).drew) (Nat.le_refl _));rw[XF h.ok h.ord θ hu,Fp hu,Ib] at HC;obtain⟨z,hz⟩:=nE (n+(aM E o).length);rw[hz] at HC c5;have HU:=jh h.row.lt;clear h htr htab hz;have d1:decide ((u:Int)<0)=false:=dF om;have d2:decide ((n:Int)≤u)=false:=dF om;have d3:decide (n≤u)=false:=dF om;go_in;go_wp2_with fail;apply mO HV;rintro e w' ⟨rfl,rfl⟩;go_wp2_with fail;have HS:w.drew.cell? ⟨vb,0,none⟩=some (.pointer (some ⟨tb,0,none⟩))∧w.drew.cell? ⟨vb,5,none⟩=some (.slice (some ⟨b.h,0,none⟩) z z):=⟨c0,c5⟩;refine aj (λw'=>w'.cell? ⟨vb,0,none⟩=some (.pointer (some ⟨tb,0,none⟩))∧w'.cell? ⟨vb,5,none⟩=some (.slice (some ⟨b.h,0,none⟩) z z)) (by kernel_rfl) ?_;refine tC 0 ?_;refine tC 1 ?_;refine tC 2 ?_;refine tC 3 ?_;refine tC 4 ?_;refine tC 5 ?_;refine tC 6 ?_;refine tC 7 ?_;refine tC 8 ?_;refine tC 9 ?_;refine tC 10 ?_
 try simp only[sD]
 refine rC 11 λK hK=>?_;go_simp;apply mO HC;clear HC;rintro e w5 ⟨rfl,hb5⟩;have hb5:Below w.heap.size w w5:=(Below.refl w.heap.size w).drew.trans hb5;refine hK.out _ _ ⟨(hb5.cell (p:=⟨vb,0,none⟩) HU.out).trans c0,(hb5.cell (p:=⟨vb,5,none⟩) HU.out).trans c5⟩ (λHS=>?_);have Yj:=jh hb5;clear hK hb5 c0 c5 c1 HU HV d1 d2 d3;refine tC 12 ?_;refine tC 13 ?_;refine tC 14 ?_;refine tC 15 ?_
 try simp only[sD]
 refine dD ⟨rfl,?_⟩;clear HS;go_wp2;go_ret2;exact⟨rfl,Yj.out⟩
section
variable {E:List Ed} {o:List Nat} {n:Nat}
theorem BK {θ:Int} {u:Nat} (hu:u<n):gV E θ u<n:=Nat.lt_of_le_of_lt ((pI E _).le u) hu
theorem Ew (θ:Int) (u:Nat):gV E θ (gV E θ u)=gV E θ u:=(pI E _).idem u
theorem Ve (θ:Int) {u:Nat} (hu:u<n):Dt E o n θ u<n+(aM E o).length:=by
 have h1:=lF (E:=E) (f:=aM E o) (i:=YI (aM E o) (GU E θ)) (BK (E:=E) (θ:=θ) hu);have h2:=BL (aM E o) (GU E θ);unfold Dt;omega
theorem OT (θ:Int) {u:Nat} (hu:u<n):lH E (aM E o) n (Dt E o n θ u)=gV E θ u:=mo (BK hu)
theorem Vd (G:tX n E) (ho:dO E o) (θ:Int) {u:Nat} (hu:u<n):nK E (aM E o) n (Dt E o n θ u)=bO n (gV E θ) u:=by
 unfold Dt;rw[F5 (Ie G ho) (BL _ _) (BK hu) (by rw[JV ho,Ew]),JV ho];exact qN (Ew θ u)
end
def Xm (a s:Nat):Array Value:=#[.int .i64 (a:Nat),.int .i64 (s:Nat)]
theorem aef (vb n u:Nat) (E:List Ed) (θ:Int) (w:World) (h:vQ w w.heap.size vb n E) (hu:u<n):
  Calls Tryz.prog 34 #[.pointer (some ⟨vb,0,none⟩),.int .i64 (u:Nat),.int .i64 θ] w λe w'=>e=.returned (.tuple #[.agg (Xm (gV E θ u) (bO n (gV E θ) u)),.int .i64 0])∧Below w.heap.size w w':=by
 obtain⟨z,b,tb,g,o,h⟩:=h;have hA:Below w.heap.size w (w.alloc (.cells #[.int .i64 0,.int .i64 0] 89)):=(Below.refl _ _).alloc (Nat.le_refl _) _;have hZ:Row (w.alloc (.cells #[.int .i64 0,.int .i64 0] 89)) w.heap.size 2 (λ_=>.int .i64 0):=Row.lit w _ _ sj lC;have h1:=(h.below hA).mono hA.size;have HA:=jh hA;have HZ:=jh hZ;have H0:=jh h;have HT:=jh (ZI vb n z tb g u b E o θ _ h1 hu);have htl:=Ve (o:=o) (E:=E) θ hu;have uE:=h.tr.nQ;have HLs:=jh (OT (o:=o) (E:=E) θ hu);have tQ:=jh (Vd h.ok h.ord θ hu);rw[←uE] at htl;have HSs:=jh (show w.heap.size<(w.alloc (.cells #[.int .i64 0,.int .i64 0] 89)).heap.size by simp);have Hze:=jh uE;clear h hA hZ h1 uE;go_in;go_wp2_with fail;generalize w.alloc (.cells #[.int .i64 0,.int .i64 0] 89)=wa at*;apply mO HT;clear HT;rintro e w1 ⟨rfl,hb1⟩;have HB1:=jh (HA.out.trans (hb1.mono HA.out.size));have HZ1:=jh (HZ.out.below hb1 HSs.out);have H1:=jh (H0.out.below HB1.out);clear hb1 HA HZ;go_wp2_with fail;obtain⟨nd',hnd⟩:=nE (Dt E o n θ u);rw[hnd] at htl HLs tQ⊢;have c7:=H1.out.c7;have c6:=H1.out.c6
 have cl:w1.cell? ⟨g,nd',none⟩=some (.int .i64 (gV E θ u:Nat)):=by rw[H1.out.lH.cell htl];unfold iK;rw[HLs.out]
 have cs:w1.cell? ⟨b.s,nd',none⟩=some (.int .i64 (bO n (gV E θ) u:Nat)):=by
  rw[H1.out.tr.rs.cell htl];unfold aX;rw[AV (oC Hze.out),tQ.out]
 have hni:(0:Int)≤nd'∧(nd':Int)<z:=om;have HS:w1.drew.cell? ⟨vb,7,none⟩=some (.slice (some ⟨g,0,none⟩) z z)∧w1.drew.cell? ⟨vb,6,none⟩=some (.slice (some ⟨b.s,0,none⟩) z z)∧w1.drew.cell? ⟨g,nd',none⟩=some (.int .i64 (gV E θ u:Nat))∧w1.drew.cell? ⟨b.s,nd',none⟩=some (.int .i64 (bO n (gV E θ) u:Nat)):=⟨c7,c6,cl,cs⟩;have HKp:=jh (show vb<w.heap.size∧g<w.heap.size∧b.s<w.heap.size from⟨H1.out.lt,H1.out.FU,H1.out.tr.lo.2.2.2.2⟩);clear c7 c6 cl cs hnd HLs tQ;obtain⟨lb,hlb⟩:=nE (gV E θ u);obtain⟨sz,hsz⟩:=nE (bO n (gV E θ) u);rw[hlb,hsz] at HS;have agq:=jh (And.intro hlb hsz);clear hlb hsz;refine aj (λw'=>w'.cell? ⟨vb,7,none⟩=some (.slice (some ⟨g,0,none⟩) z z)∧w'.cell? ⟨vb,6,none⟩=some (.slice (some ⟨b.s,0,none⟩) z z)∧w'.cell? ⟨g,nd',none⟩=some (.int .i64 lb)∧w'.cell? ⟨b.s,nd',none⟩=some (.int .i64 sz)) (by kernel_rfl) ?_;have HB2:=jh HB1.out.drew;have HZ2:=jh HZ1.out.drew;generalize w1.drew=w2 at*;refine tC 0 ?_;refine tC 1 ?_;refine tC 2 ?_;refine tC 3 ?_;refine tC 4 ?_;refine tC 5 ?_;refine tC 6 ?_;refine tC 7 ?_;refine tC 8 ?_;refine tC 9 ?_;refine tC 10 ?_;refine tC 11 ?_;refine tC 12 ?_;refine tC 13 ?_;refine tC 14 ?_;refine tC 15 ?_
 try simp only[sD]
 have z0:=HZ2.out.c 0;have z1:=HZ2.out.c 1;have fz:=λi=>HZ2.out.frozen i;have hb3:Below w.heap.size w2 ((w2.setCell ⟨w.heap.size,0,none⟩ (.int .i64 lb)).setCell ⟨w.heap.size,1,none⟩ (.int .i64 sz)):=((Below.refl _ _).setCell (p:=⟨w.heap.size,0,none⟩) (Nat.le_refl _) _).setCell (p:=⟨w.heap.size,1,none⟩) (Nat.le_refl _) _;have FD:=jh (And.intro ((hb3.cell (p:=⟨vb,7,none⟩) HKp.out.1).trans HS.1) (And.intro ((hb3.cell (p:=⟨vb,6,none⟩) HKp.out.1).trans HS.2.1) (And.intro ((hb3.cell (p:=⟨g,nd',none⟩) HKp.out.2.1).trans HS.2.2.1) ((hb3.cell (p:=⟨b.s,nd',none⟩) HKp.out.2.2).trans HS.2.2.2))));have HB3:=jh (HB2.out.trans (hb3.mono (Nat.le_refl _)));have HZ3:=jh ((HZ2.out.set 0 (.int .i64 lb)).set 1 (.int .i64 sz));clear hb3;refine rC 16 λK hK=>?_;go_simp;refine hK.out _ _ FD.out (λHS=>?_);clear hK z0 z1 fz FD;generalize (w2.setCell ⟨w.heap.size,0,none⟩ (.int .i64 lb)).setCell ⟨w.heap.size,1,none⟩ (.int .i64 sz)=w3 at*;refine tC 17 ?_
 try simp only[sD]
 refine dD ⟨rfl,?_⟩;clear HS;go_wp2_with fail;have s0:=HZ3.out.c 0;have s1:=HZ3.out.c 1;refine bodyPost_ret (v:=.tuple #[.agg (Xm lb sz),.int .i64 0]) (by simp[results,Tryz.results34,go_sem,s0,s1,Xm]) rfl ?_;exact⟨by rw[agq.out.1,agq.out.2],HB3.out⟩
end Go.Proofs.YtpaeogglppampaaGreat
