/- Lemmas of the proof. Conditions: as each one states. -/
import Derived.Test.YtpaeogglppampaaGreatDoorQv
import Derived.Test.YtpaeogglppampaaGreatDoorQw
import Derived.Test.YtpaeogglppampaaGreatDoorQA
set_option maxRecDepth 100000
set_option maxHeartbeats 16000000
namespace Go.Proofs.YtpaeogglppampaaGreatDoor
open Go.RowKit
structure bD where
 b:Nat
 ar:iI
 tb:iL
 lg:Option Nat
 mb:Nat
 ks:List Int
 ib:Int→Nat
def bD.aP (F:bD):Nat→List Nat
 |0=>[F.b]
 |1=>F.ar.bl
 |2=>F.tb.bl
 |3=>F.lg.toList
 |4=>[F.mb]
 |5=>F.ks.map F.ib
 |_=>[]
def bD.bl (F:bD):List Nat:=blG 6 F.aP
def kY (s:St) (k:Nat):List Value:=[.int .i64 (k:Nat),.int .u64 (s.sq k),.int .u64 (s.rc k).u,.int .u64 (s.rc k).v,.int .i64 (s.rc k).w,.int .i64 (s.rc k).t,.int .i64 (s.ex k)]
structure WK (w:World) (lg:Option Nat) (E:Nat) (s:St) (lv:Value) (ln:Nat) (c:Nat→Nat→Value):Prop where
 ow:w.ownsRow 0 52 7 lv ln (flat c ln 7)
 og:lv.ownBlock=lg
 le:ln≤E
 us:∀k∈s.U,k<ln∧∀j<7,c k j=(kY s k).getD j undef
 one:∀x<ln,∀j<7,(c x j).oneCell'=true
structure Tj (w:World) (mb:Nat) (ks:List Int) (ib:Int→Nat) (inc:Int→List Nat) (cp:Int→Nat) (M:Int→Option Value):Prop where
 mp:eO w 25 .u64 mb M
 at_:∀x,M x=if x∈ks then some (.slice (some ⟨ib x,0,none⟩) (inc x).length (cp x)) else none
 ow:∀x∈ks,w.ownsRow 0 3 1 (.slice (some ⟨ib x,0,none⟩) (inc x).length (cp x)) (inc x).length ((bH (inc x)).map (Value.int .i64))
 ne:∀x,x∈ks↔inc x≠[]
 nd:ks.Nodup
 inj:∀x∈ks,∀y∈ks,ib x=ib y→x=y
structure lq (w:World) (F:bD) (E V N bg:Nat) (s:St) (inc:Int→List Nat):Prop where
 pw:Pw N
 lim:E≤16384∧V≤4096
 hr:∃(la:Int) (lv:Value) (c:Nat→Nat→Value),Row w F.b 7 (λi=>(#[Value.int .i64 (V:Nat),.int .i64 (E:Nat),.int .u64 la,.pointer (some ⟨F.ar.h,0,none⟩),.pointer (some ⟨F.tb.h,0,none⟩),lv,.map (some F.mb)]:Array Value).getD i undef)∧WK w F.lg E s lv bg c
 ar:yH w F.ar E s.U bg
 tb:Ap w F.tb V N (bM N) s.ids s.TU
 ic:∃cp M,Tj w F.mb F.ks F.ib inc cp M
 sep:Sep F.aP
 ok:jA E s
 im:∀x k,k∈inc x↔k∈s.U∧((s.rc k).u=x∨(s.rc k).v=x)
 nd:∀x,(inc x).Nodup
section
variable {w w':World} {F:bD} {E V N bg:Nat} {s:St} {inc:Int→List Nat}
theorem WK.keep {lg:Option Nat} {lv:Value} {ln:Nat} {c:Nat→Nat→Value} (h:WK w lg E s lv ln c) (e:∀g,lg=some g→w'.heap[g]?=w.heap[g]?):WK w' lg E s lv ln c:=
 ⟨aG h.ow λg hg=>e g (h.og.symm.trans hg),h.og,h.le,h.us,h.one⟩
theorem Tj.keep {mb:Nat} {ks:List Int} {ib:Int→Nat} {cp:Int→Nat} {M:Int→Option Value} (h:Tj w mb ks ib inc cp M) (e:w'.heap[mb]?=w.heap[mb]?) (e2:∀x∈ks,w'.heap[ib x]?=w.heap[ib x]?):Tj w' mb ks ib inc cp M:=
 ⟨h.mp.keep e,h.at_,λx hx=>aG (h.ow x hx) λg hg=>by
  have:ib x=g:=by simpa [Value.ownBlock] using hg
  rw[←this];exact e2 x hx,h.ne,h.nd,h.inj⟩
theorem lq.tT (h:lq w F E V N bg s inc):∀i,∀x∈F.aP i,x<w.heap.size:=λi x hx=>by
 obtain⟨_,lv,c,hr,hl⟩:=h.hr;obtain⟨cp,M,hi⟩:=h.ic
 match i,hx with
 |0,hx=>simp[bD.aP] at hx;rw[hx];exact hr.lt
 |1,hx=>exact h.ar.lt x hx
 |2,hx=>exact h.tb.lt x hx
 |3,hx=>exact aN hl.ow (hl.og.trans (Option.mem_toList.1 hx))
 |4,hx=>simp[bD.aP] at hx;rw[hx];exact hi.mp.lt
 |5,hx=>
  obtain⟨y,hy,rfl⟩:=List.mem_map.1 hx;exact aN (hi.ow y hy) rfl
 |n+6,hx=>cases hx
theorem lq.lt (h:lq w F E V N bg s inc):∀j∈F.bl,j<w.heap.size:=λj hj=>by
 obtain⟨i,_,hi⟩:=bP.1 hj;exact h.tT i j hi
theorem bD.ak {F:bD} {i x:Nat} (hi:i<6) (hx:x∈F.aP i):x∈F.bl:=bP.2 ⟨i,hi,hx⟩
theorem lq.keep (h:lq w F E V N bg s inc) (e:∀j∈F.bl,w'.heap[j]?=w.heap[j]?):lq w' F E V N bg s inc:=by
 obtain⟨la,lv,c,hr,hl⟩:=h.hr;obtain⟨cp,M,hi⟩:=h.ic;refine⟨h.pw,h.lim,⟨la,lv,c,hr.of_block (e _ (bD.ak (i:=0) om (by simp[bD.aP]))),hl.keep λg hg=>e g (bD.ak (i:=3) om (Option.mem_toList.2 hg))⟩,h.ar.keep λj hj=>e j (bD.ak (i:=1) om hj),h.tb.keep λj hj=>e j (bD.ak (i:=2) om hj),⟨cp,M,hi.keep (e _ (bD.ak (i:=4) om (by simp[bD.aP]))) λx hx=>e _ (bD.ak (i:=5) om (List.mem_map.2 ⟨x,hx,rfl⟩))⟩,h.sep,h.ok,h.im,h.nd⟩
theorem lq.off (h:lq w F E V N bg s inc) (o:Off [] w w'):lq w' F E V N bg s inc:=h.keep λj hj=>o.block j (h.lt j hj) sj
theorem lq.c0 (h:lq w F E V N bg s inc):w.cell? ⟨F.b,0,none⟩=some (.int .i64 (V:Nat)):=by obtain⟨_,_,_,hr,_⟩:=h.hr;exact hr.c 0
theorem lq.c1 (h:lq w F E V N bg s inc):w.cell? ⟨F.b,1,none⟩=some (.int .i64 (E:Nat)):=by obtain⟨_,_,_,hr,_⟩:=h.hr;exact hr.c 1
theorem lq.c3 (h:lq w F E V N bg s inc):w.cell? ⟨F.b,3,none⟩=some (.pointer (some ⟨F.ar.h,0,none⟩)):=by obtain⟨_,_,_,hr,_⟩:=h.hr;exact hr.c 3
theorem lq.c4 (h:lq w F E V N bg s inc):w.cell? ⟨F.b,4,none⟩=some (.pointer (some ⟨F.tb.h,0,none⟩)):=by obtain⟨_,_,_,hr,_⟩:=h.hr;exact hr.c 4
theorem lq.c6 (h:lq w F E V N bg s inc):w.cell? ⟨F.b,6,none⟩=some (.map (some F.mb)):=by obtain⟨_,_,_,hr,_⟩:=h.hr;exact hr.c 6
theorem iP (h:lq w F E V N bg s inc):
  Calls Tryz.prog 56 #[.pointer (some ⟨F.b,0,none⟩)] w λe w'=>e=.returned (.bool true)∧w'=w:=by
 have c6:=h.c6;have eq:∀w,(binOp .neq 134 (.map (some F.mb)) (.map none)).run Tryz.prog w=.ok (.bool true) w:=λw=>run_neq_map_nil (P:=Tryz.prog) w 134 _ _ (some F.mb) Tryz.underlying134;clear h;go_in;go_wp2;go_ret;exact⟨rfl,rfl⟩
theorem rE (h:lq w F E V N bg s inc) (x:Int):
  Calls Tryz.prog 48 #[.pointer (some ⟨F.b,0,none⟩),.int .u64 x] w λe w'=>∃r,e=.returned (mh r)∧Nz s.ids s.TU x r∧Off [] w w':=by
 have c4:=h.c4;have HV:=jh (iP h);have HG:=jh (rD h.tb h.pw x);clear h;go_in;go_wp2_with fail;apply mO HV;rintro e w1 ⟨rfl,rfl⟩;go_wp2_with fail;apply mO HG;rintro e w2 ⟨r,rfl,hr,o⟩;have HR:=jh hr;have HO:=jh o;clear hr o
 cases r with
 |none=>
  unfold mh;go_wp2;go_ret2;exact⟨none,rfl,HR.out,HO.out⟩
 |some k=>
  unfold mh;go_wp2;go_ret2;exact⟨some k,rfl,HR.out,HO.out⟩
end
section
variable {w w':World} {F:bD} {E V N bg:Nat} {s:St} {inc:Int→List Nat}
theorem uK {x:Int} {k:Nat} (g:Nz s.ids s.TU x (some k)):s.hasB x=true:=St.mF ⟨k,(g.yes k rfl).1,(g.yes k rfl).2⟩
theorem uL {x:Int} (g:Nz s.ids s.TU x none):s.hasB x=false:=St.iw λ⟨i,h1,h2⟩=>g.no rfl i h1 h2
theorem lq.IV (h:lq w F E V N bg s inc):s.TU.length≤V:=by
 obtain⟨_,_,_,ok⟩:=h.tb;have h1:=bG h.ok.tnd (r:=List.range s.ids.length) λx hx=>List.mem_range.2 (ok.lt x hx);rw[List.length_range] at h1;have:=ok.le;omega
theorem qE (h:lq w F E V N bg s inc) (u v t x:Int):
  Calls Tryz.prog 42 #[.pointer (some ⟨F.b,0,none⟩),.agg #[.int .u64 u,.int .u64 v,.int .i64 x,.int .i64 t]] w λe w'=>e=.returned (.int .i64 (gK E V s u v))∧Off [] w w':=by
 obtain⟨W1,hW1⟩:∃W,w.alloc (.cells #[.int .u64 u,.int .u64 v,.int .i64 x,.int .i64 t] 33)=W:=⟨_,rfl⟩
 have o1:Off [] w W1:=by rw[←hW1];exact(Off.refl _ _).alloc _
 have h1:=h.off o1
 have hr1:Row W1 w.heap.size 4 (λi=>(#[Value.int .u64 u,.int .u64 v,.int .i64 x,.int .i64 t]:Array Value).getD i undef):=by
  rw[←hW1];exact Row.lit _ _ _ (Nat.le_refl _) lC
 have HV:=jh (iP h1);rw[←hW1] at HV;have r0:W1.cell? ⟨w.heap.size,0,none⟩=some (.int .u64 u):=hr1.c 0;have r1:W1.cell? ⟨w.heap.size,1,none⟩=some (.int .u64 v):=hr1.c 1;have c0:=h1.c0;have c1:=h1.c1;have c3:=h1.c3;have c4:=h1.c4;have HW1:=jh hW1;have O1:=jh o1;have H1:=jh h1;have HR1:=jh hr1;clear hW1 o1 h1 hr1 h;go_in;go_wp2_with fail;apply mO HV;rintro e w1 ⟨rfl,hw1⟩;rw[HW1.out] at hw1;subst hw1
 by_cases huv:u=v
 ·have e1:(u==v)=true:=by simp[huv]
  have e2:decide (u=v)=true:=dP huv;have HU:=jh huv;clear huv;go_wp2;go_ret;exact⟨by unfold gK;rw[if_pos HU.out];rfl,O1.out⟩
 ·have e1:(u==v)=false:=by simp[huv]
  have e2:decide (u=v)=false:=dF huv;go_wp2
  go_quiet (exact Calls.quiet_of_same (uS (H1.out.ar.keep λ_ _=>sj)))
  obtain⟨W2,hW2⟩:=nE (w1.drewN nq)
  have o2:Off [] w1 W2:=by rw[←hW2];exact(Off.refl _ _).drewN nq
  have h2:=H1.out.off o2;have HR2:=jh (HR1.out.of_block (o2.block _ HR1.out.lt sj));have c0:=h2.c0;have c4:=h2.c4;have H2:=jh h2;have O2:=jh (O1.out.trans o2 λj hj=>by cases hj);rw[hW2];clear hW2 o2 h2 c1 c3 r0 r1
  by_cases hE:E≤s.U.length
  ·have e3:decide ((E:Int)≤s.U.length)=true:=dP om;have e4:decide (E≤s.U.length)=true:=dP hE;have HU:=jh huv;have HE:=jh hE;clear huv hE;go_wp2;go_ret;exact⟨by unfold gK;rw[if_neg HU.out,if_pos HE.out];rfl,O2.out⟩
  ·have e3:decide ((E:Int)≤s.U.length)=false:=dF om;have e4:decide (E≤s.U.length)=false:=dF hE;have HU:=jh huv;have HE:=jh hE;have HL:=Ov H2.out.tb;obtain⟨L0,hL0⟩:=nE s.TU.length;rw[hL0] at HL;have HL:=jh HL;obtain⟨L1,hL1⟩:=nE (L0+1);obtain⟨L2,hL2⟩:=nE (L1+1)
   have hLt:L0≤4096:=by rw[←hL0];exact Nat.le_trans H2.out.IV H2.out.lim.2
   have Ui:=jh (And.intro hL0 (And.intro hL1 hL2));have wl1:(L0:Int)+1=(L1:Int):=om;have wl2:(L1:Int)+1=(L2:Int):=om;have bl:(0:Int)≤L0∧(0:Int)≤L1∧(0:Int)≤L2∧(L2:Int)≤4098∧(L1:Int)≤4098∧(L0:Int)≤4098:=om;clear hL0 hL1 hL2 hLt;clear huv hE;go_wp2_with fail;apply mO HL;rintro e w' ⟨rfl,rfl⟩;have r0:w'.cell? ⟨w.heap.size,0,none⟩=some (.int .u64 u):=HR2.out.c 0;have r1:w'.cell? ⟨w.heap.size,1,none⟩=some (.int .u64 v):=HR2.out.c 1;go_wp2_with fail;clear r0 r1
   have ix0:∀w,(Instr.index 138 (.agg #[.int .u64 u,.int .u64 v]) (.int .i64 0)).run Tryz.prog w=.ok (.int .u64 u) w:=λ_=>by kernel_rfl
   have ix1:∀w,(Instr.index 138 (.agg #[.int .u64 u,.int .u64 v]) (.int .i64 1)).run Tryz.prog w=.ok (.int .u64 v) w:=λ_=>by kernel_rfl
   refine wp_loop_rounds 3 ?_;rw[rounds_succ];go_wp2_with fail;refine(rD H2.out.tb H2.out.pw u).mono ?_;rintro e w3 ⟨r1,rfl,g1,o3⟩;have G1:=jh g1;have O3:=jh o3;have h3:=H2.out.off o3;clear c0 c4;have c0:=h3.c0;have c4:=h3.c4;have H3:=jh h3;clear g1 o3 h3 HL
   cases r1 with
   |none=>
    have B1:=jh (uL G1.out);unfold mh;go_wp2;rw[rounds_succ];go_wp2_with fail;refine(rD H3.out.tb H3.out.pw v).mono ?_;rintro e w4 ⟨r2,rfl,g2,o4⟩;have G2:=jh g2;have O4:=jh o4;have h4:=H3.out.off o4;have c0:=h4.c0;clear g2 o4 h4
    cases r2 with
    |none=>
     have B2:=jh (uL G2.out);unfold mh
     by_cases hv:V<L2
     ·have e5:decide ((V:Int)<L2)=true:=dP om;have e6:decide (V<L2)=true:=dP hv;have Il:=jh hv;clear hv;go_wp2;rw[rounds_succ];go_wp2;go_ret;exact⟨by unfold gK;rw[if_neg HU.out,if_neg HE.out,if_pos (by rw[B1.out,B2.out];have:=Il.out;have:=Ui.out;simp only[bN];omega)];rfl,(O2.out.trans O3.out λj hj=>by cases hj).trans O4.out λj hj=>by cases hj⟩
     ·have e5:decide ((V:Int)<L2)=false:=dF om;have e6:decide (V<L2)=false:=dF hv;have Il:=jh hv;clear hv;go_wp2;rw[rounds_succ];go_wp2;go_ret;exact⟨by unfold gK;rw[if_neg HU.out,if_neg HE.out,if_neg (by rw[B1.out,B2.out];have:=Il.out;have:=Ui.out;simp only[bN];omega)];rfl,(O2.out.trans O3.out λj hj=>by cases hj).trans O4.out λj hj=>by cases hj⟩
    |some k2=>
     have B2:=jh (uK G2.out);unfold mh
     by_cases hv:V<L1
     ·have e5:decide ((V:Int)<L1)=true:=dP om;have e6:decide (V<L1)=true:=dP hv;have Il:=jh hv;clear hv;go_wp2;rw[rounds_succ];go_wp2;go_ret;exact⟨by unfold gK;rw[if_neg HU.out,if_neg HE.out,if_pos (by rw[B1.out,B2.out];have:=Il.out;have:=Ui.out;simp only[bN];omega)];rfl,(O2.out.trans O3.out λj hj=>by cases hj).trans O4.out λj hj=>by cases hj⟩
     ·have e5:decide ((V:Int)<L1)=false:=dF om;have e6:decide (V<L1)=false:=dF hv;have Il:=jh hv;clear hv;go_wp2;rw[rounds_succ];go_wp2;go_ret;exact⟨by unfold gK;rw[if_neg HU.out,if_neg HE.out,if_neg (by rw[B1.out,B2.out];have:=Il.out;have:=Ui.out;simp only[bN];omega)];rfl,(O2.out.trans O3.out λj hj=>by cases hj).trans O4.out λj hj=>by cases hj⟩
   |some k1=>
    have B1:=jh (uK G1.out);unfold mh;go_wp2;rw[rounds_succ];go_wp2_with fail;refine(rD H3.out.tb H3.out.pw v).mono ?_;rintro e w4 ⟨r2,rfl,g2,o4⟩;have G2:=jh g2;have O4:=jh o4;have h4:=H3.out.off o4;have c0:=h4.c0;clear g2 o4 h4
    cases r2 with
    |none=>
     have B2:=jh (uL G2.out);unfold mh
     by_cases hv:V<L1
     ·have e5:decide ((V:Int)<L1)=true:=dP om;have e6:decide (V<L1)=true:=dP hv;have Il:=jh hv;clear hv;go_wp2;rw[rounds_succ];go_wp2;go_ret;exact⟨by unfold gK;rw[if_neg HU.out,if_neg HE.out,if_pos (by rw[B1.out,B2.out];have:=Il.out;have:=Ui.out;simp only[bN];omega)];rfl,(O2.out.trans O3.out λj hj=>by cases hj).trans O4.out λj hj=>by cases hj⟩
     ·have e5:decide ((V:Int)<L1)=false:=dF om;have e6:decide (V<L1)=false:=dF hv;have Il:=jh hv;clear hv;go_wp2;rw[rounds_succ];go_wp2;go_ret;exact⟨by unfold gK;rw[if_neg HU.out,if_neg HE.out,if_neg (by rw[B1.out,B2.out];have:=Il.out;have:=Ui.out;simp only[bN];omega)];rfl,(O2.out.trans O3.out λj hj=>by cases hj).trans O4.out λj hj=>by cases hj⟩
    |some k2=>
     have B2:=jh (uK G2.out);unfold mh
     by_cases hv:V<L0
     ·have e5:decide ((V:Int)<L0)=true:=dP om;have e6:decide (V<L0)=true:=dP hv;have Il:=jh hv;clear hv;go_wp2;rw[rounds_succ];go_wp2;go_ret;exact⟨by unfold gK;rw[if_neg HU.out,if_neg HE.out,if_pos (by rw[B1.out,B2.out];have:=Il.out;have:=Ui.out;simp only[bN];omega)];rfl,(O2.out.trans O3.out λj hj=>by cases hj).trans O4.out λj hj=>by cases hj⟩
     ·have e5:decide ((V:Int)<L0)=false:=dF om;have e6:decide (V<L0)=false:=dF hv;have Il:=jh hv;clear hv;go_wp2;rw[rounds_succ];go_wp2;go_ret;exact⟨by unfold gK;rw[if_neg HU.out,if_neg HE.out,if_neg (by rw[B1.out,B2.out];have:=Il.out;have:=Ui.out;simp only[bN];omega)];rfl,(O2.out.trans O3.out λj hj=>by cases hj).trans O4.out λj hj=>by cases hj⟩
end
def st0:St:=⟨[],λ_=>Fh,λ_=>0,λ_=>0,[],[]⟩
section
variable {E V:Nat}
theorem KZ (w:World) (hE:E≤16384) (hV:V≤4096):
  Calls Tryz.prog 37 #[.int .i64 (V:Nat),.int .i64 (E:Nat),.int .u64 0] w λe w'=>∃F N,e=.returned (.tuple #[.pointer (some ⟨F.b,0,none⟩),.int .i64 0])∧lq w' F E V N 0 st0 (λ_=>[])∧Bo [] F.bl w w':=by
 have d1:decide ((V:Int)<0)=false:=dF om;have d2:decide ((4096:Int)<V)=false:=dF om;have d3:decide ((E:Int)<0)=false:=dF om;have d4:decide ((16384:Int)<E)=false:=dF om;have d5:decide (4096<V)=false:=dF om;have d6:decide (16384<E)=false:=dF om
 have hmm:∀w:World,(Instr.makeMap 134 none).run Tryz.prog w=.ok (.map (some w.heap.size)) (w.alloc (.map #[] 0)):=λw=>by kernel_rfl
 have HA:=jh (ER (S:=E) w om);go_in;go_wp2_with fail;apply mO HA;rintro e w1 ⟨rfl,a1,o1⟩;have A1:=jh a1;have O1:=jh o1;clear a1 o1 HA;go_wp2_with fail;refine(Oq (S:=V) w1 om).mono ?_;rintro e w2 ⟨f,N,rfl,t2,p2,o2⟩;have T2:=jh t2;have P2:=jh p2;have O2:=jh o2;clear t2 p2 o2;go_wp2;go_ret2;have hb:=Row.lit (n:=7) (f:=λi=>(#[Value.int .i64 V,.int .i64 E,.int .u64 0,.pointer (some ⟨w.heap.size,0,none⟩),.pointer (some ⟨f.h,0,none⟩),.slice none 0 0,.map (some w2.heap.size)]:Array Value).getD i undef) (w2.alloc (.map #[] 0)) #[Value.int .i64 V,.int .i64 E,.int .u64 0,.pointer (some ⟨w.heap.size,0,none⟩),.pointer (some ⟨f.h,0,none⟩),.slice none 0 0,.map (some w2.heap.size)] 136 (Nat.le_refl _) lC;rw[World.size_alloc] at hb;obtain⟨W,hW⟩:∃W,(w2.alloc (.map #[] 0)).alloc (.cells #[Value.int .i64 V,.int .i64 E,.int .u64 0,.pointer (some ⟨w.heap.size,0,none⟩),.pointer (some ⟨f.h,0,none⟩),.slice none 0 0,.map (some w2.heap.size)] 136)=W:=⟨_,rfl⟩;rw[hW];rw[hW] at hb
 have oW:Off [] w2 W:=by rw[←hW];exact((Off.refl _ _).alloc _).alloc _
 have zW:W.heap.size=w2.heap.size+2:=by rw[←hW];simp
 have mW:eO W 25 .u64 w2.heap.size (λ_=>none):=by
  rw[←hW];exact(eO.made w2 25 .u64).keep (Below.heap_alloc _ _ _ sj)
 have z1:=O1.out.size;have z2:=O2.out.off.size;have la:=A1.out.lt;have lt:=T2.out.lt;have gt:∀j∈f.bl,w1.heap.size≤j:=λj hj=>(O2.out.fQ j hj).elim (λh=>by cases h) id
 have ga:∀j∈(⟨w.heap.size,none,0,λ_=>0⟩:iI).bl,j=w.heap.size:=λj hj=>by
  rcases iI.ak.1 hj with h |h |⟨k,hk,_⟩
  ·exact h
  ·cases h
  ·cases hk
 have zw1:w.heap.size<w1.heap.size:=la _ (iI.ak.2 (.inl rfl));refine⟨⟨w2.heap.size+1,⟨w.heap.size,none,0,λ_=>0⟩,f,none,w2.heap.size,[],λ_=>0⟩,N,rfl,⟨P2.out,⟨hE,hV⟩,⟨0,.slice none 0 0,λ_ _=>undef,hb,⟨World.ownsRow_nil _ _ _ _,rfl,Nat.zero_le _,(λk hk=>nomatch hk),λx hx=>absurd hx (Nat.not_lt_zero _)⟩⟩,A1.out.keep λj hj=>?_,T2.out.keep λj hj=>oW.block j (lt j hj) sj,⟨λ_=>0,_,⟨mW,λx=>rfl,(λx hx=>nomatch hx),(λx=>⟨(λh=>nomatch h),λh=>absurd rfl h⟩),List.nodup_nil,(λx hx=>nomatch hx)⟩⟩,?_,⟨List.nodup_nil,λk hk=>(nomatch hk),λk hk=>(nomatch hk),List.nodup_nil,λk hk=>(nomatch hk),λx=>⟨λ⟨i,hi,_⟩=>(nomatch hi),λ⟨k,hk,_⟩=>(nomatch hk)⟩⟩,λx k=>⟨λh=>(nomatch h),λh=>(nomatch h.1)⟩,λx=>List.nodup_nil⟩,⟨?_,λj hj=>?_⟩⟩
 ·have hj':j<w1.heap.size:=la j hj;exact(oW.block j om sj).trans (O2.out.off.block j hj' sj)
 ·have G:∀i x,x∈(⟨w2.heap.size+1,⟨w.heap.size,none,0,λ_=>0⟩,f,none,w2.heap.size,[],λ_=>0⟩:bD).aP i→(i=0∧x=w2.heap.size+1)∨(i=1∧x=w.heap.size)∨(i=2∧w1.heap.size≤x∧x<w2.heap.size)∨(i=4∧x=w2.heap.size):=λi x hx=>by
   match i,hx with
   |0,hx=>exact .inl ⟨rfl,by simpa [bD.aP] using hx⟩
   |1,hx=>exact .inr (.inl ⟨rfl,ga x hx⟩)
   |2,hx=>exact .inr (.inr (.inl ⟨rfl,gt x hx,lt x hx⟩))
   |3,hx=>cases hx
   |4,hx=>exact .inr (.inr (.inr ⟨rfl,by simpa [bD.aP] using hx⟩))
   |5,hx=>cases hx
   |n+6,hx=>cases hx
  intro i j hij x hx hy
  rcases G i x hx with h |h |h |h<;>rcases G j x hy with h' |h' |h' |h'<;>omega
 ·exact(O1.out.trans O2.out.off λj hj=>by cases hj).trans oW λj hj=>by cases hj
 ·right
  obtain⟨i,hi,hx⟩:=bP.1 hj
  match i,hx with
  |0,hx=>
   have:j=w2.heap.size+1:=by simpa [bD.aP] using hx
   omega
  |1,hx=>have:=ga j hx;omega
  |2,hx=>have:=gt j hx;omega
  |3,hx=>cases hx
  |4,hx=>
   have:j=w2.heap.size:=by simpa [bD.aP] using hx
   omega
  |5,hx=>cases hx
  |n+6,hx=>cases hx
end
def Xd (F:bD) (E V:Nat) (la:Int) (lv:Value) (i:Nat):Value:=(#[Value.int .i64 (V:Nat),.int .i64 (E:Nat),.int .u64 la,.pointer (some ⟨F.ar.h,0,none⟩),.pointer (some ⟨F.tb.h,0,none⟩),lv,.map (some F.mb)]:Array Value).getD i undef
structure eD (w:World) (F:bD) (E V N bg:Nat) (la:Int) (lv:Value) (ln:Nat) (c:Nat→Nat→Value) (U:List Nat) (ids:List Int) (TU:List Nat) (inc:Int→List Nat) (cp:Int→Nat) (M:Int→Option Value):Prop where
 hr:Row w F.b 7 (Xd F E V la lv)
 ow:w.ownsRow 0 52 7 lv ln (flat c ln 7)
 og:lv.ownBlock=F.lg
 ar:yH w F.ar E U bg
 tb:Ap w F.tb V N (bM N) ids TU
 ic:Tj w F.mb F.ks F.ib inc cp M
 sep:Sep F.aP
 one:∀x<ln,∀j<7,(c x j).oneCell'=true
section
variable {w w':World} {F:bD} {E V N bg ln:Nat} {la:Int} {lv:Value} {c:Nat→Nat→Value} {U:List Nat} {ids:List Int} {TU:List Nat} {inc:Int→List Nat} {cp:Int→Nat} {M:Int→Option Value}
theorem lq.parts {s:St} (h:lq w F E V N bg s inc):∃la lv c cp M,eD w F E V N bg la lv bg c s.U s.ids s.TU inc cp M∧bg≤E∧∀k∈s.U,k<bg∧∀j<7,c k j=(kY s k).getD j undef:=by
 obtain⟨la,lv,c,hr,hl⟩:=h.hr;obtain⟨cp,M,hi⟩:=h.ic;exact⟨la,lv,c,cp,M,⟨hr,hl.ow,hl.og,h.ar,h.tb,hi,h.sep,hl.one⟩,hl.le,hl.us⟩
theorem eD.whole {s:St} (h:eD w F E V N bg la lv bg c s.U s.ids s.TU inc cp M) (hp:Pw N) (lim:E≤16384∧V≤4096) (hb:bg≤E) (hu:∀k∈s.U,k<bg∧∀j<7,c k j=(kY s k).getD j undef) (ok:jA E s) (im:∀x k,k∈inc x↔k∈s.U∧((s.rc k).u=x∨(s.rc k).v=x)) (nd:∀x,(inc x).Nodup):lq w F E V N bg s inc:=
 ⟨hp,lim,⟨la,lv,c,h.hr,⟨h.ow,h.og,hb,hu,h.one⟩⟩,h.ar,h.tb,⟨cp,M,h.ic⟩,h.sep,ok,im,nd⟩
theorem eD.tT (h:eD w F E V N bg la lv ln c U ids TU inc cp M):∀i,∀x∈F.aP i,x<w.heap.size:=λi x hx=>by
 match i,hx with
 |0,hx=>simp[bD.aP] at hx;rw[hx];exact h.hr.lt
 |1,hx=>exact h.ar.lt x hx
 |2,hx=>exact h.tb.lt x hx
 |3,hx=>exact aN h.ow (h.og.trans (Option.mem_toList.1 hx))
 |4,hx=>simp[bD.aP] at hx;rw[hx];exact h.ic.mp.lt
 |5,hx=>
  obtain⟨y,hy,rfl⟩:=List.mem_map.1 hx;exact aN (h.ic.ow y hy) rfl
 |n+6,hx=>cases hx
theorem eD.keep (h:eD w F E V N bg la lv ln c U ids TU inc cp M) (e:∀i,∀x∈F.aP i,w'.heap[x]?=w.heap[x]?):eD w' F E V N bg la lv ln c U ids TU inc cp M:=
 ⟨h.hr.of_block (e 0 _ (by simp[bD.aP])),aG h.ow λg hg=>e 3 g (Option.mem_toList.2 (h.og.symm.trans hg)),h.og,h.ar.keep (e 1),h.tb.keep (e 2),h.ic.keep (e 4 _ (by simp[bD.aP])) λx hx=>e 5 _ (List.mem_map.2 ⟨x,hx,rfl⟩),h.sep,h.one⟩
theorem eD.off (h:eD w F E V N bg la lv ln c U ids TU inc cp M) (o:Off [] w w'):eD w' F E V N bg la lv ln c U ids TU inc cp M:=h.keep λi x hx=>o.block x (h.tT i x hx) sj
theorem eD.c2 (h:eD w F E V N bg la lv ln c U ids TU inc cp M):w.cell? ⟨F.b,2,none⟩=some (.int .u64 la):=h.hr.c 2
theorem eD.c3 (h:eD w F E V N bg la lv ln c U ids TU inc cp M):w.cell? ⟨F.b,3,none⟩=some (.pointer (some ⟨F.ar.h,0,none⟩)):=h.hr.c 3
theorem eD.c4 (h:eD w F E V N bg la lv ln c U ids TU inc cp M):w.cell? ⟨F.b,4,none⟩=some (.pointer (some ⟨F.tb.h,0,none⟩)):=h.hr.c 4
theorem eD.c5 (h:eD w F E V N bg la lv ln c U ids TU inc cp M):w.cell? ⟨F.b,5,none⟩=some lv:=h.hr.c 5
theorem eD.c6 (h:eD w F E V N bg la lv ln c U ids TU inc cp M):w.cell? ⟨F.b,6,none⟩=some (.map (some F.mb)):=h.hr.c 6
theorem eD.lg (h:eD w F E V N bg la lv ln c U ids TU inc cp M) (g:Nat) (hg:lv.ownBlock=some g):g∈F.aP 3:=Option.mem_toList.2 (h.og.symm.trans hg)
theorem eD.rest (h:eD w F E V N bg la lv ln c U ids TU inc cp M) {i:Nat} {B:List Nat} (bo:Bo (F.aP i) B w w'):Sep (gW F.aP i B)∧∀j,j≠i→∀x∈F.aP j,w'.heap[x]?=w.heap[x]?:=h.sep.turn h.tT bo
theorem eD.Dk {oq:iI} {U':List Nat} {xY:Nat} (h:eD w F E V N bg la lv ln c U ids TU inc cp M) (a:yH w' oq E U' xY) (hh:oq.h=F.ar.h) (bo:Bo F.ar.bl oq.bl w w'):
  eD w' { F with ar:=oq } E V N xY la lv ln c U' ids TU inc cp M∧Bo F.bl ({ F with ar:=oq }:bD).bl w w':=by
 obtain⟨h1,h2⟩:=h.rest (i:=1) bo
 have hg:({ F with ar:=oq }:bD).aP=gW F.aP 1 oq.bl:=by
  funext j;unfold gW
  match j with
  |0 |1 |2 |3 |4 |5 |n+6=>rfl
 refine⟨⟨?_,aG h.ow λg hg=>h2 3 om g (h.lg g hg),h.og,a,h.tb.keep (h2 2 om),h.ic.keep (h2 4 om _ (by simp[bD.aP])) λx hx=>h2 5 om _ (List.mem_map.2 ⟨x,hx,rfl⟩),(by rw[hg];exact h1),h.one⟩,?_⟩
 ·have:=h.hr.of_block (h2 0 om F.b (by simp[bD.aP]));unfold Xd at this⊢;rw[←hh] at this;exact this
 ·unfold bD.bl;rw[hg];exact Bo.aP (i:=1) bo om
theorem eD.Pk {tb':iL} {aZ:List Int} {pY:List Nat} (h:eD w F E V N bg la lv ln c U ids TU inc cp M) (a:Ap w' tb' V N (bM N) aZ pY) (hh:tb'.h=F.tb.h) (bo:Bo F.tb.bl tb'.bl w w'):
  eD w' { F with tb:=tb' } E V N bg la lv ln c U aZ pY inc cp M∧Bo F.bl ({ F with tb:=tb' }:bD).bl w w':=by
 obtain⟨h1,h2⟩:=h.rest (i:=2) bo
 have hg:({ F with tb:=tb' }:bD).aP=gW F.aP 2 tb'.bl:=by
  funext j;unfold gW
  match j with
  |0 |1 |2 |3 |4 |5 |n+6=>rfl
 refine⟨⟨?_,aG h.ow λg hg=>h2 3 om g (h.lg g hg),h.og,h.ar.keep (h2 1 om),a,h.ic.keep (h2 4 om _ (by simp[bD.aP])) λx hx=>h2 5 om _ (List.mem_map.2 ⟨x,hx,rfl⟩),(by rw[hg];exact h1),h.one⟩,?_⟩
 ·have:=h.hr.of_block (h2 0 om F.b (by simp[bD.aP]));unfold Xd at this⊢;rw[←hh] at this;exact this
 ·unfold bD.bl;rw[hg];exact Bo.aP (i:=2) bo om
theorem eD.I6 (h:eD w F E V N bg la lv ln c U ids TU inc cp M) (x:Int):eD (w.setCell ⟨F.b,2,none⟩ (.int .u64 x)) F E V N bg x lv ln c U ids TU inc cp M∧Bo F.bl F.bl w (w.setCell ⟨F.b,2,none⟩ (.int .u64 x)):=by
 have bo:Bo (F.aP 0) (F.aP 0) w (w.setCell ⟨F.b,2,none⟩ (.int .u64 x)):=(Bo.refl _ _).setCell (p:=⟨F.b,2,none⟩) (by simp[bD.aP]) _;obtain⟨_,h2⟩:=h.rest bo;have hb:=Bo.aP (n:=6) bo om;rw[dZ] at hb;refine⟨⟨(h.hr.set 2 (.int .u64 x)).congr λi hi=>?_,aG h.ow λg hg=>h2 3 om g (h.lg g hg),h.og,h.ar.keep (h2 1 om),h.tb.keep (h2 2 om),h.ic.keep (h2 4 om _ (by simp[bD.aP])) λx hx=>h2 5 om _ (List.mem_map.2 ⟨x,hx,rfl⟩),h.sep,h.one⟩,hb⟩
 match i,hi with
 |0,_ |1,_ |2,_ |3,_ |4,_ |5,_ |6,_=>rfl
 |k+7,e=>exact absurd e om
theorem eD.ab1 {Lv:Value} {ln' g:Nat} {c':Nat→Nat→Value} (h:eD w F E V N bg la lv ln c U ids TU inc cp M) (ow:w'.ownsRow 0 52 7 Lv ln' (flat c' ln' 7)) (hg:Lv.ownBlock=some g) (bo:Bo F.lg.toList [g] w w') (hone:∀x<ln',∀j<7,(c' x j).oneCell'=true):
  eD (w'.setCell ⟨F.b,5,none⟩ Lv) { F with lg:=some g } E V N bg la Lv ln' c' U ids TU inc cp M∧Bo F.bl ({ F with lg:=some g }:bD).bl w (w'.setCell ⟨F.b,5,none⟩ Lv):=by
 obtain⟨h1,h2⟩:=h.rest (i:=3) bo
 have hgg:({ F with lg:=some g }:bD).aP=gW F.aP 3 [g]:=by
  funext j;unfold gW
  match j with
  |0 |1 |2 |3 |4 |5 |n+6=>rfl
 have hne:∀j,j≠0→∀x∈({ F with lg:=some g }:bD).aP j,x≠F.b:=λj hj x hx e=>by
  rw[hgg] at hx;exact h1 j 0 hj x hx (by unfold gW;simp[bD.aP,e])
 have h3:∀j,j≠0→j≠3→∀x∈F.aP j,(w'.setCell ⟨F.b,5,none⟩ Lv).heap[x]?=w.heap[x]?:=λj hj hj3 x hx=>(aC x (hne j hj x (by rw[hgg];unfold gW;rw[if_neg hj3];exact hx))).trans (h2 j hj3 x hx);refine⟨⟨?_,aG ow λg' hg'=>aC g' (hne 3 om g' (by have:=hg.symm.trans hg';simp at this;simp[bD.aP,this])),hg,h.ar.keep (h3 1 om om),h.tb.keep (h3 2 om om),h.ic.keep (h3 4 om om _ (by simp[bD.aP])) λx hx=>h3 5 om om _ (List.mem_map.2 ⟨x,hx,rfl⟩),(by rw[hgg];exact h1),hone⟩,?_⟩
 ·refine((h.hr.of_block (h2 0 om F.b (by simp[bD.aP]))).set 5 Lv).congr λi hi=>?_
  match i,hi with
  |0,_ |1,_ |2,_ |3,_ |4,_ |5,_ |6,_=>rfl
  |k+7,e=>exact absurd e om
 ·have hb:Bo F.bl ({ F with lg:=some g }:bD).bl w w':=by unfold bD.bl;rw[hgg];exact Bo.aP (i:=3) bo om
  exact hb.setCell (p:=⟨F.b,5,none⟩) (bP.2 ⟨0,om,by simp[bD.aP]⟩) _
end
section
open Go.Shelf
theorem RU (b:Nat) (t:Int) (w:World):
  Calls Tryz.prog 52 #[.pointer (some ⟨b,0,none⟩),.int .i64 t] w λe w'=>e=.returned (.func (.func 98) #[] #[.pointer (some ⟨w.heap.size,0,none⟩),.pointer (some ⟨w.heap.size+1,0,none⟩)])∧(w.alloc (.cells #[.pointer (some ⟨b,0,none⟩)] 57)).alloc (.cells #[.int .i64 t] 2)=w':=by
 go_in;go_wp2;go_ret;exact⟨rfl,rfl⟩
theorem aiI {W:World} {b:Nat} {t:TypeId} {v:Value} (h:Boxed W b t v):b<W.heap.size:=(Array.getElem?_eq_some_iff.1 h).1
structure Kk (A:List Nat) (w:World) (N lv:Nat) (S:Nat→Prop) (pre:List Nat) (W:World):Prop where
 off:Off A w W
 sz:N≤W.heap.size
 l:∃v,Boxed W lv 62 v∧iG N v pre W∧∀g,v.ownBlock=some g→¬S g
 ap:¬S lv
 up:∀j,S j→(j∈A∧j<w.heap.size)∨w.heap.size≤j∧j<W.heap.size
section
variable {A:List Nat} {w:World} {N lv:Nat}
theorem Kk.on {S S':Nat→Prop} {pre:List Nat} {W W':World} (h:Kk A w N lv S pre W) (hb:Off A w W') (hz:W.heap.size≤W'.heap.size)
  (hs:∀j cs t r,W.heap[j]?=some (.cells cs t r)→¬S j→W'.heap[j]?=W.heap[j]?∧¬S' j) (hu:∀j,S' j→(j∈A∧j<w.heap.size)∨w.heap.size≤j∧j<W'.heap.size):Kk A w N lv S' pre W':=by
 obtain⟨v,l1,l2,l3⟩:=h.l;have k4:=hs lv _ _ _ l1 h.ap
 have k5:∀g,v.ownBlock=some g→W'.heap[g]?=W.heap[g]?∧¬S' g:=λg hg=>by
  rcases l2.2 with⟨h0,_⟩ |⟨g',cap,cur,h0,_,h2,_⟩
  ·rw[h0] at hg;simp[Value.ownBlock] at hg
  ·have e:g'=g:=by rw[h0] at hg;simpa [Value.ownBlock] using hg
   subst e;exact hs g' _ _ _ h2 (l3 g' hg)
 exact⟨hb,Nat.le_trans h.sz hz,⟨v,k4.1.trans l1,aG l2 λg hg=>(k5 g hg).1,λg hg=>(k5 g hg).2⟩,k4.2,hu⟩
theorem Kk.st {S S':Nat→Prop} {pre:List Nat} {W W':World} (h:Kk A w N lv S pre W) (hs:StS S W S' W'):Kk A w N lv S' pre W':=by
 have hz:=h.off.size
 refine h.on ⟨hs.os.trans h.off.os,hs.tape.trans h.off.tape,hs.output.trans h.off.output,Nat.le_trans h.off.size hs.size,λj hj hn=>(hs.block j (Nat.lt_of_lt_of_le hj h.off.size) λc=>by
   rcases h.up j c with c |c
   ·exact hn c.1
   ·omega).trans (h.off.block j hj hn)⟩ hs.size
  (λj cs t r hj hn=>by
   have hlt:=(Array.getElem?_eq_some_iff.1 hj).1
   exact⟨hs.block j hlt hn,λc=>(hs.sub j c).elim hn λd=>om⟩)
  (λj hj=>(hs.sub j hj).elim (λc=>(h.up j c).imp id λc=>⟨c.1,Nat.lt_of_lt_of_le c.2 hs.size⟩) λd=>.inr ⟨Nat.le_trans h.off.size d.1,d.2⟩)
theorem Kk.own (S:Nat→Prop) (hN:w.heap.size≤N):OwnFrom N (Kk A w N lv S):=λpre X Y row h hg hr=>by
 have hz:=h.off.size
 exact h.on ⟨hg.os.trans h.off.os,hg.tape.trans h.off.tape,hg.output.trans h.off.output,Nat.le_trans h.off.size hg.size,λj hj hn=>(hg.block j om λe=>by
   obtain⟨h1,_⟩:=hr j e.symm
   omega).trans (h.off.block j hj hn)⟩ hg.size
  (λj cs t r hj hn=>⟨hg.block j (Array.getElem?_eq_some_iff.1 hj).1 (λe=>by
   obtain⟨_,o',h1,h2⟩:=hr j e.symm
   rw[hj] at h1;cases h1;cases h2),hn⟩) λj hj=>(h.up j hj).imp id λc=>⟨c.1,Nat.lt_of_lt_of_le c.2 hg.size⟩
theorem Kk.grow {S C:Nat→Prop} {pre:List Nat} {W w2 w3:World} {v:Value} {g cp x:Nat} (h:Kk A w N lv S pre W)
  (l1:Boxed W lv 62 v) (l3:∀g,v.ownBlock=some g→¬S g) (l2:iG N v pre W) (hlv:lv<N∧w.heap.size≤lv) (hC:∀j,C j→j<N∧j≠lv)
  (b2:Below W.heap.size W w2) (hg:w2.grownBy w3 v.ownBlock) (hm:Moved w2 v g)
  (ho:iG N (.slice (some ⟨g,0,none⟩) (pre.length+1:Nat) cp) (pre++[x]) w3):
  KeepsFrom N W (w3.setCell ⟨lv,0,none⟩ (.slice (some ⟨g,0,none⟩) (pre.length+1:Nat) cp))∧Ik S C W (w3.setCell ⟨lv,0,none⟩ (.slice (some ⟨g,0,none⟩) (pre.length+1:Nat) cp))∧
   Kk A w N lv S (pre++[x]) (w3.setCell ⟨lv,0,none⟩ (.slice (some ⟨g,0,none⟩) (pre.length+1:Nat) cp)):=by
 have hvN:∀k,v.ownBlock=some k→N≤k∧k<W.heap.size:=l2.lt;have hgN:N≤g:=(World.ownsRow.lt ho g (by simp[Value.ownBlock])).1;have hsz:=h.sz;have s2:=b2.size;have s3:=hg.size;have s0:=h.off.size
 have hsame:∀j<W.heap.size,some j≠v.ownBlock→j≠lv→(w3.setCell ⟨lv,0,none⟩ (.slice (some ⟨g,0,none⟩) (pre.length+1:Nat) cp)).heap[j]?=W.heap[j]?:=λj hj h1 h2=>
  (Below.heap_setCell _ _ _ _ h2).trans ((hg.block j om h1).trans (b2.block j hj))
 have hz:W.heap.size≤(w3.setCell ⟨lv,0,none⟩ (.slice (some ⟨g,0,none⟩) (pre.length+1:Nat) cp)).heap.size:=by simp[World.setCell];omega
 have NK:∀j<N,some j≠v.ownBlock:=λj hj e=>oC (hvN j e.symm)
 have kb:Below w.heap.size W (w3.setCell ⟨lv,0,none⟩ (.slice (some ⟨g,0,none⟩) (pre.length+1:Nat) cp)):=
  ((b2.mono s0).grown hg (Nat.le_trans s0 s2) (λk e=>oC (hvN k e))).setCell (p:=⟨lv,0,none⟩) hlv.2 _
 refine⟨⟨hz,λk ob hk hok hcell=>?_⟩,⟨hz,λj hj=>?_⟩,⟨⟨kb.os.trans h.off.os,kb.tape.trans h.off.tape,kb.output.trans h.off.output,Nat.le_trans s0 hz,λj hj hn=>(kb.block j hj).trans (h.off.block j hj hn)⟩,Nat.le_trans hsz hz,⟨.slice (some ⟨g,0,none⟩) (pre.length+1:Nat) cp,?_,?_,λk hk=>?_⟩,h.ap,λj hj=>(h.up j hj).imp id λc=>⟨c.1,Nat.lt_of_lt_of_le c.2 hz⟩⟩⟩
 ·have hkl:=(Array.getElem?_eq_some_iff.1 hok).1
  rw[hsame k hkl (λe=>by
   rcases l2.2 with⟨h0,_⟩ |⟨g',cap',cur',h0,_,h2,_⟩
   ·rw[h0] at e;simp[Value.ownBlock] at e
   ·have e2:k=g':=by rw[h0] at e;simpa [Value.ownBlock] using e
    subst e2
    rw[hok] at h2;cases h2;cases hcell) om]
  exact hok
 ·rcases hj with hj |hj
  ·exact hsame j (by rcases h.up j hj with c |c<;>omega) (λe=>l3 j e.symm hj) (λe=>h.ap (e▸hj))
  ·exact hsame j (oC ((hC j hj).1)) (NK j (hC j hj).1) (hC j hj).2
 ·have hb3:Boxed w3 lv 62 v:=(hg.block lv om (NK lv hlv.1)).trans ((b2.block lv om).trans l1);exact hb3.set _
 ·exact aG ho λk hk=>Below.heap_setCell _ _ _ _ (by
   have:g=k:=by simpa [Value.ownBlock] using hk
   show k≠lv;omega)
 ·have e:g=k:=by simpa [Value.ownBlock] using hk
  subst e
  rcases hm with h1 |h1
  ·exact l3 g h1
  ·exact λc=>by rcases h.up g c with c |c<;>omega
end
theorem oI.cells {w:World} {f:bY} {S:Nat} {L:List En} (h:oI w f S L):∀j∈f.bl S,∃cs ty,w.heap[j]?=some (.cells cs ty (0,0)):=λj hj=>by
 obtain⟨sv,pl,m,_⟩:=h
 rcases bY.ak.1 hj with rfl |hj |rfl |⟨k,hk,hj⟩
 ·obtain⟨c,t,h,_⟩:=m.hr;exact⟨c,t,h⟩
 ·have hg:=m.og.trans hj
  rcases m.ow.2 with⟨e,_⟩ |⟨g',cap,cur,e,_,hg2,_⟩
  ·rw[e] at hg;cases hg
  ·have:g'=j:=by rw[e] at hg;simpa [Value.ownBlock] using hg
   subst this;exact⟨_,_,hg2⟩
 ·obtain⟨c,t,h,_⟩:=m.pr;exact⟨c,t,h⟩
 ·obtain⟨c,t,h,_⟩:=m.bk k hk j hj;exact⟨c,t,h⟩
theorem P9 {w:World} {base base' n size:Nat} {e:TypeId} {v:Value} {xs:List Value} (h:w.ownsRow base e size v n xs) (hb:base'≤base):w.ownsRow base' e size v n xs:=
 ⟨h.1,h.2.imp id λ⟨g,c,cur,h1,h2,h3⟩=>⟨g,c,cur,h1,Nat.le_trans hb h2,h3⟩⟩
section
variable {w:World} {b Sn:Nat} {f:bY} {L:List En} {ex:Nat→Int} {U:List Nat} {t:Int}
theorem ZW (hU:U.Nodup) (he:Cg ex U L):U.length≤L.length:=by
 have:=bG (r:=L.map En.i) hU λx hx=>List.mem_map.2 ⟨⟨x,ex x⟩,(he _).2 ⟨hx,rfl⟩,rfl⟩
 rwa [List.length_map] at this
theorem ED (h:rz w b f Sn L) (TR:Sn≤65535) (hU:U.Nodup) (he:Cg ex U L):
  Calls Tryz.prog 20 #[.pointer (some ⟨b,0,none⟩),.int .i64 t] w λe w'=>∃v xs f' L',e=.returned v∧iG w.heap.size v xs w'∧(∀g,v.ownBlock=some g→g∉b::f'.bl Sn)∧vQ ex t U xs∧rz w' b f' Sn L'∧Cg ex (xs.foldl List.erase U) L'∧Bo (b::f.bl Sn) (b::f'.bl Sn) w w':=by
 refine(callsIn_wide (n:=8)).1 ?_;have HV:=jh (mG h);have H:=jh h
 have Gt:U.length≤65535:=by
  have:=ZW hU he;obtain⟨_,_,_,o,_⟩:=h.q;have:=o.le;omega
 have HE:=jh (And.intro TR (And.intro hU (And.intro he Gt)));clear h TR hU he Gt;refine callsIn_of_wp_marks Tryz.func20 rfl trivial ?_ rfl;simp only[Tryz.ntmps20,List.size_toArray,List.length_cons,List.length_nil,Nat.reduceAdd,Nat.reduceSub,Array.replicate_succ,Array.replicate_zero,List.push_toArray,List.append_toArray,List.nil_append,List.cons_append]
 gi_wp2_with fail
 refine⟨trivial,(callsIn_wide.2 HV.out).mono ?_⟩;rintro e w1 ⟨rfl,rfl⟩
 gi_wp2_with fail
 obtain⟨w2,hw2⟩:∃w2,w1.alloc (.cells #[.slice none 0 0] 62)=w2:=⟨_,rfl⟩;have HW2:=jh hw2;rw[hw2];refine⟨trivial,(callsIn_wide.2 (RU b t w2)).mono ?_⟩;rintro e w3 ⟨rfl,hw3⟩;have HW3:=jh hw3;clear hw2 hw3
 gi_wp2_with fail
 have z2:w2.heap.size=w1.heap.size+1:=by rw[←HW2.out];simp
 have z3:w3.heap.size=w1.heap.size+3:=by rw[←HW3.out];simp[z2]
 have o2:Off [] w1 w2:=by rw[←HW2.out];exact(Off.refl _ _).alloc _
 have o23:Off [] w2 w3:=by rw[←HW3.out];exact((Off.refl _ _).alloc _).alloc _
 have o3:Off [] w1 w3:=o2.trans o23 λj hj=>by cases hj
 have bl:Boxed w3 w1.heap.size 62 (.slice none 0 0):=(o23.block _ om sj).trans (by rw[←HW2.out];exact Boxed.new _ _ _)
 have bs:Boxed w3 w2.heap.size 57 (.pointer (some ⟨b,0,none⟩)):=by rw[←HW3.out];exact(Boxed.new w2 _ _).alloc _
 have bt:Boxed w3 (w2.heap.size+1) 2 (.int .i64 t):=by
  rw[←HW3.out];have:=Boxed.new (w2.alloc (.cells #[.pointer (some ⟨b,0,none⟩)] 57)) 2 (.int .i64 t)
  rwa [World.size_alloc] at this
 have SF:∀{j:Nat} {ty:TypeId} {v:Value},Boxed w3 j ty v→Row w3 j 1 (λ_=>v):=λhb=>⟨_,_,hb,λi hi=>by match i,hi with |0,_=>rfl |k+1,e=>exact absurd e om⟩;have hlt:=H.out.lt;have hS3:=H.out.keep (w':=w3) λj hj=>o3.block j (hlt j hj) sj
 have T0:qX b w2.heap.size (w2.heap.size+1) f.h Sn t ex U (λj=>j∈f.bl Sn) [] w3∧qY ex t U []:=
  ⟨⟨⟨f,L,λ_=>Iff.rfl,rfl,hS3.q,HE.out.2.2.1⟩,hS3.hr,SF bs,SF bt,λj hj c=>by
   have h1:=hlt j (List.mem_cons_of_mem _ c)
   rcases hj with rfl |rfl |rfl
   ·exact H.out.ne c
   ·omega
   ·omega⟩,trivial⟩
 have I0:Kk (f.bl Sn) w1 w3.heap.size w1.heap.size (λj=>j∈f.bl Sn) [] w3:=
  ⟨o3.mono (λj hj=>by cases hj),Nat.le_refl _,⟨_,bl,World.ownsRow_nil _ _ _ _,(λg hg=>by simp[Value.ownBlock] at hg)⟩,(λc=>oC (hlt _ (List.mem_cons_of_mem _ c))),λj hj=>.inl ⟨hj,hlt j (List.mem_cons_of_mem _ hj)⟩⟩
 have hb:b<w1.heap.size:=hlt b sj;have HC:=jh (show ∀j,NA b w2.heap.size (w2.heap.size+1) j→j<w3.heap.size∧j≠w1.heap.size from λj hj=>by rcases hj with c |c |c<;>(constructor<;>omega));have vF:=jh (show ∀j∈f.bl Sn,j<w3.heap.size from λj hj=>oC (hlt j (List.mem_cons_of_mem _ hj)));have HN:=jh (show(w1.heap.size<w3.heap.size∧w1.heap.size≤w1.heap.size)∧w1.heap.size≤w3.heap.size∧b<w1.heap.size from⟨⟨om,om⟩,om,hb⟩);have HT0:=jh T0;have HI0:=jh I0;clear z2 z3 o2 o23 o3 bl bs bt SF hlt hS3 T0 I0 hb HW2 HW3 HV
 refine Yw (F:=Fence.wide) rfl om (gf:=98) (lb:=#[.pointer (some ⟨w2.heap.size,0,none⟩),.pointer (some ⟨w2.heap.size+1,0,none⟩)]) rfl trivial (enters_of Tryz.func98 (by kernel_rfl) rfl)
  (MF 7 om HE.out.1 HE.out.2.1 (λj=>j∈f.bl Sn) w3) (λS xs W1 W2 k h=>⟨h.1.keep k.same,h.2⟩) HT0.out vF.out (λj hj=>(HC.out j hj).1) (λ_=>rfl)
  (Kk (f.bl Sn) w1 w3.heap.size w1.heap.size) (λ_ _ _=>False)
  (λS=>Kk.own S HN.out.2.1) (λ_ _ _ _ _ hs _ _=>hs) (λS S' pre A B h st=>h.st st) HI0.out
  (λ_ x a'=>a'={ tmps:=#[.pointer (some ⟨b,0,none⟩),.int .i64 t,undef,undef,.slice none 0 0,.pointer (some ⟨w1.heap.size,0,none⟩),.int .i64 x,.pointer (some ⟨b,0,none⟩),.bool true,.bool false,.pointer (some ⟨b,0,none⟩),.int .i64 t,.func (.func 98) #[] #[.pointer (some ⟨w2.heap.size,0,none⟩),.pointer (some ⟨w2.heap.size+1,0,none⟩)],.int .i64 x,undef,undef,undef,undef,undef],defers:=[] }) ?assign ?body ?done ?stop
 case assign=>
  intro l S pre x W K hI hT hKK
  gi_wp2_with (rw[Oper.semAt_eq _ _ _ (λc h=>by cases h)];go_simp;try go_bits)
  rfl
 case stop=>
  rintro D c pre W hD h _;exact h.elim
 case done=>
  rintro D S xs W hD hend hT hI hDf;obtain⟨v,l1,l2,l3⟩:=hI.l;have cl:=l1.cell;have HT:=jh hT;have HI:=jh hI;have H2:=jh l2;have H3:=jh l3;have ajY:=jh hend;clear hT hI l1 l2 l3 hend
  gi_wp2_with fail
  refine⟨sj,.inl ⟨_,_,rfl,run_takeDeferred hDf,?_⟩⟩;obtain⟨f',L',h1,h2,h3,h4⟩:=HT.out.1.hp
  have hne:∀j∈b::f'.bl Sn,(W.putObj D (.deferred none)).heap[j]?=W.heap[j]?:=λj hj=>World.putObj_heap_other λe=>by
   subst e
   rcases List.mem_cons.1 hj with e |hj
   ·have:=HN.out;omega
   ·obtain⟨cs,ty,hc⟩:=h3.cells j hj;rw[hc] at hDf;cases hDf
  refine⟨_,results_tmp rfl _ _ _,v,xs,f',L',rfl,?_,?_,HT.out.2.done ajY.out,⟨?_,h3.keep λj hj=>hne j (List.mem_cons_of_mem _ hj),λc=>HT.out.1.ap b (.inl rfl) ((h1 b).2 c)⟩,h4,?_⟩
  ·exact P9 (ownsRow_putObj H2.out _ hDf rfl) HN.out.2.1
  ·intro g hg c
   rcases List.mem_cons.1 c with e |c
   ·have:=(World.ownsRow.lt H2.out g hg).1;have:=HN.out;omega
   ·exact H3.out g hg ((h1 g).2 c)
  ·exact HT.out.1.hr.of_block (hne b sj) |>λr=>by rw[h2];exact r
  ·have hW:Off (b::f.bl Sn) w1 W:=HI.out.off.mono λj hj=>.inl (List.mem_cons_of_mem _ hj);have hs:=hW.size;have hD':=HN.out.2.1;refine⟨⟨hW.os,hW.tape,hW.output,by simpa [World.putObj] using hs,λj hj hn=>(World.putObj_heap_other om).trans (hW.block j hj hn)⟩,λj hj=>?_⟩
   rcases List.mem_cons.1 hj with e |hj
   ·exact .inl (by rw[e];simp)
   ·exact(HI.out.up j ((h1 j).2 hj)).imp (λc=>List.mem_cons_of_mem _ c.1) (λc=>c.1)
 case body=>
  rintro l S pre x a' W hl-hSl hI rfl hT;obtain⟨v,l1,l2,l3⟩:=hI.l;have cl:=l1.cell;have fl:=l1.frozen;have hlen:=hT.2.len;rw[List.length_append,List.length_singleton] at hlen;have hLB:(pre.length+1)*8≤140737488355328:=oC HE.out.2.2.2;have adA:pre.length+1≤9223372036854775807:=oC HE.out.2.2.2;have hwz:=hI.sz;have HI:=jh hI;have H2:=jh l2;have HL:=jh l1;have H3:=jh l3;clear hI l3 hT
  gi_wp2_with (first |(gi_at_builtin;refine UR Cw rfl _ _ rfl w3.heap.size _ _ _ H2.out rfl #[.int .i64 x] _ rfl rfl rfl (by simp[Value.oneCell']) hLB adA hwz ?_;intro g2 cp w5 hown5 hg5 hm5;refine Hid.out ?_) |(rw[Oper.semAt_eq _ _ _ (λc h=>by cases h)];go_simp;try go_bits))
  have ow5:iG w3.heap.size (.slice (some ⟨g2,0,none⟩) (pre.length+1:Nat) cp) (pre++[x]) w5:=by
   unfold iG;rw[List.length_append,List.length_singleton,jW,List.map_append];exact hown5
  have G:=HI.out.grow HL.out H3.out H2.out HN.out.1 HC.out (Below.refl _ _) hg5 hm5 ow5
  have b5:Boxed w5 w1.heap.size 62 v:=(hg5.block _ (aiI HL.out) λe=>by
   have:=(World.ownsRow.lt H2.out _ e.symm).1;have:=HN.out
   omega).trans HL.out
  have c5:=b5.cell;have f5:=b5.frozen;have HG:=jh G;clear ow5 hown5 hg5 hm5 G b5 l1 l2 cl fl hlen hLB adA hwz;refine jh ?_
  gi_wp2_with (rw[Oper.semAt_eq _ _ _ (λc h=>by cases h)];go_simp;try go_bits)
  exact HG.out
end
end
end Go.Proofs.YtpaeogglppampaaGreatDoor
