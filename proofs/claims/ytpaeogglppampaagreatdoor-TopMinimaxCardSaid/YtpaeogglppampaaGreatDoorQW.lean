/- Lemmas of the proof. Conditions: as each one states. -/
import Derived.Test.YtpaeogglppampaaGreatDoorQT
import Derived.Test.YtpaeogglppampaaGreatDoorQV
set_option maxRecDepth 100000
set_option maxHeartbeats 16000000
namespace Go.Proofs.YtpaeogglppampaaGreatDoor
open Go.RowKit
theorem qw.off {w w':World} {S:List Nat} (h:qw w) (o:Off S w w') (h1:1∉S):qw w':=λj hj=>(World.cell?_of_block (o.block 1 h.lt h1)).trans (h j hj)
section
variable {W:World} {B:Nat} {S:List Int} {E:List Ed} {g cb fb:Nat}
theorem Qw (h:yu W B S E g cb fb) (hB:B≤W.heap.size) (hT:qw W) {cap z:Nat} {b:fF} {u v:Int} {ub vb tb jb p q:Nat} (hu:W.cell? ⟨ub,0,none⟩=some (.int .u64 u)) (hv:W.cell? ⟨vb,0,none⟩=some (.int .u64 v)) (Gt:ub<W.heap.size) (hvl:vb<W.heap.size)
  {x0 x1:Value} (ht:Row W tb 1 (λ_=>x0)) (hj:Row W jb 1 (λ_=>x1)) (hne:tb≠jb∧tb≠ub∧tb≠vb∧jb≠ub∧jb≠vb) (hp:p<S.length) (xE:aQ S p=u) (hq:q<S.length) (TP:aQ S q=v) (hpq:p≠q):
  Calls Tryz.prog 27 #[.agg (sH S.length cap z g b cb fb),.pointer (some ⟨ub,0,none⟩),.pointer (some ⟨vb,0,none⟩),.pointer (some ⟨tb,0,none⟩),.pointer (some ⟨jb,0,none⟩)] W λe w'=>e=.returned (.tuple #[])∧Off [tb,jb] W w'∧∃θ ok,Ij E p q θ ok∧w'.cell? ⟨tb,0,none⟩=some (.int .i64 θ)∧w'.cell? ⟨jb,0,none⟩=some (.bool ok):=by
 unfold sH;go_in;go_wp2_with fail;obtain⟨kb,hkb⟩:=nE W.heap.size;obtain⟨W1,hW1⟩:∃W1,(W.alloc (.cells #[.slice (some ⟨g,0,none⟩) S.length cap,.int .i64 S.length,.slice (some ⟨b.l,0,none⟩) z z,.slice (some ⟨b.r,0,none⟩) z z,.slice (some ⟨b.p,0,none⟩) z z,.slice (some ⟨b.h,0,none⟩) z z,.slice (some ⟨b.s,0,none⟩) z z,.pointer (some ⟨cb,0,none⟩),.pointer (some ⟨fb,0,none⟩)] 78)).drew=W1:=⟨_,rfl⟩
 have o1:Off [] W W1:=by rw[←hW1];exact((Off.refl _ _).alloc _).drew
 have r1:Row W1 kb 9 (λi=>(sH S.length cap z g b cb fb).getD i undef):=by
  rw[←hW1,←hkb];exact Row.lit W _ _ (Nat.le_refl _) lC
 have htl:=ht.lt;have hjl:=hj.lt;have hne1:tb≠kb∧jb≠kb∧ub≠kb∧vb≠kb:=om
 have HC:∀V:World,Off [tb,jb] W1 V→V.cell? ⟨kb,0,none⟩=some (.slice (some ⟨g,0,none⟩) S.length cap)∧V.cell? ⟨kb,8,none⟩=some (.pointer (some ⟨fb,0,none⟩))∧V.cell? ⟨ub,0,none⟩=some (.int .u64 u)∧V.cell? ⟨vb,0,none⟩=some (.int .u64 v):=λV o=>by
  have r:=r1.off o (by simp;omega);have oo:=(o1.mono (S':=[tb,jb]) sj).trans o λj hj=>.inl hj;exact⟨r.c 0,r.c 8,(World.cell?_of_block (oo.block ub Gt (by simp;omega))).trans hu,(World.cell?_of_block (oo.block vb hvl (by simp;omega))).trans hv⟩
 have HC:=jh HC;have HK:=jh (fun(V:World) (o:Off [] W1 V)=>(h.off (o1.trans o sj) hB sj));have HPu:=fun{V:World} (o:Off [] W1 V)=>jh (lF (cap:=cap) (HK.out _ o).ids hp xE);have HPv:=fun{V:World} (o:Off [] W1 V)=>jh (lF (cap:=cap) (HK.out _ o).ids hq TP);have HMn:=fun{V:World} (o:Off [] W1 V)=>jh (Qn (HK.out _ o).fd (Nat.le_trans hB (Nat.le_trans o1.size o.size)) (hT.off (o1.trans o sj) sj) hp hq hpq);have HT1:=jh (ht.off o1 sj);have HJ1:=jh (hj.off o1 sj);have fK:=jh o1;have HW1:=jh hW1;rw[hkb];have HS:=HC.out W1 (Off.refl _ _);have HN:=jh hne;have HB1:=jh (show tb<W1.heap.size∧jb<W1.heap.size from⟨(ht.off o1 sj).lt,(hj.off o1 sj).lt⟩);clear h hu hv ht hj o1 r1 hW1 hp xE hq TP hkb hT hne hne1;refine aj (λV=>V.cell? ⟨kb,0,none⟩=some (.slice (some ⟨g,0,none⟩) S.length cap)∧V.cell? ⟨kb,8,none⟩=some (.pointer (some ⟨fb,0,none⟩))∧V.cell? ⟨ub,0,none⟩=some (.int .u64 u)∧V.cell? ⟨vb,0,none⟩=some (.int .u64 v)) (by kernel_rfl) ?_;rw[HW1.out];refine tC 0 ?_;refine tC 1 ?_;refine tC 2 ?_;refine tC 3 ?_;refine tC 4 ?_;refine tC 6 ?_;refine tC 7 ?_;refine tC 8 ?_;have Ir:=jh (Off.refl [] W1)
 try simp only[sD]
 refine rC 5 λKx hK=>?_;go_simp;refine(HPu Ir.out).out.mono ?_;rintro e wq ⟨rfl,pq,rfl⟩;obtain⟨W2,Fu⟩:=nE (W1.drewN pq);have aaN:=jh (show Off [] W1 W2 by rw[←Fu];exact Ir.out.drewN pq);rw[Fu];clear Fu;refine hK.out _ _ (HC.out _ (aaN.out.mono sj)) (λHS=>?_);clear hK;refine rC 9 λKx hK=>?_;go_simp;refine(HPv aaN.out).out.mono ?_;rintro e wq ⟨rfl,pq,rfl⟩;obtain⟨W3,Fu⟩:=nE (W2.drewN pq);have aaM:=jh (show Off [] W1 W3 by rw[←Fu];exact aaN.out.drewN pq);rw[Fu];clear Fu;refine hK.out _ _ (HC.out _ (aaM.out.mono sj)) (λHS=>?_);clear hK;refine rC 10 λKx hK=>?_;go_simp;refine(HMn aaM.out).out.mono ?_;rintro e W4 ⟨θ,ok,rfl,hm,bq⟩;have Im:=jh (aaM.out.trans (Off.of_below (S:=[]) bq) sj);have HM:=jh hm;clear bq hm HMn HPu HPv HK;refine hK.out _ _ (HC.out _ (Im.out.mono sj)) (λHS=>?_);clear hK;refine tC 11 ?_;refine tC 12 ?_;refine tC 13 ?_
 try simp only[sD]
 have t4:=HT1.out.off Im.out sj;have j4:=HJ1.out.off Im.out sj;have c0:W4.cell? ⟨tb,0,none⟩=some x0:=t4.c 0;have f0:W4.frozen? ⟨tb,0,none⟩=false:=t4.frozen 0;have HJ4:=jh j4;have HT4:=jh t4;clear t4 j4 HS;refine rC 14 λKx hK=>?_;go_simp;obtain⟨W5,h5⟩:=nE (W4.setCell ⟨tb,0,none⟩ (.int .i64 θ));have nk:=jh (show Off [tb,jb] W1 W5 by rw[←h5];exact(Im.out.mono sj).setCell (p:=⟨tb,0,none⟩) sj _);have HT5:=jh (show Row W5 tb 1 (λ_=>.int .i64 θ) by rw[←h5];exact(HT4.out.set 0 _).congr λi hi=>if_pos om);have HJ5:=jh (show Row W5 jb 1 (λ_=>x1) by rw[←h5];exact HJ4.out.setOther (λe=>HN.out.1 e.symm) _);rw[h5];clear c0 f0 h5 HT4 HJ4;have HS:=HC.out _ nk.out;refine hK.out _ _ HS (λ_=>?_);clear hK HS;have c0:W5.cell? ⟨jb,0,none⟩=some x1:=HJ5.out.c 0;have f0:W5.frozen? ⟨jb,0,none⟩=false:=HJ5.out.frozen 0;refine rC 15 λKx hK=>?_;go_simp;obtain⟨W6,h6⟩:=nE (W5.setCell ⟨jb,0,none⟩ (.bool ok));have nI:=jh (show Off [tb,jb] W1 W6 by rw[←h6];exact nk.out.setCell (p:=⟨jb,0,none⟩) sj _);have HJ6:=jh (show Row W6 jb 1 (λ_=>.bool ok) by rw[←h6];exact(HJ5.out.set 0 _).congr λi hi=>if_pos om);have HT6:=jh (show Row W6 tb 1 (λ_=>.int .i64 θ) by rw[←h6];exact HT5.out.setOther HN.out.1 _);rw[h6];clear c0 f0 h6 HT5 HJ5;have HS:=HC.out _ nI.out;refine hK.out _ _ HS (λ_=>?_);clear hK HS;refine dD ⟨rfl,?_⟩
 go_wp2
 go_end0;exact⟨rfl,(fK.out.mono (S':=[tb,jb]) sj).trans nI.out λj hj=>.inl hj,θ,ok,HM.out,HT6.out.c 0,HJ6.out.c 0⟩
end
theorem zK (args:Array Value) (w:World):(callFunc 27 args).run Tryz.prog w=.ok (.enter 27 args) w:=vD Tryz.func27 (by kernel_rfl) (by kernel_rfl) _ _
section
variable {w:World} {G:dX} {c:Cf} {nw ex:Int} {ad:Nat} {s:St} {vb:Nat}
theorem Oa (h:Ih w G c vb) (hw:qW w G c nw ad ex s) (hV:c.V≤12) (hT:qw w) (h1:∀j∈vb::G.bl c.E,j≠1) {u v:Int} (huv:u≠v):
  Calls Tryz.prog 10 #[.pointer (some ⟨vb,0,none⟩),.int .u64 u,.int .u64 v] w λe w'=>qW w' G c nw ad ex s∧Off (vb::G.bl c.E) w w'∧((¬(s.has u∧s.has v)∧e=.returned (.tuple #[.int .i64 0,.bool false,.int .i64 13]))∨
   (s.has u∧s.has v∧∃lo hi S K cap z g b cb fb p q θ ok,oz w' G c vb (qA ad ex) s lo hi S K cap z g b cb fb∧p<S.length∧aQ S p=u∧q<S.length∧aQ S q=v∧Ij (je S s K) p q θ ok∧e=.returned (.tuple #[.int .i64 θ,.bool ok,.int .i64 0]))):=by
 have NK:vb∉G.bl c.E:=h.2;have oJ:=jh hw.lt;have hvl:vb<w.heap.size:=h.1.lt;obtain⟨W1,hW1⟩:∃W,(w.alloc (.cells #[.int .u64 u] 25)).alloc (.cells #[.int .u64 v] 25)=W:=⟨_,rfl⟩;obtain⟨ub,hub⟩:=nE w.heap.size
 have o1:Off [] w W1:=by rw[←hW1];exact((Off.refl _ _).alloc _).alloc _
 have ru:Row W1 ub 1 (λi=>(#[Value.int .u64 u]:Array Value).getD i undef):=by
  rw[←hW1,←hub];exact(Row.lit (n:=1) w #[.int .u64 u] 25 (Nat.le_refl _) lC).alloc _
 have rv:Row W1 (ub+1) 1 (λi=>(#[Value.int .u64 v]:Array Value).getD i undef):=by
  rw[←hW1,←hub];have:=Row.lit (n:=1) (f:=λi=>(#[Value.int .u64 v]:Array Value).getD i undef) (w.alloc (.cells #[.int .u64 u] 25)) #[.int .u64 v] 25 (Nat.le_refl _) lC;simpa using this
 have h1':=h.off o1 sj;have EX:=jh (qz h1'.1);have E8:=jh (rA h1'.1 (hw.off o1) u);have H1:=jh h1';have fK:=jh o1;have HU:=jh ru;have HV:=jh rv;have HDe:=jh hT;have HN1:=jh h1;have EY:=jh huv;have HW1:=jh hW1;have Ar:=jh hub;have cu:W1.cell? ⟨ub,0,none⟩=some (.int .u64 u):=ru.c 0;clear hw o1 ru rv h1' hW1 h hT h1 huv;go_in;go_wp2_with fail;rw[HW1.out]
 try rw[hub]
 clear hub;apply mO EX;rintro e wq ⟨rfl,rfl⟩;clear EX;go_wp2_with fail;apply mO E8;rintro e w2 ⟨r,rfl,hr,hw2,b2⟩;have hnu:ub∉G.bl c.E∧ub+1∉G.bl c.E:=⟨λe=>oD (oJ.out _ e) Ar.out,λe=>oD (oJ.out _ e) Ar.out⟩;have eG:=jh ((fK.out.mono (S':=G.bl c.E) sj).trans b2.off (λj hj=>.inl hj));have Ka:=jh (HU.out.off b2.off hnu.1);have Tn:=jh (HV.out.off b2.off hnu.2);have HN:=jh hnu;have H2:=jh (H1.out.off b2.off (λj hj e=>NK (e▸hj)));have HW2:=jh hw2;have NJ:vb<ub:=oC Ar.out;clear hw2 b2 hnu E8 cu HU HV H1 fK
 cases r with
 |false=>
  have J9:=jh (show ¬s.has u from λc=>by have:=hr.2 c;cases this);clear hr
  go_wp2
  go_ret3
  exact⟨HW2.out,eG.out.mono (λj hj=>.inl (List.mem_cons_of_mem _ hj)),.inl ⟨λe=>J9.out e.1,rfl⟩⟩
 |true=>
  have J9:=jh (hr.1 rfl);have HHv:=jh (rA H2.out.1 HW2.out v);have cv:w2.cell? ⟨ub+1,0,none⟩=some (.int .u64 v):=Tn.out.c 0;clear hr;go_wp2_with fail;apply mO HHv;rintro e w3 ⟨r,rfl,hr,hw3,b3⟩;have dh:=jh (eG.out.trans b3.off (λj hj=>.inl hj));have ajk:=jh (Ka.out.off b3.off HN.out.1);have Uf:=jh (Tn.out.off b3.off HN.out.2);have H3:=jh (H2.out.off b3.off (λj hj e=>NK (e▸hj)));have HW3:=jh hw3;clear hw3 b3 HHv cv Ka Tn H2 eG HW2
  cases r with
  |false=>
   have HV4:=jh (show ¬s.has v from λc=>by have:=hr.2 c;cases this);clear hr
   go_wp2
   go_ret3
   exact⟨HW3.out,dh.out.mono (λj hj=>.inl (List.mem_cons_of_mem _ hj)),.inl ⟨λe=>HV4.out e.2,rfl⟩⟩
  |true=>
   have HV4:=jh (hr.1 rfl);clear hr;have cf:=zK;obtain⟨tb,htb⟩:=nE w3.heap.size;obtain⟨W4,gT⟩:∃W,(w3.alloc (.cells #[.int .i64 0] 2)).alloc (.cells #[.bool false] 4)=W:=⟨_,rfl⟩
   have o4:Off [] w3 W4:=by rw[←gT];exact((Off.refl _ _).alloc _).alloc _
   have rt:Row W4 tb 1 (λ_=>.int .i64 0):=by
    rw[←gT,←htb];exact(Row.lit (n:=1) (f:=λ_=>.int .i64 0) w3 #[.int .i64 0] 2 (Nat.le_refl _) lC).alloc _
   have rj:Row W4 (tb+1) 1 (λ_=>.bool false):=by
    rw[←gT,←htb];have:=Row.lit (n:=1) (f:=λ_=>.bool false) (w3.alloc (.cells #[.int .i64 0] 2)) #[.bool false] 4 (Nat.le_refl _) lC;simpa using this
   have h4s:W4.heap.size=tb+2:=by rw[←gT,←htb];simp
   have hug:ub+1<tb:=oC Uf.out.lt;have jw:=jh o4;have HT4:=jh rt;have HJ4:=jh rj;have J8:=jh gT;have CJ:=jh htb
   have Co:∀W,Off [vb] W4 W→W.cell? ⟨ub,0,none⟩=some (.int .u64 u)∧W.cell? ⟨ub+1,0,none⟩=some (.int .u64 v):=λW o=>
    ⟨((ajk.out.off o4 sj).off o (by simp;omega)).c 0,((Uf.out.off o4 sj).off o (by simp;omega)).c 0⟩
   have HCu:=jh Co;have aaF:=jh (HW3.out.off o4);have H4:=jh (H3.out.off o4 sj);have HD4:=jh (show qw W4 from(HDe.out.off dh.out λc=>HN1.out 1 (List.mem_cons_of_mem _ c) rfl).off o4 sj);have hlt3:=HW3.out.lt;clear o4 rt rj gT htb Co;go_wp2_with fail;rw[J8.out]
   try rw[CJ.out]
   clear cf;obtain⟨f,hk,ws⟩:=aaF.out;have hub:=Ar.out;refine(CV H4.out hk hV zK (P:=λw'=>∃lo hi S K cap z g b cb fb p q θ ok,W4.heap.size≤lo∧oz w' G c vb (qA ad ex) s lo hi S K cap z g b cb fb∧p<S.length∧aQ S p=u∧q<S.length∧aQ S q=v∧Ij (je S s K) p q θ ok∧w'.cell? ⟨tb,0,none⟩=some (.int .i64 θ)∧w'.cell? ⟨tb+1,0,none⟩=some (.bool ok)∧Off [vb,tb,tb+1] W4 w') (λW lo hi S K cap z g b cb fb oW hlo hK=>?_)).mono ?_
   ·obtain⟨u1,u2⟩:=HCu.out W oW;have hp:=kS (BA hK.sp J9.out);have hq:=kS (BA hK.sp HV4.out);have hsW:=oW.size;have hvt:vb≠tb∧vb≠tb+1:=om;refine(Qw hK.self hK.vg (HD4.out.off oW (by simp;exact λe=>HN1.out vb (List.mem_cons_self ..) e.symm)) u1 u2 om om (HT4.out.off oW (by simp;omega)) (HJ4.out.off oW (by simp;omega)) om hp.1 hp.2 hq.1 hq.2 (λe=>EY.out (by rw[←hp.2,←hq.2,e]))).mono ?_;rintro e w' ⟨rfl,o5,θ,ok,hm,k1,k2⟩;exact⟨rfl,lo,hi,S,K,cap,z,g,b,cb,fb,_,_,θ,ok,hlo,hK.off o5 (by simp;have:=hK.vg;omega),hp.1,hp.2,hq.1,hq.2,hm,k1,k2,(oW.mono (S':=[vb,tb,tb+1]) sj).trans o5 sj⟩
   ·rintro e w5 ⟨rfl,lo,hi,S,K,cap,z,g,b,cb,fb,p,q,θ,ok,hlo,hvk,hp,xE,hq,TP,hm,k1,k2,TQ⟩;have Tv:=jh TQ;have HVK:=jh hvk;have HPq:=jh (And.intro hp (And.intro xE (And.intro hq (And.intro TP hm))));clear hvk TQ hp xE hq TP hm hk ws;go_wp2
    go_quiet (fail)
    obtain⟨w6,h6⟩:=nE (w5.drewN nq)
    have o6:Off [] w5 w6:=by rw[←h6];exact(Off.refl _ _).drewN nq
    have nI:=jh o6;rw[h6];clear h6 k1 k2 o6
    go_wp2
    go_ret3
    have hs3:=jw.out.size;have hs4:=Tv.out.size;refine⟨(aaF.out.keep λj hj=>Tv.out.block j (aaF.out.lt j hj) (by have:=hlt3 j hj;have:=CJ.out;simp;exact⟨λe=>NK (e▸hj),om,om⟩)).off nI.out,?_,.inr ⟨J9.out,HV4.out,lo,hi,S,K,cap,z,g,b,cb,fb,p,q,θ,ok,HVK.out.off nI.out sj,HPq.out.1,HPq.out.2.1,HPq.out.2.2.1,HPq.out.2.2.2.1,HPq.out.2.2.2.2,rfl⟩⟩;refine(((dh.out.mono (S':=vb::G.bl c.E) (λj hj=>.inl (List.mem_cons_of_mem _ hj))).trans jw.out sj).trans Tv.out (λj hj=>?_)).trans nI.out sj;simp at hj
    rcases hj with rfl |rfl |rfl
    ·exact .inl (List.mem_cons_self ..)
    ·have:=dh.out.size;have:=CJ.out;exact .inr om
    ·have:=dh.out.size;have:=CJ.out;exact .inr om
end
theorem DK {w0 w w':World} {G G':dX} {E:Nat} (h:∀j∈G.bl E,w0.heap.size≤j) (o:Off [] w0 w) (b:Bo (G.bl E) (G'.bl E) w w'):(∀j∈G'.bl E,w0.heap.size≤j)∧Off [] w0 w':=
 ⟨λj hj=>(b.fQ j hj).elim (h j) λe=>oC o.size,o.trans b.off λj hj=>.inr (h j hj)⟩
theorem Rd.far {t:TypeId} {size n B:Nat} {w w':World} {v:Value} {f:Nat→Nat→Value} {A:Nat→Addr} (h:Rd t size w B v n f A) (o:∀i<n,w'.heap[(A i).block]?=w.heap[(A i).block]?):Rd t size w' B v n f A:=
 ⟨h.ix,h.lt,λi hi j hj=>(World.cell?_of_block (by rw[add_block];exact o i hi)).trans (h.cell i hi j hj)⟩
theorem Vm {w w':World} {s:St} {v:Value} {K:List Nat} (h:v=.slice none 0 0∧K=[]∨∃g cap,v=.slice (some ⟨g,0,none⟩) (K.length:Nat) cap∧Row w' g (K.length*7) (NH s K)∧w.heap.size≤g):
  ∃a cap A,v=.slice a (K.length:Nat) cap∧Rd 45 7 w' w'.heap.size (.slice a (K.length:Nat) cap) K.length (yE s K) A∧∀i<K.length,w.heap.size≤(A i).block:=by
 rcases h with⟨rfl,rfl⟩ |⟨g,cap,rfl,hr,hg⟩
 ·exact⟨none,0,λ_=>⟨0,0,none⟩,rfl,Rd.nil _,λi hi=>absurd hi (Nat.not_lt_zero _)⟩
 ·refine⟨some ⟨g,0,none⟩,cap,_,rfl,Rd.addr JN (λ_=>hr.lt) (λi hi j hj=>?_),λi hi=>by rw[add_block];exact hg⟩;rw[kV,Nat.zero_add,hr.cell om];unfold NH yE;rw[show(i*7+j) / 7=i by omega,show(i*7+j)%7=j by omega]
def lwt (s:St) (K:List Nat) (i:Nat):Int:=(s.rc (K.getD i 0)).w
theorem YJ {s:St} {K K0:List Nat} {S:List Int} {E:List Ed} (Jh:yt S (K.map s.rc) E) (h:∀x,x∈K↔x∈K0) {j:Nat} (hj:j<E.length):∃i,i<K0.length∧lwt s K0 i=(aR E j).w:=by
 have hl:j<(K.map s.rc).length:=by rw[←Jh.len];exact hj
 obtain⟨a,b,_,_,e,_⟩:=Jh.ed j hl
 have hk:j<K.length:=by simpa using hl
 have hm:K[j]∈K0:=(h _).1 (List.getElem_mem hk);obtain⟨i,hi,ei⟩:=List.mem_iff_getElem.1 hm;refine⟨i,hi,?_⟩;rw[e];show(s.rc (K0.getD i 0)).w=((K.map s.rc).getD j Fh).w;rw[List.getD_eq_getElem?_getD,List.getElem?_eq_getElem hi,List.getD_eq_getElem?_getD,List.getElem?_eq_getElem hl];simp[ei]
section
variable {w:World} {A:Nat→Addr} {sa:Option Addr} {cap:Nat} {L:List Sp}
theorem Vf (W E V D u v:Int) (hS:SS w w.heap.size (.slice sa L.length cap) L A) (hm:L.length≤9223372036854775807) (hwf:aat L) (hW:dR W) (hT:qw w):
  Calls Tryz.prog 3 #[.agg #[.int .i64 W,.int .i64 E,.int .i64 V,.int .i64 D],.slice sa L.length cap,.int .u64 u,.int .u64 v] w λe w'=>e=.returned (.bool true)∧Off [] w w':=by
 have HS:=jh hS;have HWf:=jh hwf;have HDe:=jh hT;clear hT;obtain⟨n,hn⟩:=nE L.length;have HN:=jh hn;rw[hn] at hm⊢;obtain⟨cb,hcb⟩:=nE w.heap.size;obtain⟨W1,hW1⟩:∃X,w.alloc (.cells #[.int .i64 W,.int .i64 E,.int .i64 V,.int .i64 D] 23)=X:=⟨_,rfl⟩
 have o1:Off [] w W1:=by rw[←hW1];exact(Off.refl _ _).alloc _
 have r1:Row W1 cb 4 (λi=>(#[Value.int .i64 W,.int .i64 E,.int .i64 V,.int .i64 D]:Array Value).getD i undef):=by
  rw[←hW1,←hcb];exact Row.lit w _ _ (Nat.le_refl _) lC
 have HNw:=jh (CU W1 W E V D hW);have fK:=jh o1;have HR1:=jh r1;have HW1:=jh hW1;have HCB:=jh hcb;have HWk:=λX=>jh (CS X);have c0:W1.cell? ⟨cb,0,none⟩=some (.int .i64 W):=r1.c 0;have c1:W1.cell? ⟨cb,1,none⟩=some (.int .i64 E):=r1.c 1;have c2:W1.cell? ⟨cb,2,none⟩=some (.int .i64 V):=r1.c 2;have c3:W1.cell? ⟨cb,3,none⟩=some (.int .i64 D):=r1.c 3;clear hS hwf hn hW1 o1 r1;go_in;go_wp2_with fail;rw[HW1.out]
 try rw[hcb]
 clear hcb;apply mO HNw;clear HNw;rintro e w2 (⟨rfl,o2,hb⟩ |⟨c,G,rfl,hw,b1,hcw,hcE,VW⟩)
 ·have eG:=jh (fK.out.trans o2 sj);clear o2 hb c0 c1 c2 c3;go_wp2_with fail;refine(HWk w2).out.mono ?_;rintro e w3 ⟨rfl,o3⟩;have dh:=jh (eG.out.trans o3 sj);clear o3;go_wp2;go_ret;exact⟨rfl,dh.out⟩
 have HB1:=jh b1;have HW:=jh hw;have HC:=jh (And.intro hcw (And.intro hcE VW));have hr2:=HR1.out.off b1.off sj;have hSm:=λX=>jh (KV (w:=X) W E V D sa n cap hm);have d0:w2.cell? ⟨cb,0,none⟩=some (.int .i64 W):=hr2.c 0;have d1:w2.cell? ⟨cb,1,none⟩=some (.int .i64 E):=hr2.c 1;have d2:w2.cell? ⟨cb,2,none⟩=some (.int .i64 V):=hr2.c 2;have d3:w2.cell? ⟨cb,3,none⟩=some (.int .i64 D):=hr2.c 3;clear b1 hw hcw hcE VW hr2 c0 c1 c2 c3;go_wp2_with fail;refine(hSm w2).out.mono ?_;rintro e w3 ⟨rfl,o3⟩;have dh:=jh o3;clear o3 d0 d1 d2 d3 hSm;obtain⟨sm,hsm⟩:=nE ((decide (V≤12)&&decide (E≤30)&&decide ((n:Int)≤60)));have Nr:=jh hsm
 have Nv:=jh (show(∀j∈G.bl c.E,w.heap.size≤j)∧Off [] w w2 from
  ⟨λj hj=>(HB1.out.fQ j hj).elim (λe=>by simp at e) λe=>oC fK.out.size,fK.out.trans HB1.out.off sj⟩)
 rw[hsm];clear hsm
 cases sm with
 |false=>
  go_wp2_with fail;refine(HWk w3).out.mono ?_;rintro e w4 ⟨rfl,o4⟩;have jw:=jh ((Nv.out.2.trans dh.out sj).trans o4 sj);clear o4;go_wp2;go_ret;exact⟨rfl,jw.out⟩
 |true=>
  have hlim:=Nr.out;simp only[Bool.and_eq_true,decide_eq_true_eq] at hlim;obtain⟨⟨Rn,adK⟩,ahT⟩:=hlim;have VW:c.V≤12:=oC HC.out.2.2;have hcE:c.E≤30:=oC HC.out.2.1
  by_cases huv:u=v
  ·subst huv;have q1:(u==u)=true:=sj;have q2:decide (u=u)=true:=sj;clear Nr Rn adK VW hcE;go_wp2_with fail;refine(HWk w3).out.mono ?_;rintro e w4 ⟨rfl,o4⟩;have jw:=jh ((Nv.out.2.trans dh.out sj).trans o4 sj);clear o4;go_wp2;go_ret;exact⟨rfl,jw.out⟩
  have q1:(u==v)=false:=by simpa using huv
  have q2:decide (u=v)=false:=dF huv;have EY:=jh huv;have J8:=jh (HW.out.off dh.out);have HN4:=jh (show(∀j∈G.bl c.E,w.heap.size≤j)∧Off [] w w3 from⟨Nv.out.1,Nv.out.2.trans dh.out sj⟩);clear Nr Rn adK dh Nv HB1 HW fK HR1 huv;obtain⟨gb,hgb⟩:=nE G.b;have Fw:=jh hgb;rw[hgb];clear hgb;have hnn:(n:Int)≤60:=ahT;go_wp2_with fail;clear q1 q2
  go_loopw [11] (λi wr=>∃(q:Nat) (G':dX) (nw ex:Int) (ad:Nat) (s:St),q≤n∧i=.int .i64 q∧Hid (qW wr G' c nw ad ex s)∧Hid (ad≤q)∧Hid (G'.b=gb)∧Hid ((∀j∈G'.bl c.E,w.heap.size≤j)∧Off [] w wr)) (λi _=>n-(intOf i).toNat)
  case atStart=>exact⟨0,G,0,0,0,st0,Nat.zero_le _,rfl,J8,jh (Nat.le_refl _),Fw,HN4⟩
  case round=>
   clear J8 Fw HN4;obtain⟨q,G',nw,ex,ad,s,hq,rfl,HWr,HAd,HGb,WT⟩:=hrel
   by_cases hlt:q<n
   ·have hlt2:q<L.length:=by rw[HN.out];exact hlt
    have hr:=HS.out.below (WT.out.2.below (Nat.le_refl _) sj);have i0:=hr.ix q hlt2;obtain⟨c0,c1,c2,c3,c4⟩:=Yo hr hlt2;obtain⟨wu,wv,ww,wt⟩:=HWf.out q hlt2;rw[HN.out] at i0;obtain⟨x,hx⟩:=nE (L.getD q zy);rw[hx] at c0 c1 c2 c3 c4 wu wv ww wt;have hqi:(0:Int)≤q∧(q:Int)<n:=om;have HA:=jh (CX HWr.out x.r.u x.r.v x.r.w x.r.t wu wv ww wt (oC HAd.out));have HT:=jh (zi HWr.out wt);rw[HGb.out] at HA HT;clear hr hlt2 hx wu wv ww wt
    cases hb:x.add with
    |true=>
     rw[hb] at c0;clear hb;go_wp2_with fail;apply mO HA;clear HA HT;rintro e w6 ⟨er,rfl,G6,nw6,ad6,ex6,s6,L8,ah8,hb6,pG,_⟩;have HW6:=jh L8;have HN6:=jh (DK WT.out.1 WT.out.2 pG);have CP:=jh (show G6.b=gb by first |exact hb6 |exact hb6.trans HGb.out);have HA6:=jh (show ad6≤q+1 by have:=HAd.out;omega);clear L8 ah8 hb6 pG c0 c1 c2 c3 c4 i0;go_wp2;go_roundw
     case rel=>exact⟨q+1,G6,nw6,ex6,ad6,s6,om,by go_num,HW6,HA6,CP,HN6⟩
     case measure=>simp only[intOf];omega
    |false=>
     rw[hb] at c0;clear hb;go_wp2_with fail;apply mO HT;clear HA HT;rintro e w6 ⟨er,rfl,G6,nw6,ex6,s6,L8,hb6,pG,_⟩;have HW6:=jh L8;have HN6:=jh (DK WT.out.1 WT.out.2 pG);have CP:=jh (show G6.b=gb by first |exact hb6 |exact hb6.trans HGb.out);have HA6:=jh (show ad≤q+1 by have:=HAd.out;omega);clear L8 hb6 pG c0 c1 c2 c3 c4 i0;go_wp2;go_roundw
     case rel=>exact⟨q+1,G6,nw6,ex6,ad,s6,om,by go_num,HW6,HA6,CP,HN6⟩
     case measure=>simp only[intOf];omega
   ·obtain rfl:q=n:=om;have hwr:=HWr.out;obtain⟨f,hk,ws⟩:=hwr;have HVn:=jh (CY hk ws.cf);rw[HGb.out] at HVn;clear hk ws hlt;go_wp2_with fail;apply mO HVn;clear HVn;rintro e w4 ⟨vb,rfl,o4,hvb,hvf⟩;have hw4:=HWr.out.off o4;have hb0:w.heap.size≤vb:=oC WT.out.2.size
    have h1:∀j∈vb::G'.bl c.E,w.heap.size≤j:=λj hj=>by
     rcases List.mem_cons.1 hj with rfl |hj
     ·exact hb0
     ·exact WT.out.1 j hj
    have hO4:=WT.out.2.trans o4 sj;have HMn:=jh (Oa hvf hw4 VW (HDe.out.off hO4 sj) (λj hj e=>oD (h1 j hj) HDe.out.lt) EY.out);have HB0:=jh h1;have jw:=jh hO4
    have HLw:=jh (show ∀j∈vb::G'.bl c.E,j<w4.heap.size from λj hj=>by
     rcases List.mem_cons.1 hj with rfl |hj
     ·exact hvf.1.lt
     ·exact hw4.lt j hj)
    clear o4 hvb hvf hw4 hb0 h1 hO4 HWr HAd WT;go_wp2_with fail;apply mO HMn;clear HMn;rintro e w5 ⟨hw5,o5,hcase⟩;have HCn:=jh (N9 hw5 u v);rw[HGb.out] at HCn;have nk:=jh (jw.out.trans o5 λj hj=>.inr (HB0.out j hj));have Ns:=jh o5.size;clear o5 hw5
    rcases hcase with⟨hno,rfl⟩ |⟨hu,hv,lo,hi,S,K,ahw,z,g,b,kcb,kfb,pu,pv,θ,ok,hvk,xE,Zd,hpv,Zc,hmr,rfl⟩
    ·go_wp2_with fail;apply mO HCn;rintro e w6 ⟨L8,b6,⟨_,rfl⟩ |⟨hu,hv,_⟩⟩
     ·have nI:=jh (nk.out.trans b6.off λj hj=>.inr (HB0.out j (List.mem_cons_of_mem _ hj)));clear L8 b6 HCn;go_wp2_with fail;refine(HWk w6).out.mono ?_;rintro e w7 ⟨rfl,o7⟩;have Cc:=jh (nI.out.trans o7 sj);clear o7;go_wp2;go_ret;exact⟨rfl,Cc.out⟩
     ·exact absurd ⟨hu,hv⟩ hno
    have hmo:=hvk.Jh.ahu xE hpv hmr;rw[Zd,Zc] at hmo;have hkp:=hvk.kp;have ac0:ok=true↔cZ (RL (s.U.map s.rc)) u v:=hmo.trans ⟨λk=>k.mono λa b ⟨r,hr,e⟩=>⟨r,by obtain⟨y,hy,rfl⟩:=List.mem_map.1 hr;exact List.mem_map.2 ⟨y,hkp.mem_iff.1 hy,rfl⟩,e⟩,λk=>k.mono λa b ⟨r,hr,e⟩=>⟨r,by obtain⟨y,hy,rfl⟩:=List.mem_map.1 hr;exact List.mem_map.2 ⟨y,hkp.mem_iff.2 hy,rfl⟩,e⟩⟩;have WQ:=jh hvk;have HMr:=jh hmr;have HMo:=jh ac0;have HP:=jh (And.intro xE (And.intro Zd (And.intro hpv Zc)));have HH:=jh (And.intro hu hv);clear hvk hmr hmo ac0 hkp xE Zd hpv Zc hu hv;go_wp2_with fail;apply mO HCn;rintro e w6 ⟨L8,b6,⟨hno,rfl⟩ |⟨_,_,r,hr,rfl⟩⟩
    ·exact absurd HH.out hno
    obtain rfl:r=ok:=Bool.eq_iff_iff.2 (hr.trans HMo.out.symm);have nI:=jh (nk.out.trans b6.off λj hj=>.inr (HB0.out j (List.mem_cons_of_mem _ hj)));have Tm:=jh (WQ.out.off b6.off λj hj=>⟨λe=>WQ.out.Yf (e▸hj),.inl (WQ.out.JJ j hj)⟩);have HW6:=jh L8;have HS6:=jh (Nat.le_trans Ns.out b6.off.size);clear hr HMo L8 b6 HCn WQ nk Ns
    cases r with
    |false=>
     obtain rfl:θ=0:=by
      rcases HMr.out with⟨e,_⟩ |⟨_,e,_⟩
      ·cases e
      ·exact e
     clear HMr Tm;go_wp2_with fail;refine(HWk w6).out.mono ?_;rintro e w7 ⟨rfl,o7⟩;have Cc:=jh (nI.out.trans o7 sj);clear o7;go_wp2;go_ret;exact⟨rfl,Cc.out⟩
    |true=>
     obtain⟨Q7,jm,hjm,hjw⟩:(∀t,gQ (je S s K) t pu=gQ (je S s K) t pv↔θ≤t)∧∃j,j<(je S s K).length∧(aR (je S s K) j).w=θ:=by
      rcases HMr.out with⟨_,e⟩ |⟨e,_⟩
      ·exact e
      ·cases e
     have hwr:=HW6.out;obtain⟨f,hk,ws⟩:=hwr;have HLv:=jh (zl hk);rw[HGb.out] at HLv;have HWS:=jh ws;have HTh:=jh Q7;have HJm:=jh (And.intro hjm hjw);clear hk ws Q7 hjm hjw HMr;go_wp2_with fail;apply mO HLv;clear HLv;rintro e w7 ⟨lv,K0,rfl,hK0,hlv,o7⟩;obtain⟨la,YM,LA,rfl,hlr,hge⟩:=Vm hlv;obtain⟨K1,hK1⟩:=nE K0.length
     have aiq:K0.length≤100:=by
      have h1:=bG (l:=K0) (r:=List.range c.E) (hK0.nodup_iff.2 HWS.out.wn.st.und) λx hx=>List.mem_range.2 (HWS.out.wn.st.ult x (hK0.mem_iff.1 hx));rw[List.length_range] at h1;omega
     have HEx:=jh (YJ Tm.out.Jh (K0:=K0) (λx=>Tm.out.kp.mem_iff.trans hK0.mem_iff.symm) HJm.out.1);rw[HJm.out.2,hK1] at HEx;have HLR:=jh (And.intro hlr hge);have HKl:=jh hK1;have HW7:=jh (HW6.out.off o7);have aeD:=jh (Tm.out.off o7 sj);have Cc:=jh (nI.out.trans o7 sj);have qp:=jh (show ∀j∈vb::G'.bl c.E,j<w6.heap.size from λj hj=>Nat.lt_of_lt_of_le (HLw.out j hj) HS6.out);have HS7:=jh o7.size;rw[hK1] at aiq⊢;clear hK0 hlv hlr hge hK1 o7 HW6 Tm nI HLw HS6 jw;have hKi:(K1:Int)≤100:=om;go_wp2
     go_loopw [19,20] (λfv iv wi=>∃(q:Nat) (fb:Bool),q≤K1∧iv=.int .i64 q∧fv=.bool fb∧Hid (fb=true↔∃i,i<q∧lwt s K0 i=θ)∧Hid (qW wi G' c nw ad ex s)∧Hid (oz wi G' c vb (qA ad ex) s lo hi S K ahw z g b kcb kfb)∧Hid (∀j,w6.heap.size≤j→j<w7.heap.size→wi.heap[j]?=w7.heap[j]?)∧Hid (w7.heap.size≤wi.heap.size)∧Hid (Off [] w wi)) (λ_ iv _=>K1-(intOf iv).toNat)
     case atStart=>exact⟨0,false,Nat.zero_le _,rfl,rfl,jh ⟨λe=>(by cases e),λ⟨i,h,_⟩=>absurd h (Nat.not_lt_zero _)⟩,HW7,aeD,jh λ_ _ _=>rfl,jh (Nat.le_refl _),Cc⟩
     case round=>
      clear HW7 aeD Cc;obtain⟨q,fb,hq,rfl,rfl,tY,HWi,HVi,HGi,HZi,HOi⟩:=hrel
      by_cases hlt:q<K1
      ·have hlt2:q<K0.length:=by rw[HKl.out];exact hlt
       obtain⟨x,hx⟩:=nE (K0.getD q 0);obtain⟨y,hy⟩:=nE ((s.rc x).w)
       have hly:lwt s K0 q=y:=by unfold lwt;rw[hx,hy]
       have HRd:=jh (fun(W:World) (h:∀j,w6.heap.size≤j→j<w7.heap.size→W.heap[j]?=w7.heap[j]?)=>(show(∀w',(Instr.indexAt 45 (.slice la K1 YM) (.int .i64 q)).run Tryz.prog w'=.ok (.pointer (some (LA q))) w')∧W.cell? ⟨(LA q).block,(LA q).off+4,none⟩=some (.int .i64 y) from by
        have hr:=HLR.out.1.far (w':=W) (λi hi=>h _ (HLR.out.2 i hi) (HLR.out.1.lt i hi));refine⟨by have:=hr.ix q hlt2;rwa [HKl.out] at this,?_⟩;have:=hr.cell q hlt2 4 om;unfold yE kY at this;rw[hx] at this
        rw[←hy];exact this))
       obtain⟨i0,k4⟩:=HRd.out _ HGi.out;have hCu:=jh (II HVi.out HWi.out VW u y);have HLy:=jh hly;have hqi:(0:Int)≤q∧(q:Int)<K1:=om;clear hx hy hly;go_wp2_with fail;apply mO hCu;clear hCu k4;rintro e w8 ⟨hw8,o8,⟨hno,_⟩ |⟨_,p2,Y9,hp2,acV,rfl⟩⟩
       ·exact absurd HH.out.1 hno
       have hup:=Y9.Jh.up;obtain rfl:p2=pu:=jY hup hp2 HP.out.1 (acV.trans HP.out.2.1.symm);obtain⟨a1,ha1⟩:=nE (aQ S (gQ (je S s K) y p2));obtain⟨s1,hs1⟩:=nE (dU S.length (gQ (je S s K) y) p2)
       have hgr:yV S (je S s K) y p2=#[.int .u64 a1,.int .i64 s1]:=by unfold yV;rw[ha1,hs1]
       rw[hgr];obtain⟨nb,hnb⟩:=nE w8.heap.size;obtain⟨w9,Y8⟩:∃X,w8.alloc (.cells #[.int .u64 a1,.int .i64 s1] 48)=X:=⟨_,rfl⟩
       have o9:Off [] w8 w9:=by rw[←Y8];exact(Off.refl _ _).alloc _
       have r9:Row w9 nb 2 (λi=>(#[Value.int .u64 a1,.int .i64 s1]:Array Value).getD i undef):=by
        rw[←Y8,←hnb];exact Row.lit _ _ _ (Nat.le_refl _) lC
       have hG9:∀j,w6.heap.size≤j→j<w7.heap.size→w9.heap[j]?=w7.heap[j]?:=λj h1 h2=>by
        have hj1:j<wr.heap.size:=by
         have:=HGi.out j h1 h2;rw[Array.getElem?_eq_getElem h2] at this;exact(Array.getElem?_eq_some_iff.1 this).1
        exact(o9.block j (Nat.lt_of_lt_of_le hj1 o8.size) sj).trans ((o8.block j hj1 λc=>oC (qp.out j c)).trans (HGi.out j h1 h2))
       have ahH:=HZi.out;have HG9:=jh hG9;have HR9:=jh r9;have wD:=jh (hw8.off o9);have HV9:=jh (Y9.off o9 sj);have HZ9:=jh (show w7.heap.size≤w9.heap.size by have:=o8.size;have:=o9.size;omega);have HO9:=jh ((HOi.out.trans o8 λj hj=>.inr (HB0.out j hj)).trans o9 sj);have aos:w6.heap.size≤nb:=oD o8.size HS7.out;obtain⟨_,k4⟩:=HRd.out _ hG9;have hCv:=jh (II HV9.out wD.out VW v y);have HA1:=jh (And.intro ha1 hup);have ajg:=jh Y8;have ajx:=jh hnb;clear hw8 o8 Y9 hp2 acV hgr ha1 hs1 Y8 o9 r9 hG9 hup hnb HGi HVi HWi HOi ahH
       go_upto_region 25 with(fail)
       rw[ajg.out]
       try rw[ajx.out]
       go_wp2_with fail;apply mO hCv;clear hCv k4;rintro e w10 ⟨acR,o10,⟨hno,_⟩ |⟨_,p3,Xt,hp3,acU,rfl⟩⟩
       ·exact absurd HH.out.2 hno
       obtain rfl:p3=pv:=jY HA1.out.2 hp3 HP.out.2.2.1 (acU.trans HP.out.2.2.2.symm);obtain⟨a2,ha2⟩:=nE (aQ S (gQ (je S s K) y p3));obtain⟨s2,hs2⟩:=nE (dU S.length (gQ (je S s K) y) p3)
       have hgr:yV S (je S s K) y p3=#[.int .u64 a2,.int .i64 s2]:=by unfold yV;rw[ha2,hs2]
       rw[hgr];obtain⟨nc,hnc⟩:=nE w10.heap.size;obtain⟨kD,VI⟩:∃X,w10.alloc (.cells #[.int .u64 a2,.int .i64 s2] 48)=X:=⟨_,rfl⟩
       have YF:Off [] w10 kD:=by rw[←VI];exact(Off.refl _ _).alloc _
       have r11:Row kD nc 2 (λi=>(#[Value.int .u64 a2,.int .i64 s2]:Array Value).getD i undef):=by
        rw[←VI,←hnc];exact Row.lit _ _ _ (Nat.le_refl _) lC
       have ZC:∀j,w6.heap.size≤j→j<w7.heap.size→kD.heap[j]?=w7.heap[j]?:=λj h1 h2=>by
        have hj1:j<w9.heap.size:=by
         have:=HG9.out j h1 h2;rw[Array.getElem?_eq_getElem h2] at this;exact(Array.getElem?_eq_some_iff.1 this).1
        exact(YF.block j (Nat.lt_of_lt_of_le hj1 o10.size) sj).trans ((o10.block j hj1 λc=>oC (qp.out j c)).trans (HG9.out j h1 h2))
       have r9':=(HR9.out.off o10 (λc=>oC (qp.out nb c))).off YF sj;have b1:kD.cell? ⟨nb,0,none⟩=some (.int .u64 a1):=r9'.c 0;have b2:kD.cell? ⟨nc,0,none⟩=some (.int .u64 a2):=r11.c 0;obtain⟨_,k4⟩:=HRd.out _ ZC;have afh:=jh ZC;have aeA:=jh (acR.off YF);have aeF:=jh (Xt.off YF sj);have aew:=jh (show w7.heap.size≤kD.heap.size by have:=HZ9.out;have:=o10.size;have:=YF.size;omega);have aeY:=jh ((HO9.out.trans o10 λj hj=>.inr (HB0.out j hj)).trans YF sj);have XT:=jh VI;have aeZ:=jh hnc
       have hEq:a1=a2↔θ≤y:=by
        rw[←HTh.out y,←ha2,←HA1.out.1];exact⟨λe=>jY HA1.out.2 (uE HP.out.1) (uE HP.out.2.2.1) e,λe=>by rw[e]⟩
       have HE:=jh hEq;clear acR o10 Xt hp3 acU hgr ha2 hs2 VI YF r11 ZC hnc hEq r9' HG9 HV9 wD HO9 HR9
       by_cases Q7:θ≤y
       ·obtain rfl:a1=a2:=HE.out.2 Q7;have g1:decide (y≥θ)=true:=dP Q7;have g2:decide (θ≤y)=true:=dP Q7;clear Q7;go_wp2_with fail;rw[XT.out]
        try rw[aeZ.out]
        go_quiet (fail)
        obtain⟨iJ,h12⟩:=nE (kD.drewN nq)
        have vW:Off [] kD iJ:=by rw[←h12];exact(Off.refl _ _).drewN nq
        have Np:=jh (aeA.out.off vW);have Nq:=jh (aeF.out.off vW sj);have Nt:=jh (aeY.out.trans vW sj);have Nn:=jh (Nat.le_trans aew.out vW.size);have E9:=jh (show ∀j,w6.heap.size≤j→j<w7.heap.size→iJ.heap[j]?=w7.heap[j]? by rw[←h12];intro j h1 h2;have:=afh.out j h1 h2;simpa using this);obtain⟨_,k5⟩:=HRd.out _ E9.out;rw[h12];clear b1 b2 k4 g1 g2 h12 vW
        cases fb with
        |true=>
         go_wp2;go_roundw
         case rel=>exact⟨q+1,true,om,by go_num,rfl,jh ⟨λ_=>by obtain⟨i,h1,h2⟩:=tY.out.1 rfl;exact⟨i,om,h2⟩,λ_=>rfl⟩,Np,Nq,E9,Nn,Nt⟩
         case measure=>simp only[intOf];omega
        |false=>
         by_cases hy:y=θ
         ·have HYe:=jh hy
          have m1:(y==θ)=true:=by simp[hy]
          have m2:decide (y=θ)=true:=dP hy;clear hy;go_wp2;go_roundw
          case rel=>exact⟨q+1,true,om,by go_num,rfl,jh ⟨λ_=>⟨q,om,HLy.out.trans HYe.out⟩,λ_=>rfl⟩,Np,Nq,E9,Nn,Nt⟩
          case measure=>simp only[intOf];omega
         ·have HYe:=jh hy
          have m1:(y==θ)=false:=by simp[hy]
          have m2:decide (y=θ)=false:=dF hy;clear hy;go_wp2;go_roundw
          case rel=>exact⟨q+1,false,om,by go_num,rfl,jh ⟨λe=>(by cases e),λ⟨i,h1,h2⟩=>by
           rcases Nat.lt_or_ge i q with h |h
           ·exact tY.out.2 ⟨i,h,h2⟩
           ·obtain rfl:i=q:=om
            exact absurd (HLy.out.symm.trans h2) HYe.out⟩,Np,Nq,E9,Nn,Nt⟩
          case measure=>simp only[intOf];omega
       ·have ha:¬a1=a2:=λe=>Q7 (HE.out.1 e);have g1:decide (y≥θ)=false:=dF Q7;have g2:decide (θ≤y)=false:=dF Q7
        have g3:(a1==a2)=false:=by simpa using ha
        have g4:decide (a1=a2)=false:=dF ha;have HTy:=jh (show ¬y=θ by omega);clear Q7 ha;go_wp2_with fail;rw[XT.out]
        try rw[aeZ.out]
        go_quiet (fail)
        obtain⟨iJ,h12⟩:=nE (kD.drewN nq)
        have vW:Off [] kD iJ:=by rw[←h12];exact(Off.refl _ _).drewN nq
        have Np:=jh (aeA.out.off vW);have Nq:=jh (aeF.out.off vW sj);have Nt:=jh (aeY.out.trans vW sj);have Nn:=jh (Nat.le_trans aew.out vW.size);have E9:=jh (show ∀j,w6.heap.size≤j→j<w7.heap.size→iJ.heap[j]?=w7.heap[j]? by rw[←h12];intro j h1 h2;have:=afh.out j h1 h2;simpa using this);obtain⟨_,k5⟩:=HRd.out _ E9.out;rw[h12];clear b1 b2 k4 g1 g2 g3 g4 h12 vW
        have m1:(y==θ)=false:=by simpa using HTy.out
        have m2:decide (y=θ)=false:=dF HTy.out
        cases fb with
        |true=>
         clear m1 m2;go_wp2;go_roundw
         case rel=>exact⟨q+1,true,om,by go_num,rfl,jh ⟨λ_=>by obtain⟨i,h1,h2⟩:=tY.out.1 rfl;exact⟨i,om,h2⟩,λ_=>rfl⟩,Np,Nq,E9,Nn,Nt⟩
         case measure=>simp only[intOf];omega
        |false=>
         go_wp2;go_roundw
         case rel=>exact⟨q+1,false,om,by go_num,rfl,jh ⟨λe=>(by cases e),λ⟨i,h1,h2⟩=>by
          rcases Nat.lt_or_ge i q with h |h
          ·exact tY.out.2 ⟨i,h,h2⟩
          ·obtain rfl:i=q:=om
           exact absurd (HLy.out.symm.trans h2) HTy.out⟩,Np,Nq,E9,Nn,Nt⟩
         case measure=>simp only[intOf];omega
      ·obtain rfl:q=K1:=om;obtain rfl:fb=true:=tY.out.2 (by obtain⟨i,h1,h2⟩:=HEx.out;exact⟨i,h1,h2⟩);clear HVi HWi HGi tY HZi;go_wp2_with fail;refine(HWk wr).out.mono ?_;rintro e w20 ⟨rfl,o20⟩;have ajv:=jh (HOi.out.trans o20 sj);clear o20;go_wp2;go_ret;exact⟨rfl,ajv.out⟩
theorem Qo (W E V D u v:Int) (hS:SS w w.heap.size (.slice sa L.length cap) L A) (hm:L.length≤9223372036854775807) (hwf:aat L) (hW:dR W) (hT:qw w):
  Calls Tryz.prog 3 #[.agg #[.int .i64 W,.int .i64 E,.int .i64 V,.int .i64 D],.slice sa L.length cap,.int .u64 u,.int .u64 v] w λe w'=>e=.returned (.bool true)∧Below w.heap.size w w':=
 (Vf W E V D u v hS hm hwf hW hT).mono λ_ _ ⟨h1,h2⟩=>⟨h1,h2.below (Nat.le_refl _) sj⟩
end
end Go.Proofs.YtpaeogglppampaaGreatDoor
