/- Lemmas of the proof. Conditions: as each one states. -/
import Derived.Test.YtpaeogglppampaaGreatQv
import Derived.Test.YtpaeogglppampaaGreatQP
import Derived.Test.YtpaeogglppampaaGreatQQ
set_option maxRecDepth 100000
set_option maxHeartbeats 16000000
namespace Go.Proofs.YtpaeogglppampaaGreat
open Go.RowKit
section
open Go.Maps
theorem Tryz.WO:(Tryz.prog.info? 269).map (λi=>(i.zero,i.size,i.bytes))=some (some (.agg #[.int .i64 0,.int .i64 0]),2,16):=by kernel_rfl
theorem Y9:ET 267 269 2 16:=ET.of Tryz.underlying267 Tryz.WO rfl (by decide)
structure qj (w:World) (base mb n k:Nat) (M:Int→Option Value):Prop where
 mp:eG w 3 .i64 mb M
 key:∀x y,M x=some y→0≤x∧x<n
 row:∀x y,M x=some y→∃L xs,L≤k∧w.ownsRow base 269 2 y L xs
 inj:∀x x' y y' g,M x=some y→M x'=some y'→y.ownBlock=some g→y'.ownBlock=some g→x=x'
 lo:mb<base
def Bu:Value:=.slice none 0 0
section
variable {w w' W0:World} {base mb n k:Nat} {M:Int→Option Value}
theorem Gu {v:Value} {L g sz:Nat} {e:TypeId} {xs:List Value} (h:w.ownsRow base e sz v L xs) (hg:v.ownBlock=some g):base≤g:=by
 rcases h.2 with⟨h0,_⟩ |⟨g',cap,cur,e,hb,_⟩
 ·rw[h0] at hg;cases hg
 ·rw[e] at hg
  have:g'=g:=by simpa [Value.ownBlock] using hg
  omega
theorem qj.keep (h:qj w base mb n k M) (o:Off [] w w'):qj w' base mb n k M:=
 ⟨h.mp.keep (o.block _ h.mp.lt sj),h.key,λx y hy=>by
  obtain⟨L,xs,h1,h2⟩:=h.row x y hy
  exact⟨L,xs,h1,aD h2 λg hg=>o.block g (aF h2 hg) sj⟩,h.inj,h.lo⟩
theorem qj.own (h:qj w base mb n k M) (x:Int):∃L xs,L≤k∧w.ownsRow base 269 2 ((M x).getD Bu) L xs:=by
 cases c:M x with
 |none=>exact⟨0,[],Nat.zero_le _,World.ownsRow_nil _ _ _ _⟩
 |some y=>exact h.row x y c
theorem qj.look (h:qj w base mb n k M) (o:Off [] w w') {x:Nat} (hx:x<n) (hn:n≤4096):(Instr.lookup 264 (.map (some mb)) (.int .i64 (x:Nat)) false).run Tryz.prog w'=.ok ((M x).getD Bu) w':=
 (h.keep o).mp.look (z:=Bu) false Tryz.underlying3 Tryz.underlying264 rfl (WalkArith.wf_i64 om)
theorem qj.step (h:qj w base mb n k M) (o:Off [mb] W0 w) (hB:W0.heap.size=base) {x:Nat} (hx:x<n) (hn:n≤4096) {L:Nat} {xs ys:List Value} (hL:L≤k) (hown:w.ownsRow base 269 2 ((M x).getD Bu) L xs)
  (g cq:Nat) (w1:World) (h1:w1.ownsRow base 269 2 (.slice (some ⟨g,0,none⟩) (L+1:Nat) cq) (L+1) ys) (h2:w.grownBy w1 ((M x).getD Bu).ownBlock) (h3:Moved w ((M x).getD Bu) g):
  Off [mb] W0 w1∧∃w2 M',(Instr.mapUpdate 264 (.map (some mb)) (.int .i64 (x:Nat)) (.slice (some ⟨g,0,none⟩) (L+1:Nat) cq)).run Tryz.prog w1=.ok () w2∧Off [mb] W0 w2∧qj w2 base mb n (k+1) M':=by
 have hgl:g<w1.heap.size:=aF h1 rfl;have hgb:base≤g:=Gu h1 rfl;have hlo:∀j,((M x).getD Bu).ownBlock=some j→base≤j:=λj hj=>Gu hown hj;have o1:Off [mb] W0 w1:=⟨h2.os.trans o.os,h2.tape.trans o.tape,h2.output.trans o.output,Nat.le_trans o.size h2.size,λj hj hn=>(h2.block j (Nat.lt_of_lt_of_le hj o.size) λe=>oC (hlo j e.symm)).trans (o.block j hj hn)⟩;have hmb:=h.mp.lt;have mp1:=h.mp.keep (h2.block mb hmb λe=>oD (hlo mb e.symm) h.lo);have hwf:(Lit.int .i64 x).wf=true:=WalkArith.wf_i64 om
 obtain⟨w2,hrun,UE,b2⟩:=mp1.upd (t:=264) Tryz.underlying3 Tryz.underlying264 hwf (K:=(List.range n).map (fun(i:Nat)=>(i:Int))) (λq y hq=>by
  obtain⟨c1,c2⟩:=h.key q y hq
  exact List.mem_map.2 ⟨q.toNat,List.mem_range.2 om,om⟩) (by rw[List.length_map,List.length_range];unfold maxLen;omega) (.slice (some ⟨g,0,none⟩) (L+1:Nat) cq)
 have hgm:g≠mb:=oC h.lo;refine⟨o1,w2,_,hrun,o1.trans b2.off λj hj=>.inl hj,UE,λq y hq=>?_,λq y hq=>?_,λq q' y y' g' hq hq' e e'=>?_,h.lo⟩
 ·unfold fH at hq
  split at hq
  ·rename_i c;omega
  ·exact h.key q y hq
 ·unfold fH at hq
  split at hq
  ·obtain rfl:=Option.some.inj hq
   exact⟨L+1,ys,om,aD h1 λj hj=>b2.off.block j (aF h1 hj) (by
    have:g=j:=by simpa [Value.ownBlock] using hj
    simp;omega)⟩
  ·rename_i c;obtain⟨L',xs',k1,k2⟩:=h.row q y hq;refine⟨L',xs',om,aD k2 λj hj=>?_⟩;have k3:=aF k2 hj;have k4:=Gu k2 hj
   have k5:w1.heap[j]?=w.heap[j]?:=h2.block j k3 λe=>by
    cases hx:M x with
    |none=>rw[hx] at e;cases e
    |some y2=>rw[hx] at e;exact c (h.inj q x y y2 j hq hx hj e.symm)
   exact(b2.off.block j (Nat.lt_of_lt_of_le k3 h2.size) (by have:=h.lo;simp;omega)).trans k5
 ·have far:∀q y,M q=some y→q≠x→y.ownBlock≠some g:=λq y hq c e=>by
   rcases h3 with h3 |h3
   ·cases hx:M x with
    |none=>rw[hx] at h3;cases h3
    |some y2=>rw[hx] at h3;exact c (h.inj q x y y2 g hq hx e h3)
   ·obtain⟨L',xs',k1,k2⟩:=h.row q y hq;have:=aF k2 e;omega
  have own:(Value.slice (some ⟨g,0,none⟩) (L+1:Nat) cq).ownBlock=some g:=rfl;unfold fH at hq hq'
  split at hq<;>split at hq'
  ·omega
  ·rename_i c c';obtain rfl:=Option.some.inj hq;rw[own] at e;obtain rfl:=Option.some.inj e;exact absurd e' (far q' y' hq' c')
  ·rename_i c c';obtain rfl:=Option.some.inj hq';rw[own] at e';obtain rfl:=Option.some.inj e';exact absurd e (far q y hq c)
  ·exact h.inj q q' y y' g' hq hq' e e'
end
def mxV (n z:Nat) (b:fB) (tb:Nat) (v:Value) (mb:Nat):Array Value:=#[.pointer (some ⟨tb,0,none⟩),.int .i64 (n:Nat),.slice (some ⟨b.l,0,none⟩) z z,.slice (some ⟨b.r,0,none⟩) z z,.slice (some ⟨b.p,0,none⟩) z z,.slice (some ⟨b.h,0,none⟩) z z,.slice (some ⟨b.s,0,none⟩) z z,v,.map (some mb)]
def vH (w:World) (B fb n:Nat) (E:List Ed):Prop:=∃(z:Nat) (b:fB) (tb tr:Nat) (o:List Nat) (v:Value) (mb:Nat),
 tX n E∧dO E o∧Row w fb 1 (λi=>(#[Value.pointer (some ⟨tr,0,none⟩)]:Array Value).getD i undef)∧Row w tr 9 (λi=>(mxV n z b tb v mb).getD i undef)∧TabAt w B tb (pT E (aM E o) n)∧fV w B n z b E (aM E o)∧fb<B∧tr<B
theorem vH.below {w w':World} {B fb n:Nat} {E:List Ed} (h:vH w B fb n E) (hb:Below B w w'):vH w' B fb n E:=by
 obtain⟨z,b,tb,tr,o,v,mb,h1,h2,h3,h4,h5,h6,h7,h8⟩:=h;exact⟨z,b,tb,tr,o,v,mb,h1,h2,h3.below hb h7,h4.below hb h8,h5.below hb,h6.below hb,h7,h8⟩
theorem vH.mono {w:World} {B B' fb n:Nat} {E:List Ed} (h:vH w B fb n E) (hB:B≤B'):vH w B' fb n E:=by
 obtain⟨z,b,tb,tr,o,v,mb,h1,h2,h3,h4,h5,h6,h7,h8⟩:=h;exact⟨z,b,tb,tr,o,v,mb,h1,h2,h3,h4,h5.mono hB,h6.mono hB,om,om⟩
def agh (n:Int) (E:List Ed) (w:World) (e:Ending) (w':World):Prop:=
 Below w.heap.size w w'∧((j5 n E≠0∧e=.returned (.tuple #[.pointer none,.int .i64 (j5 n E)]))∨
  (∃k fb:Nat,n=k∧tX k E∧e=.returned (.tuple #[.pointer (some ⟨fb,0,none⟩),.int .i64 0])∧Held w.heap.size w' λW=>vH W w'.heap.size fb k E))
theorem fV.held {lo:Nat} {w:World} {B n z:Nat} {b:fB} {E:List Ed} {f:List Nat} (h:fV w B n z b E f) (h2:lo≤b.l∧lo≤b.r∧lo≤b.p∧lo≤b.h∧lo≤b.s):Held lo w λW=>fV W B n z b E f:=λW hW=>
 ⟨h.fo,h.nZ,h.nQ,h.lo,h.rl.of_block (hW _ h2.1 h.rl.lt),h.rr.of_block (hW _ h2.2.1 h.rr.lt),h.rp.of_block (hW _ h2.2.2.1 h.rp.lt),h.rh.of_block (hW _ h2.2.2.2.1 h.rh.lt),h.rs.of_block (hW _ h2.2.2.2.2 h.rs.lt)⟩
theorem QH (B:Nat) (a:Option Addr) (cap:Nat) (A:Nat→Addr) (n:Int) (E:List Ed) (w:World) (hS:ES w B (.slice a E.length cap) E A) (hB:B≤w.heap.size) (hm:E.length≤9223372036854775807):
  Calls Tryz.prog 118 #[.int .i64 n,.slice a E.length cap] w (agh n E w):=by
 have HM:=jh (qD B a cap A n E w hS hB hm);have HES:=jh hS;clear hS;go_in;go_wp2_with fail;apply mO HM;clear HM;rintro e w1 ⟨b1,⟨he,rfl⟩ |⟨k,o,b,z,rfl,G,ho,rfl,hT,hlo⟩⟩
 ·obtain⟨x,hx⟩:=nE (j5 n E);rw[hx] at he⊢
  have hne:(x !=0)=true:=by simpa using he
  have HE:=jh (And.intro he hx);have HB1:=jh b1;clear he hx b1;unfold iP;go_wp2;go_ret2;exact⟨HB1.out.alloc HB1.out.size _,.inl ⟨by rw[HE.out.2];exact HE.out.1,by rw[HE.out.2];rfl⟩⟩
 ·have hz8:=hT.Le;have uE:=hT.nQ;have hF:=hT.fo;have hE0:=hF.newE om;have g0:=sP G;subst uE;have hb2:Below w1.heap.size w1 (w1.alloc (.cells (jE k (k+(aM E o).length) b) 67)):=(Below.refl _ _).alloc (Nat.le_refl _) _;have UH:aU (w1.alloc (.cells (jE k (k+(aM E o).length) b) 67)) w1.heap.size k (k+(aM E o).length) b:=lW w1 _ _ b _;have Xj:=hT.below hb2;have Yf:=jh (xX B a cap A k E _ (HES.out.below ((b1.trans (hb2.mono b1.size)).mono hB)) (Nat.le_trans hB (b1.trans (hb2.mono b1.size)).size) hm);have hsl:=Xj.sl;obtain⟨z,hz⟩:=nE (k+(aM E o).length);rw[hz] at hb2 UH Xj hsl Yf⊢;have hs2:w1.heap.size<(w1.alloc (.cells (jE k z b) 67)).heap.size:=sj;have HT2:=jh Xj;have HB1:=jh b1;have HB2:=jh hb2;have HSL:=jh hsl;have K6:=jh (And.intro G (And.intro ho (And.intro g0 (And.intro hE0 hlo))));have HTb:=jh UH;have HZ8:=jh hz8;have HZ:=jh hz;unfold jE at Yf HB2 HT2 HTb HSL hs2⊢;clear hz hT hE0 hF hb2 UH Xj b1 G ho hlo hsl g0 hz8;go_wp2_with fail;generalize w1.alloc (.cells #[.int .i64 k,.slice (some ⟨b.l,0,none⟩) z z,.slice (some ⟨b.r,0,none⟩) z z,.slice (some ⟨b.p,0,none⟩) z z,.slice (some ⟨b.h,0,none⟩) z z,.slice (some ⟨b.s,0,none⟩) z z] 67)=w2 at*;apply mO Yf;clear Yf;rintro e w3 ⟨hb3,⟨h9,rfl⟩ |⟨h0,o',v,ho',rfl,hv⟩⟩
  ·exact absurd K6.out.2.2.1 h9
  obtain⟨fa,fc,FA,rfl,hFv⟩:=iy hv;have yY:=hb3.size;have HB3:=jh hb3;have HT3:=jh (HT2.out.below (hb3.mono HB2.out.size));have vN:aU w3 w1.heap.size k z b:=Row.below HTb.out hb3 hs2;have HN:=jh (QF K6.out.2.2.2.1 (Rd.below HSL.out (hb3.mono HB2.out.size)) (Nat.le_trans HB2.out.size yY));rw[jB,HZ.out] at HN;have Zx:=jh (And.intro ho' hFv);have c3:=vN.c3;have agE:=jh vN;clear hb3 vN ho' hFv hv h0 HTb HT2 HSL;go_wp2_with fail;apply mO HN;clear HN;rintro e w4 ⟨tb,rfl,Xi,hb4,hth⟩;have BX:=hb4.size;have ajR:w2.heap.size≤w4.heap.size:=Nat.le_trans yY BX;have afn:Below w1.heap.size w1 w4:=HB2.out.trans ((HB3.out.trans (hb4.mono yY)).mono HB2.out.size);have H9:aU w4 w1.heap.size k z b:=Row.below agE.out hb4 (Nat.lt_of_lt_of_le hs2 yY);have HT4:=jh (HT3.out.below (hb4.mono (Nat.le_trans HB2.out.size yY)));have Yg:=jh (Zx.out.2.below hb4);have acu:=jh hth;have HB4:=jh (HB1.out.trans (afn.mono HB1.out.size));have q0:=H9.c0;have q1:=H9.c1;have q2:=H9.c2;have q3:=H9.c3;have q4:=H9.c4;have q5:=H9.c5
  have hfl:(aM E o').length<9223372036854775807:=by
   have h1:=Cg E o';have h2:=Zx.out.1.len;have h3:=K6.out.1.GL;omega
  clear Xi hb4 hth H9 afn agE HT3
  have hmm:∀w:World,(Instr.makeMap 264 none).run Tryz.prog w=.ok (.map (some w.heap.size)) (w.alloc (.map #[] 0)):=λw=>by kernel_rfl
  go_wp2_with fail;clear q0 q1 q2 q3 q4 q5 hmm;obtain⟨F,hF⟩:=nE (aM E o');obtain⟨mb,hmb⟩:=nE w4.heap.size;obtain⟨W0,hW0⟩:∃W,(w4.alloc (.map #[] 0)).alloc (.cells #[.pointer (some ⟨tb,0,none⟩),.int .i64 k,.slice (some ⟨b.l,0,none⟩) z z,.slice (some ⟨b.r,0,none⟩) z z,.slice (some ⟨b.p,0,none⟩) z z,.slice (some ⟨b.h,0,none⟩) z z,.slice (some ⟨b.s,0,none⟩) z z,.slice fa F.length fc,.map (some mb)] 266)=W:=⟨_,rfl⟩
  have hsz0:W0.heap.size=mb+2:=by rw[←hW0,←hmb];simp
  have A0:qj W0 (mb+2) mb k 0 (λ_=>none):=by
   refine⟨?_,λ_ _ e=>(by cases e),λ_ _ e=>(by cases e),λ_ _ _ _ _ e=>(by cases e),om⟩;rw[←hW0,←hmb];exact(eG.made w4 3 .i64).keep (Below.heap_alloc _ _ _ sj)
  have R0:Row W0 (mb+1) 9 (λi=>(mxV k z b tb (.slice fa F.length fc) mb).getD i undef):=by
   rw[←hW0,show mb+1=(w4.alloc (.map #[] 0)).heap.size by rw[←hmb];simp]
   exact Row.lit _ _ _ sj λi hi=>by
    match i,hi with
    |0,_ |1,_ |2,_ |3,_ |4,_ |5,_ |6,_ |7,_ |8,_=>rfl
    |j+9,h=>omega
  have O0:Below mb w4 W0:=by
   rw[←hW0,←hmb];exact((Below.refl _ _).alloc (Nat.le_refl _) _).alloc sj _
  rw[hF] at Yg hfl⊢;have Yf:=jh hF
  have ajQ:w3.heap.size≤mb:=by rw[←hmb];exact BX
  have aeO:w.heap.size≤mb:=by rw[←hmb];exact HB4.out.size
  have HA0:=jh A0;have yF:=jh R0;have FI:=jh O0;have WY:=jh hmb;rw[hmb]
  have arj:F.length≤16384:=by
   have h1:=Cg E o';have h2:=Zx.out.1.len;have h3:=K6.out.1.GL;rw[hF] at h1;omega
  clear A0 R0 O0 hF hmb BX ajR yY hs2;rw[hW0];clear hW0
  go_loopw [50] (λi wr=>∃q:Nat,q≤F.length∧i=.int .i64 q∧Hid (Off [mb] W0 wr)∧Hid (∃M,qj wr (mb+2) mb k (2*q) M)) (λi _=>F.length-(intOf i).toNat)
  case atStart=>exact⟨0,Nat.zero_le _,rfl,jh (Off.refl _ _),jh ⟨_,HA0.out⟩⟩
  case round=>
   obtain⟨q,hq,rfl,HO,HA⟩:=hrel;have CU:Below mb w4 wr:=FI.out.trans (HO.out.below om sj)
   by_cases hlt:q<F.length
   ·obtain⟨x,hx⟩:=nE (F.getD q 0);have hFr:=Yg.out.below (CU.mono ajQ);have i0:=hFr.ix q hlt
    have c1:wr.cell? (FA q)=some (.int .i64 x):=by
     have:=qJ hFr hlt;rw[hx] at this;exact this
    have hxl:x<E.length:=by
     have h1:x∈F:=by rw[←hx,List.getD_eq_getElem?_getD,List.getElem?_eq_getElem hlt];exact List.getElem_mem _
     rw[←Yf.out] at h1;exact Zx.out.1.mem.1 ((kM E o').mem h1)
    obtain⟨u,v,hu,hv,hun,RG,huv⟩:=K6.out.1.GJ hxl;have hEr:=HES.out.below ((HB4.out.trans (CU.mono aeO)).mono hB);have i1:=hEr.ix x hxl;have c2:=ES.u hEr hxl;have c3:=ES.v hEr hxl;rw[hu] at c2;rw[hv] at c3;have hk4:=K6.out.1.nZ;have hqi:(0:Int)≤q∧(q:Int)<F.length:=om;clear hEr hFr hu hv huv hx;have HS:wr.drew.cell? (A x)=some (.int .i64 u)∧wr.drew.cell? ⟨(A x).block,(A x).off+1,none⟩=some (.int .i64 v):=⟨c2,c3⟩;go_wp2;refine aj (λw'=>w'.cell? (A x)=some (.int .i64 u)∧w'.cell? ⟨(A x).block,(A x).off+1,none⟩=some (.int .i64 v)) (by kernel_rfl) ?_;refine tC 0 ?_;refine tC 1 ?_;refine tC 2 ?_;refine tC 3 ?_;refine tC 4 ?_;refine tC 5 ?_;refine tC 6 ?_;refine tC 7 ?_;refine tC 8 ?_;refine tC 9 ?_;refine tC 10 ?_;refine tC 11 ?_
    try simp only[sD]
    refine dD ⟨rfl,?_⟩;clear HS c1 c2 c3 i0 i1;obtain⟨V1,hV1⟩:=nE wr.drew.drew
    have oV1:Off [mb] W0 V1:=by rw[←hV1];exact HO.out.drew.drew
    have aV1:∃M,qj V1 (mb+2) mb k (2*q) M:=by
     obtain⟨M,h⟩:=HA.out;exact⟨M,h.keep (by rw[←hV1];exact(Off.refl _ _).drew.drew)⟩
    obtain⟨M1,aV1⟩:=aV1;have OV1:=jh oV1;have AV1:=jh aV1;have agz:=jh hV1;have HS:V1.cell? ⟨mb+1,8,none⟩=some (.map (some mb)):=(yF.out.off oV1 sj).c 8;clear HO HA CU oV1 aV1 hV1;go_wp2;refine aj (λw'=>w'.cell? ⟨mb+1,8,none⟩=some (.map (some mb))) (by kernel_rfl) ?_;rw[agz.out];refine tC 0 ?_;refine tC 1 ?_;refine tC 2 ?_;refine tC 3 ?_;refine tC 4 ?_;refine tC 5 ?_;refine tC 6 ?_;refine tC 7 ?_;refine tC 8 ?_;refine tC 9 ?_;refine tC 11 ?_;refine tC 12 ?_;refine tC 13 ?_
    try simp only[sD]
    obtain⟨L1,xs1,hL,hown⟩:=AV1.out.own u;obtain⟨v1,hv⟩:=nE ((M1 u).getD Bu)
    have lk:∀W',Off [] V1 W'→(Instr.lookup 264 (.map (some mb)) (.int .i64 u) false).run Tryz.prog W'=.ok v1 W':=λW' o=>by
     rw[←hv];exact AV1.out.look o hun hk4
    have yJ:∀(g cq:Nat) (eT:World),eT.ownsRow (mb+2) 269 2 (.slice (some ⟨g,0,none⟩) (L1+1:Nat) cq) (L1+1) (xs1++#[Value.int .i64 x,.int .i64 v].toList)→V1.grownBy eT v1.ownBlock→Moved V1 v1 g→
      eT.cell? ⟨mb+1,8,none⟩=some (.map (some mb))∧∃fG M',(Instr.mapUpdate 264 (.map (some mb)) (.int .i64 u) (.slice (some ⟨g,0,none⟩) (L1+1:Nat) cq)).run Tryz.prog eT=.ok () fG∧fG.cell? ⟨mb+1,8,none⟩=some (.map (some mb))∧Off [mb] W0 fG∧qj fG (mb+2) mb k ((2*q)+1) M':=λg cq eT h1 h2 h3=>by
     rw[←hv] at h2 h3;obtain⟨o1,fG,M',hrun,o2,a2⟩:=AV1.out.step OV1.out hsz0 hun hk4 hL hown g cq eT h1 h2 h3;exact⟨(yF.out.off o1 sj).c 8,fG,M',hrun,(yF.out.off o2 sj).c 8,o2,a2⟩
    rw[hv] at hown;have LK:=jh lk;have HOWN:=jh hown;have yJ:=jh yJ;have hln:(L1+1)*16≤140737488355328:=om;have jL:L1+1≤9223372036854775807:=om;have hsz:mb+2≤V1.heap.size:=oC OV1.out.size;have yM:((V1.alloc (.cells #[.int .i64 x,.int .i64 v] 269))).cell? ⟨mb+1,8,none⟩=some (.map (some mb)):=(yF.out.off (OV1.out.alloc _) sj).c 8;clear lk hown hv hL;refine Oh [10,14] ?_;apply tw
    ·intro TL;refine AllReadyH.cons rfl (λK hK=>?_) (AllReadyH.cons rfl (λK hK=>?_) AllReadyH.nil)
     ·have lk:=LK.out V1 (Off.refl _ _);go_simp;refine hK.out _ _ HS (λ_=>?_);clear hK;refine rC 14 λK hK=>?_;go_simp;refine hK.out _ _ yM (λ_=>?_);clear hK;exact TL
     ·have lk:=LK.out (V1.alloc (.cells #[.int .i64 x,.int .i64 v] 269)) ((Off.refl _ _).alloc _);go_simp;refine hK.out _ _ yM (λ_=>?_);clear hK;refine rC 10 λK hK=>?_;go_simp;refine hK.out _ _ yM (λ_=>?_);clear hK;exact wl TL
    ·refine rC 15 λK hK=>?_;refine iR (w0:=V1) rfl Y9 rfl _ _ rfl (mb+2) v1 L1 _ HOWN.out rfl #[.int .i64 x,.int .i64 v] V1.heap.size rfl rfl rfl (by simp[Value.oneCell']) hln jL hsz ?_;intro ga cq eT fE oJ oI;obtain⟨HS,fG,M1',hup,oO,CQ,a12⟩:=yJ.out ga cq eT fE oJ oI;have O12:=jh CQ;have A12:=jh a12;clear fE oJ oI CQ a12;simp only[Act.put,List.setIfInBounds_toArray];refine hK.out _ _ HS (λ_=>?_);clear hK;refine rC 16 λK hK=>?_;go_simp;refine hK.out _ _ oO (λ_=>?_);clear hK;refine dD ⟨rfl,?_⟩;clear HS oO hup yM LK HOWN yJ;obtain⟨V2,hV2⟩:=nE fG.drew;have OV2:=jh (show Off [mb] W0 V2 by rw[←hV2];exact O12.out.drew);have AV2:=jh (show qj V2 (mb+2) mb k (2*q+1) M1' from A12.out.keep (by rw[←hV2];exact(Off.refl _ _).drew));have HS:V2.cell? ⟨mb+1,8,none⟩=some (.map (some mb)):=(yF.out.off OV2.out sj).c 8;have alx:=jh hV2;clear hV2 O12 A12 hln jL hsz OV1 AV1 agz;go_wp2;refine aj (λw'=>w'.cell? ⟨mb+1,8,none⟩=some (.map (some mb))) (by kernel_rfl) ?_;rw[alx.out];refine tC 0 ?_;refine tC 1 ?_;refine tC 2 ?_;refine tC 3 ?_;refine tC 4 ?_;refine tC 5 ?_;refine tC 6 ?_;refine tC 7 ?_;refine tC 8 ?_;refine tC 9 ?_;refine tC 11 ?_;refine tC 12 ?_;refine tC 13 ?_
     try simp only[sD]
     obtain⟨L2,xs2,hL,hown⟩:=AV2.out.own v;obtain⟨v2,hv⟩:=nE ((M1' v).getD Bu)
     have lk:∀W',Off [] V2 W'→(Instr.lookup 264 (.map (some mb)) (.int .i64 v) false).run Tryz.prog W'=.ok v2 W':=λW' o=>by
      rw[←hv];exact AV2.out.look o RG hk4
     have yJ:∀(g cq:Nat) (eT:World),eT.ownsRow (mb+2) 269 2 (.slice (some ⟨g,0,none⟩) (L2+1:Nat) cq) (L2+1) (xs2++#[Value.int .i64 x,.int .i64 u].toList)→V2.grownBy eT v2.ownBlock→Moved V2 v2 g→
       eT.cell? ⟨mb+1,8,none⟩=some (.map (some mb))∧∃fG M',(Instr.mapUpdate 264 (.map (some mb)) (.int .i64 v) (.slice (some ⟨g,0,none⟩) (L2+1:Nat) cq)).run Tryz.prog eT=.ok () fG∧fG.cell? ⟨mb+1,8,none⟩=some (.map (some mb))∧Off [mb] W0 fG∧qj fG (mb+2) mb k ((2*q+1)+1) M':=λg cq eT h1 h2 h3=>by
      rw[←hv] at h2 h3;obtain⟨o1,fG,M',hrun,o2,a2⟩:=AV2.out.step OV2.out hsz0 RG hk4 hL hown g cq eT h1 h2 h3;exact⟨(yF.out.off o1 sj).c 8,fG,M',hrun,(yF.out.off o2 sj).c 8,o2,a2⟩
     rw[hv] at hown;have LK:=jh lk;have HOWN:=jh hown;have yJ:=jh yJ;have hln:(L2+1)*16≤140737488355328:=om;have jL:L2+1≤9223372036854775807:=om;have hsz:mb+2≤V2.heap.size:=oC OV2.out.size;have yM:((V2.alloc (.cells #[.int .i64 x,.int .i64 u] 269))).cell? ⟨mb+1,8,none⟩=some (.map (some mb)):=(yF.out.off (OV2.out.alloc _) sj).c 8;clear lk hown hv hL;refine Oh [10,14] ?_;apply tw
     ·intro TL;refine AllReadyH.cons rfl (λK hK=>?_) (AllReadyH.cons rfl (λK hK=>?_) AllReadyH.nil)
      ·have lk:=LK.out V2 (Off.refl _ _);go_simp;refine hK.out _ _ HS (λ_=>?_);clear hK;refine rC 14 λK hK=>?_;go_simp;refine hK.out _ _ yM (λ_=>?_);clear hK;exact TL
      ·have lk:=LK.out (V2.alloc (.cells #[.int .i64 x,.int .i64 u] 269)) ((Off.refl _ _).alloc _);go_simp;refine hK.out _ _ yM (λ_=>?_);clear hK;refine rC 10 λK hK=>?_;go_simp;refine hK.out _ _ yM (λ_=>?_);clear hK;exact wl TL
     ·refine rC 15 λK hK=>?_;refine iR (w0:=V2) rfl Y9 rfl _ _ rfl (mb+2) v2 L2 _ HOWN.out rfl #[.int .i64 x,.int .i64 u] V2.heap.size rfl rfl rfl (by simp[Value.oneCell']) hln jL hsz ?_;intro ga cq eT fE oJ oI;obtain⟨HS,fG,M2',hup,oO,CQ,a12⟩:=yJ.out ga cq eT fE oJ oI;have O12:=jh CQ;have A12:=jh a12;clear fE oJ oI CQ a12;simp only[Act.put,List.setIfInBounds_toArray];refine hK.out _ _ HS (λ_=>?_);clear hK;refine rC 16 λK hK=>?_;go_simp;refine hK.out _ _ oO (λ_=>?_);clear hK;refine dD ⟨rfl,?_⟩;clear HS oO hup yM LK HOWN yJ;go_wp2;go_roundw
      case rel=>exact⟨q+1,om,by go_num,O12,jh ⟨_,by have:=A12.out;rwa [show 2*q+1+1=2*(q+1) by omega] at this⟩⟩
      case measure=>simp only[intOf];omega
   ·have hqe:q=F.length:=om;subst hqe;have Yj:=jh (HB4.out.trans (CU.mono aeO));have HBE:=jh CU;clear CU;go_wp2;go_ret2;have hs5:=HO.out.size;have WZ:=HB1.out.size;have G8:=HB2.out.size;have aqH:=HB3.out.size;have hb6:Below wr.heap.size wr (wr.alloc (.cells #[.pointer (some ⟨mb+1,0,none⟩)] 271)):=(Below.refl _ _).alloc (Nat.le_refl _) _
    have hfr:Row (wr.alloc (.cells #[.pointer (some ⟨mb+1,0,none⟩)] 271)) wr.heap.size 1 (λi=>(#[Value.pointer (some ⟨mb+1,0,none⟩)]:Array Value).getD i undef):=Row.lit _ _ _ sj λi hi=>by
     match i,hi with
     |0,_=>rfl
     |j+1,h=>omega
    have htr:=(yF.out.off HO.out sj).below hb6 om;have hs6:(wr.alloc (.cells #[.pointer (some ⟨mb+1,0,none⟩)] 271)).heap.size=wr.heap.size+1:=sj;have hbw:Below mb w4 (wr.alloc (.cells #[.pointer (some ⟨mb+1,0,none⟩)] 271)):=HBE.out.trans (hb6.mono om);refine⟨Yj.out.trans (hb6.mono om),.inr ⟨k,_,rfl,K6.out.1,rfl,λW hW=>?_⟩⟩;have ji:∀j,w.heap.size≤j→j<w4.heap.size→W.heap[j]?=w4.heap[j]?:=λj h1 h2=>(hW j h1 (oC WY.out)).trans (hbw.block j (oC WY.out))
    exact⟨z,b,tb,mb+1,o,_,mb,K6.out.1,K6.out.2.1,hfr.of_block (hW _ om om),htr.of_block (hW _ om om),
     (acu.out W λj h1 h2=>ji j om h2).mono (oC WY.out),((HT4.out.held K6.out.2.2.2.2) W ji).mono om,om,om⟩
end
section
open Go.Shelf Go.Maps Go.Sort
theorem Tryz.aeG:(Tryz.prog.info? 89).map (λi=>(i.zero,i.size,i.bytes))=some (some (.agg #[.int .i64 0,.int .i64 0]),2,16):=by kernel_rfl
theorem etG:ET 94 89 2 16:=ET.of Tryz.underlying94 Tryz.aeG rfl (by decide)
theorem ZM (m:Nat):AnyZI.SortsIn Tryz.prog Tryz.sortedA_ren Fence.wide m:=
 ⟨λblk off cap ss W hH hblk hsz=>callsIn_wide.2 (AnyM.slices_Sort_int Tryz.sortA blk off cap ss W hH hblk hsz),
 λp cap W=>callsIn_wide.2 (AnyM.slices_Sort_int_none Tryz.sortA p cap W)⟩
theorem ML (mb:Option Nat) (W:World):Calls Tryz.prog 75 #[.map mb] W λe w'=>e=.returned (.func (.func 126) #[] #[.pointer (some ⟨W.heap.size,0,none⟩)])∧W.alloc (.cells #[.map mb] 157)=w':=
 (callsIn_wide.1 (AnyZI.keys_in Tryz.keysA Fence.wide 7 trivial rfl mb W)).mono λ_ _ h=>⟨h.1,h.2.symm⟩
theorem Dz (mb N:Nat) (D:DataW Unit) (W:World) (hown:uR W mb N D) (hN:Maps.size D≤100000):
  Calls Tryz.prog 74 #[.func (.func 126) #[] #[.pointer (some ⟨W.heap.size,0,none⟩)]] (W.alloc (.cells #[.map (some mb)] 157)) λe w'=>∃(v:Value) (ss:List Int),e=.returned v∧ss.Perm (intKeys D)∧
   w'.ownsRow (W.heap.size+1) 3 1 v ss.length ((ss.mergeSort (λx y=>decide (x≤y))).map (Value.int .i64))∧Below (W.heap.size+1) (W.alloc (.cells #[.map (some mb)] 157)) w':=by
 have hseq:SeqGives Fence.wide 4 Tryz.prog 126 #[.pointer (some ⟨W.heap.size,0,none⟩)] encZ (λss=>ss.Perm (intKeys D)) (Maps.size D) (W.alloc (.cells #[.map (some mb)] 157)):=
  AnyZI.keys_gives (ρ:=Tryz.keysA_ren) { Tryz.keysA with } Fence.wide _ trivial rfl om W.heap.size mb _ _ _ sj sj (hown.alloc _)
 have cS:=AnyZI.sorted_in Tryz.sortedA Fence.wide 7 trivial trivial trivial trivial rfl om (ZM _) (enters_of Tryz.func125 (by kernel_rfl) rfl) 126 #[.pointer (some ⟨W.heap.size,0,none⟩)] trivial (enters_of Tryz.func126 (by kernel_rfl) rfl) _ _ (by unfold maxLen;omega) om _ hseq;change CallsIn _ _ Tryz.prog 74 _ _ _ at cS;refine(callsIn_wide.1 cS).mono ?_;rintro e w' ⟨v,ss,rfl,hS,hrow,-,hb⟩;rw[World.size_alloc] at hrow hb;exact⟨v,ss,rfl,hS,hrow,hb⟩
def XW (n:Nat) (f:Nat→Nat) (w:World) (e:Ending) (w':World):Prop:=∃v,e=.returned v∧IU w.heap.size v n f w'∧Below w.heap.size w w'
def gpC (n:Nat) (f:Nat→Nat) (l:List Nat) (i j:Nat):Value:=if j=0 then .int .i64 (l.getD i 0:Nat) else .int .i64 (bO n f (l.getD i 0):Nat)
theorem Sw (n:Nat) (f:Nat→Nat) (l:List Nat) (k:Nat):flat (gpC n f l) (k+1) 2=flat (gpC n f l) k 2++#[Value.int .i64 (l.getD k 0:Nat),.int .i64 (bO n f (l.getD k 0):Nat)].toList:=by
 rw[fM];rfl
theorem Qw {w:World} {base:Nat} {v:Value} {l:List Nat} (h:fZ base v l w):∃a cap A,v=.slice a l.length cap∧Rd 64 1 w w.heap.size (.slice a l.length cap) l.length (nums .i64 (aH l)) A∧∀i<l.length,base≤(A i).block:=by
 rcases h.2 with⟨h0,h1⟩ |⟨g,cap,cur,e1,hb,h3,_⟩
 ·refine⟨none,0,λ_=>⟨0,0,none⟩,by rw[h0,h1],?_,λi hi=>om⟩;rw[h1];exact Rd.nil _
 ·subst e1
  have hr:Row w g l.length (aX λi=>((l.getD i 0:Nat):Int)):=(Row.owned h).congr λi hi=>by
   unfold aX aH;simp[List.getD,hi]
  refine⟨some ⟨g,0,none⟩,cap,_,rfl,(Bb hr).congr λi hi j hj=>?_,λi hi=>?_⟩
  ·unfold nums;rw[iV]
  ·rw[add_block];exact hb
theorem Rk {f:Nat→Nat} {n k:Nat} (h:k<(nL f n).length):(nL f n).getD k 0<n∧f ((nL f n).getD k 0)=(nL f n).getD k 0:=by
 have h1:(nL f n).getD k 0∈nL f n:=by
  rw[List.getD_eq_getElem?_getD,List.getElem?_eq_getElem h];exact List.getElem_mem _
 unfold nL at h1;have h2:=List.mem_filter.1 h1;exact⟨List.mem_range.1 h2.1,of_decide_eq_true h2.2⟩
theorem Rj (f:Nat→Nat) (n:Nat):(nL f n).length≤n:=by
 have:=List.length_filter_le (λj=>decide (f j=j)) (List.range n);rwa [List.length_range] at this
def Uw (n:Nat) (f:Nat→Nat) (w:World) (e:Ending) (w':World):Prop:=∃v,e=.returned v∧w'.ownsRow w.heap.size 89 2 v (nL f n).length (flat (gpC n f (nL f n)) (nL f n).length 2)∧Below w.heap.size w w'
theorem XO (vv:Value) (n:Nat) (f:Nat→Nat) (θ:Int) (w:World) (hn:n≤4096) (hf:∀x<n,f x<n) (K:dR f)
  (hL:∀w1,Below w.heap.size w w1→Calls Tryz.prog 73 #[vv,.int .i64 θ] w1 (XW n f w1)):
  Calls Tryz.prog 37 #[vv,.int .i64 θ] w (Uw n f w):=by
 have hb0:Below w.heap.size w (w.alloc (.map #[] 0)):=(Below.refl _ _).alloc (Nat.le_refl _) _;have HL:=jh (hL _ hb0);have Ye:=jh (show uR (w.alloc (.map #[] 0)) w.heap.size 0 (.map []) from World.ownsMap_made w Tryz.prog 3 (plainElem (H:=Unit) Tryz.prog 3));have HB0:=jh hb0;have Hf:=jh hf;have HK:=jh K;have hmm:=@run_makeMap Tryz.prog;clear hL hb0 hf K;go_in;go_wp2_with fail;have hs0:(w.alloc (.map #[] 0)).heap.size=w.heap.size+1:=sj;have Hs0:=jh hs0;clear hs0 hmm;generalize w.alloc (.map #[] 0)=wa at*;apply mO HL;clear HL;rintro e w1 ⟨v,rfl,hv,hb1⟩;obtain⟨la,lc,LA,rfl,hR⟩:=hv.rd;have hmw:w.heap.size<wa.heap.size:=oC Hs0.out;have FJ:=jh (show ∃D,uR w1 w.heap.size 0 D∧uU D (aH (jy 0 f)) from⟨_,vZ Ye.out (hb1.block _ hmw),uU.nil⟩);have HR:=jh hR;have HB1:=jh (HB0.out.trans (hb1.mono HB0.out.size));have hs1:w.heap.size<w1.heap.size:=oC hb1.size;clear hv hR hb1 Ye HB0 Hs0 hmw;go_wp2
 go_loopw [16] (λiv wr=>∃k:Nat,k≤n∧iv=.int .i64 k∧Hid (∃D,uR wr w.heap.size k D∧uU D (aH (jy k f)))∧Hid (ace wr w1.heap.size (.slice la n lc) n f LA)∧Hid (Below w.heap.size w wr)∧Hid (w1.heap.size≤wr.heap.size)) (λiv _=>n-(intOf iv).toNat)
 case atStart=>exact⟨0,Nat.zero_le _,rfl,FJ,HR,HB1,jh (Nat.le_refl _)⟩
 case round=>
  clear FJ HR HB1;obtain⟨k,hk,rfl,HM,HR,HB,HSw⟩:=hrel
  by_cases hlt:k<n
  ·obtain⟨D,hown,hD⟩:=HM.out;have hfk:=Hf.out k hlt;have ix:=HR.out.ix k hlt;have ck:=Rn HR.out hlt;have hki:(0:Int)≤k∧(k:Int)<n:=om;have Hl:=jh (show aH (jy (k+1) f)=aH (jy k f)++[((f k:Nat):Int)] by rw[MK,iU])
   have hcnt:(aH (jy k f)).count ((f k:Nat):Int)≤k:=by
    have h1:=List.count_le_length (a:=((f k:Nat):Int)) (l:=aH (jy k f))
    rwa [pJ,sF] at h1
   generalize f k=x at*;have hwf:(Lit.int .i64 x).wf=true:=WalkArith.wf_i64 om;have hlk:=look_eq hown hD.a hwf;obtain⟨c,hc⟩:=nE ((aH (jy k f)).count ((x:Nat):Int));rw[hc] at hcnt;rw[hc] at hlk;obtain⟨w2,hrun,hown1,hgrow1⟩:=hown.update aeB Bw (val:=.int .i64 ((c:Int)+1)) (by unfold maxLen;omega) (keyOf_int_mk Tryz.underlying3 hwf) (plainElem_int Tryz.underlying3 (WalkArith.wf_i64 om));have kC:=jh (show ∃D,uR w2 w.heap.size (k+1) D∧uU D (aH (jy (k+1) f)) from⟨_,hown1,by rw[Hl.out];exact hD.snoc _ (by rw[hc])⟩);have HR2:=jh (HR.out.mapped hown hgrow1);have HB2:=jh (HB.out.grown hgrow1 HB.out.size (λj e=>by cases e;exact Nat.le_refl _));have HS2:=jh (Nat.le_trans HSw.out hgrow1.size);clear hown hD hwf hc hown1 hgrow1 HM HR HB HSw;go_wp2;go_roundw
   case rel=>exact⟨k+1,om,by go_num,kC,HR2,HB2,HS2⟩
   case measure=>simp only[intOf];omega
  ·obtain rfl:n=k:=om;obtain⟨D,hown,hD⟩:=HM.out
   have hsz:Maps.size D≤n:=by
    have:=DF hD.a.tidy hD.a.ints (r:=aH (jy n f)) (λx hx=>(hD.has x).1 hx)
    rwa [pJ,sF] at this
   have hlen:=λty=>hown.len Bw ty;have HN:=jh hsz;have HM:=jh hown;have HD:=jh hD;obtain⟨c,hc⟩:=nE (Maps.size D);rw[hc] at hlen hsz;obtain⟨i,z,hi,hz,h2,h3,h4⟩:=etG.info;obtain⟨w3,hmk,hown3,hgr⟩:=run_make_own (P:=Tryz.prog) wr w1.heap.size 94 89 i z 2 etG.ht hi hz h2 .i64 .i64 c (by rw[h3];omega) (by unfold maxLen;omega) HSw.out;clear hi hz h2 h3 h4 hc hown hD;go_wp2_with fail;refine(ML _ _).mono ?_;rintro e w' ⟨rfl,rfl⟩;have aj0:w.heap.size<wr.heap.size:=oC HSw.out;have yN:=jh (show uR w3 w.heap.size n D from vZ HM.out (hgr.block _ aj0 (λe=>by cases e)));have UZ:=jh (Dz w.heap.size n D w3 yN.out (oC HN.out));have HB3:=jh (HB.out.grown hgr HB.out.size (λj e=>by cases e));have bW:=jh hown3;have hgz:=hgr.size
   have Hgg:=jh (And.intro HSw.out (show wr.heap.size<w3.heap.size from by
    rcases hown3.2 with⟨h0,_⟩ |⟨g',c',cur,e1,_,h3,_⟩
    ·cases h0
    ·cases e1;exact(Array.getElem?_eq_some_iff.1 h3).1))
   clear hlen hmk hgr hown3 HM HB HR hsz;go_wp2_with fail;apply mO UZ;clear UZ;rintro e w5 ⟨v2,ss,rfl,hperm,hrow,hb5⟩;have aaJ:=HD.out.sorted Hf.out HK.out hperm
   have hsl:ss.length=(nL f n).length:=by
    rw[←List.length_mergeSort (le:=λx y=>decide (x≤y)),aaJ,pJ]
   rw[aaJ,hsl] at hrow;have hrow:fZ (w3.heap.size+1) v2 (nL f n) w5:=hrow;obtain⟨a2,c2,A2,rfl,hR2,hA2⟩:=Qw hrow;have xU:Below w3.heap.size w3 w5:=((Below.refl _ _).alloc (Nat.le_refl _) _).trans (hb5.mono (Nat.le_succ _));have HM5:=jh (show uR w5 w.heap.size n D from vZ yN.out (xU.block _ (oC Hgg.out)));have mQ:=jh (ownsRow_below bW.out xU);have Yj:=jh (HB3.out.trans (xU.mono HB3.out.size));have hg5:=Hgg.out;have hs5:=xU.size;have HA5:=jh (show ∀i<(nL f n).length,(A2 i).block≠wr.heap.size∧(A2 i).block<w5.heap.size from λi hi=>⟨oC (hA2 i hi),hR2.lt i hi⟩);have HR5:=jh hR2;have hLn:=Rj f n;have Hf5:=jh (show w1.heap.size≤w5.heap.size∧w.heap.size<w1.heap.size from⟨om,hs1⟩);have HLa:=jh (λk (hk:k<(nL f n).length)=>Rk hk);obtain⟨L,hL⟩:=nE (nL f n);have AF:=jh hL;rw[hL] at hR2 HA5 HR5 hLn HLa⊢;obtain⟨m,hm⟩:=nE L.length;have Hm:=jh hm;rw[hm] at HR5 hLn HA5 HLa⊢;clear hperm hrow hb5 aaJ hsl hR2 hA2 xU hg5 hs5 yN bW HB3 hL hm hgz;go_wp2_with fail;generalize wr.heap.size=g0 at*
   go_loopw [32,8] (λiv gv wr=>∃k g cp:Nat,k≤m∧iv=.int .i64 k∧gv=.slice (some ⟨g,0,none⟩) k cp∧Hid (wr.ownsRow w1.heap.size 89 2 (.slice (some ⟨g,0,none⟩) k cp) k (flat (gpC n f L) k 2))∧Hid (∀i<m,(A2 i).block≠g∧(A2 i).block<wr.heap.size)∧Hid (Rd 64 1 wr w5.heap.size (.slice a2 m c2) m (nums .i64 (aH L)) A2)∧Hid (Below w.heap.size w wr)∧Hid (uR wr w.heap.size n D)∧Hid (w5.heap.size≤wr.heap.size)) (λiv _ _=>m-(intOf iv).toNat)
   case atStart=>exact⟨0,g0,c,Nat.zero_le _,rfl,rfl,mQ,HA5,HR5,Yj,HM5,jh (Nat.le_refl _)⟩
   case round=>
    clear mQ HA5 HR5 Yj HM5;obtain⟨k,g,cp,hk,rfl,rfl,HO,HA,HR,HB,HM,HS⟩:=hrel
    by_cases hlt2:k<m
    ·have hLa:=HLa.out k hlt2;have ix:=HR.out.ix k hlt2;have ck:=qJ HR.out hlt2;have hki:(0:Int)≤k∧(k:Int)<m:=om;have Hsn:=jh (Sw n f L k);obtain⟨x,hx⟩:=nE (L.getD k 0);rw[hx] at hLa ck Hsn;have hwf:(Lit.int .i64 x).wf=true:=WalkArith.wf_i64 om;have hlk:=look_eq HM.out HD.out.a hwf;have hcc:=Xz n f x;rw[hLa.2] at hcc;rw[hcc] at hlk;have hcl:=mK n f x;generalize bO n f x=cl at*;have hxn:=hLa.1;have akd:w1.heap.size≤wr.heap.size:=oD HS.out Hf5.out;clear hLa hx hwf hcc
     go_wp2_with (at_builtin;refine push etG rfl _ _ rfl w1.heap.size _ k _ HO.out rfl #[.int .i64 x,.int .i64 cl] _ rfl rfl rfl (by simp[Value.oneCell']) om om akd ?_;intro g2 cap2 w9 YP hg9 hmv;refine Hid.out ?_)
     have hgb:∀j,(Value.slice (some ⟨g,0,none⟩) k cp).ownBlock=some j→j=g:=λj e=>(Option.some.inj e).symm;have hgl:=HO.out.lt g rfl;have HO9:=jh (show w9.ownsRow w1.heap.size 89 2 (.slice (some ⟨g2,0,none⟩) (k+1:Nat) cap2) (k+1) (flat (gpC n f L) (k+1) 2) by rw[Hsn.out];exact YP);have HR9:=jh (HR.out.grown HS.out hg9 (λi hi e=>(HA.out i hi).1 (hgb _ e)))
     have HA9:=jh (show ∀i<m,(A2 i).block≠g2∧(A2 i).block<w9.heap.size from λi hi=>by
      have h1:=HA.out i hi;have h2:=hg9.size
      rcases hmv with e |e
      ·have:=hgb _ e;omega
      ·omega)
     have HB9:=jh (HB.out.grown hg9 HB.out.size (λj e=>oF (hgb _ e) hgl.1 Hf5.out));have HM9:=jh (show uR w9 w.heap.size n D from vZ HM.out (hg9.block _ (oC Hf5.out) (λe=>oF (hgb _ e.symm) hgl.1 Hf5.out)));have HS9:=jh (Nat.le_trans HS.out hg9.size);clear YP hg9 hmv hgb hgl HO HR HA HB HM HS ix ck hlk;refine jh ?_;go_wp2;go_roundw
     case rel=>exact⟨k+1,g2,cap2,om,by go_num,rfl,HO9,HA9,HR9,HB9,HM9,HS9⟩
     case measure=>simp only[intOf];omega
    ·obtain rfl:m=k:=om;go_wp2;go_ret;have hs:=HB.out.size;have hf5:=Hf5.out;refine⟨_,rfl,?_,HB.out⟩;rw[AF.out,Hm.out];exact zJ HO.out om
end
def Vk (n:Nat) (f:Nat→Nat) (l:List Nat):Nat:=(l.map (bO n f)).sum
theorem DC (n:Nat) (f:Nat→Nat) (l:List Nat) (j:Nat):Vk n f (l++[j])=Vk n f l+bO n f j:=by simp[Vk]
theorem ZO (n:Nat) (f:Nat→Nat) (l:List Nat):Vk n f l≤l.length*n:=by
 induction l using lY with
 |h0=>simp[Vk]
 |h1 l j ih=>
  rw[DC,List.length_append,List.length_singleton,Nat.add_mul,Nat.one_mul];have h:=mK n f j;omega
def rS (n:Nat) (h:Nat→Nat):Nat:=((List.range n).map h).sum
theorem vU (n:Nat) (h:Nat→Nat):rS (n+1) h=rS n h+h n:=by simp[rS,List.range_succ]
theorem Md (p:Nat→Bool) (h:Nat→Nat) (n:Nat):(((List.range n).filter p).map h).sum=rS n λa=>if p a then h a else 0:=by
 induction n with
 |zero=>rfl
 |succ n ih=>
  rw[vU,←ih,List.range_succ,List.filter_append,List.map_append,List.sum_append]
  cases hp:p n<;>simp[hp]
theorem ZY (h:Nat→Nat) (c n:Nat):rS n (λa=>h a+if c=a then 1 else 0)=rS n h+if c<n then 1 else 0:=by
 induction n with
 |zero=>rfl
 |succ n ih=>
  rw[vU,ih,vU]
  by_cases h1:c=n
  ·subst h1;simp;omega
  ·by_cases h2:c<n
   ·rw[if_pos h2,if_neg h1,if_pos om];omega
   ·rw[if_neg h2,if_neg h1,if_neg om];omega
theorem wR {h g:Nat→Nat} {n:Nat} (e:∀a<n,h a=g a):rS n h=rS n g:=by
 unfold rS;rw[List.map_congr_left λa ha=>e a (List.mem_range.1 ha)]
theorem QV (m:Nat) (f:Nat→Nat) (a:Nat):(JK (m+1) f a).length=(JK m f a).length+if f m=a then 1 else 0:=by
 by_cases h:f m=a
 ·rw[V8 h,if_pos h,List.length_append];rfl
 ·rw[aai h,if_neg h];rfl
theorem Wd {f:Nat→Nat} {n:Nat} (hf:∀x<n,f x<n):∀m≤n,rS n (λa=>(JK m f a).length)=m:=by
 intro m
 induction m with
 |zero=>
  intro _;have e:(rS n λa=>(JK 0 f a).length)=rS n λ_=>0:=wR λa _=>rfl;rw[e];clear hf e
  induction n with
  |zero=>rfl
  |succ n ih=>rw[vU,ih (Nat.zero_le _)]
 |succ m ih=>
  intro hm;rw[wR (g:=λa=>(JK m f a).length+if f m=a then 1 else 0) λa _=>QV m f a,ZY,ih om,if_pos (hf m om)]
theorem V9 {n:Nat} {f:Nat→Nat} {a:Nat} (h:f a=a):(JK n f a).length=bO n f a:=by
 unfold JK bO;rw[h]
theorem Xq {p:Nat→Bool} {n j:Nat} (h:j+1<((List.range n).filter p).length):((List.range n).filter p).getD j 0<((List.range n).filter p).getD (j+1) 0:=by
 have h1:((List.range n).filter p).Pairwise (·<·):=List.Pairwise.filter _ List.pairwise_lt_range;rw[List.getD_eq_getElem?_getD,List.getD_eq_getElem?_getD,List.getElem?_eq_getElem h,List.getElem?_eq_getElem om];exact List.pairwise_iff_getElem.1 h1 j (j+1) om h om
theorem ZN {f:Nat→Nat} {n:Nat} (K:dR f):Vk n f (nL f n)=n:=by
 have hf:∀x<n,f x<n:=λx hx=>Nat.lt_of_le_of_lt (K.le x) hx;unfold Vk nL;rw[Md]
 conv=>rhs;rw[←Wd hf n (Nat.le_refl _)]
 apply wR;intro a _
 by_cases h:f a=a
 ·rw[if_pos (dP h),V9 h]
 ·rw[if_neg (by simp[h])]
  symm
  rw[List.length_eq_zero_iff];unfold JK;rw[List.filter_eq_nil_iff];intro x _ c;exact h (by rw[←of_decide_eq_true c];exact K.idem x)
end Go.Proofs.YtpaeogglppampaaGreat
