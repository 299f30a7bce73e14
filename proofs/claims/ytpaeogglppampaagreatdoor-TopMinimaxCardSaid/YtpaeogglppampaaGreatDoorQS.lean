/- Lemmas of the proof. Conditions: as each one states. -/
import Derived.Test.YtpaeogglppampaaGreatDoorQv
import Derived.Test.YtpaeogglppampaaGreatDoorQR
set_option maxRecDepth 100000
set_option maxHeartbeats 16000000
namespace Go.Proofs.YtpaeogglppampaaGreatDoor
open Go.RowKit
section
open Go.Maps
theorem Tryz.VG:(Tryz.prog.info? 252).map (λi=>(i.zero,i.size,i.bytes))=some (some (.agg #[.int .i64 0,.int .i64 0]),2,16):=by kernel_rfl
theorem XF:ET 250 252 2 16:=ET.of Tryz.underlying250 Tryz.VG rfl (by decide)
structure qg (w:World) (base mb n k:Nat) (M:Int→Option Value):Prop where
 mp:eO w 3 .i64 mb M
 key:∀x y,M x=some y→0≤x∧x<n
 row:∀x y,M x=some y→∃L xs,L≤k∧w.ownsRow base 252 2 y L xs
 inj:∀x x' y y' g,M x=some y→M x'=some y'→y.ownBlock=some g→y'.ownBlock=some g→x=x'
 lo:mb<base
def Bb:Value:=.slice none 0 0
section
variable {w w' W0:World} {base mb n k:Nat} {M:Int→Option Value}
theorem FU {v:Value} {L g sz:Nat} {e:TypeId} {xs:List Value} (h:w.ownsRow base e sz v L xs) (hg:v.ownBlock=some g):base≤g:=by
 rcases h.2 with⟨h0,_⟩ |⟨g',cap,cur,e,hb,_⟩
 ·rw[h0] at hg;cases hg
 ·rw[e] at hg
  have:g'=g:=by simpa [Value.ownBlock] using hg
  omega
theorem qg.keep (h:qg w base mb n k M) (o:Off [] w w'):qg w' base mb n k M:=
 ⟨h.mp.keep (o.block _ h.mp.lt sj),h.key,λx y hy=>by
  obtain⟨L,xs,h1,h2⟩:=h.row x y hy
  exact⟨L,xs,h1,aG h2 λg hg=>o.block g (aN h2 hg) sj⟩,h.inj,h.lo⟩
theorem qg.own (h:qg w base mb n k M) (x:Int):∃L xs,L≤k∧w.ownsRow base 252 2 ((M x).getD Bb) L xs:=by
 cases c:M x with
 |none=>exact⟨0,[],Nat.zero_le _,World.ownsRow_nil _ _ _ _⟩
 |some y=>exact h.row x y c
theorem qg.look (h:qg w base mb n k M) (o:Off [] w w') {x:Nat} (hx:x<n) (hn:n≤4096):(Instr.lookup 149 (.map (some mb)) (.int .i64 (x:Nat)) false).run Tryz.prog w'=.ok ((M x).getD Bb) w':=
 (h.keep o).mp.look (z:=Bb) false Tryz.underlying3 Tryz.underlying149 rfl (WalkArith.wf_i64 om)
theorem qg.step (h:qg w base mb n k M) (o:Off [mb] W0 w) (hB:W0.heap.size=base) {x:Nat} (hx:x<n) (hn:n≤4096) {L:Nat} {xs ys:List Value} (hL:L≤k) (hown:w.ownsRow base 252 2 ((M x).getD Bb) L xs)
  (g cq:Nat) (w1:World) (h1:w1.ownsRow base 252 2 (.slice (some ⟨g,0,none⟩) (L+1:Nat) cq) (L+1) ys) (h2:w.grownBy w1 ((M x).getD Bb).ownBlock) (h3:Moved w ((M x).getD Bb) g):
  Off [mb] W0 w1∧∃w2 M',(Instr.mapUpdate 149 (.map (some mb)) (.int .i64 (x:Nat)) (.slice (some ⟨g,0,none⟩) (L+1:Nat) cq)).run Tryz.prog w1=.ok () w2∧Off [mb] W0 w2∧qg w2 base mb n (k+1) M':=by
 have hgl:g<w1.heap.size:=aN h1 rfl;have hgb:base≤g:=FU h1 rfl;have hlo:∀j,((M x).getD Bb).ownBlock=some j→base≤j:=λj hj=>FU hown hj;have o1:Off [mb] W0 w1:=⟨h2.os.trans o.os,h2.tape.trans o.tape,h2.output.trans o.output,Nat.le_trans o.size h2.size,λj hj hn=>(h2.block j (Nat.lt_of_lt_of_le hj o.size) λe=>oC (hlo j e.symm)).trans (o.block j hj hn)⟩;have hmb:=h.mp.lt;have mp1:=h.mp.keep (h2.block mb hmb λe=>oD (hlo mb e.symm) h.lo);have hwf:(Lit.int .i64 x).wf=true:=WalkArith.wf_i64 om
 obtain⟨w2,hrun,TN,b2⟩:=mp1.upd (t:=149) Tryz.underlying3 Tryz.underlying149 hwf (K:=(List.range n).map (fun(i:Nat)=>(i:Int))) (λq y hq=>by
  obtain⟨c1,c2⟩:=h.key q y hq
  exact List.mem_map.2 ⟨q.toNat,List.mem_range.2 om,om⟩) (by rw[List.length_map,List.length_range];unfold maxLen;omega) (.slice (some ⟨g,0,none⟩) (L+1:Nat) cq)
 have hgm:g≠mb:=oC h.lo;refine⟨o1,w2,_,hrun,o1.trans b2.off λj hj=>.inl hj,TN,λq y hq=>?_,λq y hq=>?_,λq q' y y' g' hq hq' e e'=>?_,h.lo⟩
 ·unfold fG at hq
  split at hq
  ·rename_i c;omega
  ·exact h.key q y hq
 ·unfold fG at hq
  split at hq
  ·obtain rfl:=Option.some.inj hq
   exact⟨L+1,ys,om,aG h1 λj hj=>b2.off.block j (aN h1 hj) (by
    have:g=j:=by simpa [Value.ownBlock] using hj
    simp;omega)⟩
  ·rename_i c;obtain⟨L',xs',k1,k2⟩:=h.row q y hq;refine⟨L',xs',om,aG k2 λj hj=>?_⟩;have k3:=aN k2 hj;have k4:=FU k2 hj
   have k5:w1.heap[j]?=w.heap[j]?:=h2.block j k3 λe=>by
    cases hx:M x with
    |none=>rw[hx] at e;cases e
    |some y2=>rw[hx] at e;exact c (h.inj q x y y2 j hq hx hj e.symm)
   exact(b2.off.block j (Nat.lt_of_lt_of_le k3 h2.size) (by have:=h.lo;simp;omega)).trans k5
 ·have far:∀q y,M q=some y→q≠x→y.ownBlock≠some g:=λq y hq c e=>by
   rcases h3 with h3 |h3
   ·cases hx:M x with
    |none=>rw[hx] at h3;cases h3
    |some y2=>rw[hx] at h3;exact c (h.inj q x y y2 g hq hx e h3)
   ·obtain⟨L',xs',k1,k2⟩:=h.row q y hq;have:=aN k2 e;omega
  have own:(Value.slice (some ⟨g,0,none⟩) (L+1:Nat) cq).ownBlock=some g:=rfl;unfold fG at hq hq'
  split at hq<;>split at hq'
  ·omega
  ·rename_i c c';obtain rfl:=Option.some.inj hq;rw[own] at e;obtain rfl:=Option.some.inj e;exact absurd e' (far q' y' hq' c')
  ·rename_i c c';obtain rfl:=Option.some.inj hq';rw[own] at e';obtain rfl:=Option.some.inj e';exact absurd e (far q y hq c)
  ·exact h.inj q q' y y' g' hq hq' e e'
end
def mxV (n z:Nat) (b:fF) (tb:Nat) (v:Value) (mb:Nat):Array Value:=#[.pointer (some ⟨tb,0,none⟩),.int .i64 (n:Nat),.slice (some ⟨b.l,0,none⟩) z z,.slice (some ⟨b.r,0,none⟩) z z,.slice (some ⟨b.p,0,none⟩) z z,.slice (some ⟨b.h,0,none⟩) z z,.slice (some ⟨b.s,0,none⟩) z z,v,.map (some mb)]
def tN (w:World) (B fb n:Nat) (E:List Ed):Prop:=∃(z:Nat) (b:fF) (tb tr:Nat) (o:List Nat) (v:Value) (mb:Nat),
 tZ n E∧bO E o∧Row w fb 1 (λi=>(#[Value.pointer (some ⟨tr,0,none⟩)]:Array Value).getD i undef)∧Row w tr 9 (λi=>(mxV n z b tb v mb).getD i undef)∧TabAt w B tb (pT E (aH E o) n)∧iF w B n z b E (aH E o)∧fb<B∧tr<B
theorem tN.below {w w':World} {B fb n:Nat} {E:List Ed} (h:tN w B fb n E) (hb:Below B w w'):tN w' B fb n E:=by
 obtain⟨z,b,tb,tr,o,v,mb,h1,h2,h3,h4,h5,h6,h7,h8⟩:=h;exact⟨z,b,tb,tr,o,v,mb,h1,h2,h3.below hb h7,h4.below hb h8,h5.below hb,h6.below hb,h7,h8⟩
theorem tN.mono {w:World} {B B' fb n:Nat} {E:List Ed} (h:tN w B fb n E) (hB:B≤B'):tN w B' fb n E:=by
 obtain⟨z,b,tb,tr,o,v,mb,h1,h2,h3,h4,h5,h6,h7,h8⟩:=h;exact⟨z,b,tb,tr,o,v,mb,h1,h2,h3,h4,h5.mono hB,h6.mono hB,om,om⟩
def ael (n:Int) (E:List Ed) (w:World) (e:Ending) (w':World):Prop:=
 Below w.heap.size w w'∧((j5 n E≠0∧e=.returned (.tuple #[.pointer none,.int .i64 (j5 n E)]))∨
  (∃k fb:Nat,n=k∧tZ k E∧e=.returned (.tuple #[.pointer (some ⟨fb,0,none⟩),.int .i64 0])∧Held w.heap.size w' λW=>tN W w'.heap.size fb k E))
theorem iF.held {lo:Nat} {w:World} {B n z:Nat} {b:fF} {E:List Ed} {f:List Nat} (h:iF w B n z b E f) (h2:lo≤b.l∧lo≤b.r∧lo≤b.p∧lo≤b.h∧lo≤b.s):Held lo w λW=>iF W B n z b E f:=λ_ hW=>
 ⟨h.fo,h.qK,h.pU,h.lo,h.rl.of_block (hW _ h2.1 h.rl.lt),h.rr.of_block (hW _ h2.2.1 h.rr.lt),h.rp.of_block (hW _ h2.2.2.1 h.rp.lt),h.rh.of_block (hW _ h2.2.2.2.1 h.rh.lt),h.rs.of_block (hW _ h2.2.2.2.2 h.rs.lt)⟩
theorem Qm (B:Nat) (a:Option Addr) (cap:Nat) (A:Nat→Addr) (n:Int) (E:List Ed) (w:World) (hS:ES w B (.slice a E.length cap) E A) (hB:B≤w.heap.size) (hm:E.length≤9223372036854775807):
  Calls Tryz.prog 111 #[.int .i64 n,.slice a E.length cap] w (ael n E w):=by
 have HM:=jh (qG B a cap A n E w hS hB hm);have HES:=jh hS;clear hS;go_in;go_wp2_with fail;apply mO HM;clear HM;rintro e w1 ⟨b1,⟨he,rfl⟩ |⟨k,o,b,z,rfl,G,ho,rfl,hT,hlo⟩⟩
 ·obtain⟨x,hx⟩:=nE (j5 n E);rw[hx] at he⊢
  have hne:(x !=0)=true:=by simpa using he
  have HE:=jh (And.intro he hx);have HB1:=jh b1;clear he hx b1;unfold iO;go_wp2;go_ret2;exact⟨HB1.out.alloc HB1.out.size _,.inl ⟨by rw[HE.out.2];exact HE.out.1,by rw[HE.out.2];rfl⟩⟩
 ·have hz8:=hT.Um;have yQ:=hT.pU;have hF:=hT.fo;have hE0:=hF.newE om;have g0:=sW G;subst yQ;have hb2:Below w1.heap.size w1 (w1.alloc (.cells (lW k (k+(aH E o).length) b) 74)):=(Below.refl _ _).alloc (Nat.le_refl _) _;have Zq:cO (w1.alloc (.cells (lW k (k+(aH E o).length) b) 74)) w1.heap.size k (k+(aH E o).length) b:=qC w1 _ _ b _;have V5:=hT.below hb2;have WU:=jh (xQ B a cap A k E _ (HES.out.below ((b1.trans (hb2.mono b1.size)).mono hB)) (Nat.le_trans hB (b1.trans (hb2.mono b1.size)).size) hm);have hsl:=V5.sl;obtain⟨z,hz⟩:=nE (k+(aH E o).length);rw[hz] at hb2 Zq V5 hsl WU⊢;have hs2:w1.heap.size<(w1.alloc (.cells (lW k z b) 74)).heap.size:=sj;have HT2:=jh V5;have HB1:=jh b1;have HB2:=jh hb2;have HSL:=jh hsl;have Kj:=jh (And.intro G (And.intro ho (And.intro g0 (And.intro hE0 hlo))));have HTb:=jh Zq;have HZ8:=jh hz8;have HZ:=jh hz;unfold lW at WU HB2 HT2 HTb HSL hs2⊢;clear hz hT hE0 hF hb2 Zq V5 b1 G ho hlo hsl g0 hz8;go_wp2_with fail;generalize w1.alloc (.cells #[.int .i64 k,.slice (some ⟨b.l,0,none⟩) z z,.slice (some ⟨b.r,0,none⟩) z z,.slice (some ⟨b.p,0,none⟩) z z,.slice (some ⟨b.h,0,none⟩) z z,.slice (some ⟨b.s,0,none⟩) z z] 74)=w2 at*;apply mO WU;clear WU;rintro e w3 ⟨hb3,⟨h9,rfl⟩ |⟨h0,o',v,ho',rfl,hv⟩⟩
  ·exact absurd Kj.out.2.2.1 h9
  obtain⟨fa,fc,FA,rfl,hFv⟩:=jf hv;have yR:=hb3.size;have HB3:=jh hb3;have HT3:=jh (HT2.out.below (hb3.mono HB2.out.size));have vM:cO w3 w1.heap.size k z b:=Row.below HTb.out hb3 hs2;have HN:=jh (Qj Kj.out.2.2.2.1 (Rd.below HSL.out (hb3.mono HB2.out.size)) (Nat.le_trans HB2.out.size yR));rw[cK,HZ.out] at HN;have X7:=jh (And.intro ho' hFv);have c3:=vM.c3;have aeH:=jh vM;clear hb3 vM ho' hFv hv h0 HTb HT2 HSL;go_wp2_with fail;apply mO HN;clear HN;rintro e w4 ⟨tb,rfl,VZ,hb4,hth⟩;have Bz:=hb4.size;have ahN:w2.heap.size≤w4.heap.size:=Nat.le_trans yR Bz;have adq:Below w1.heap.size w1 w4:=HB2.out.trans ((HB3.out.trans (hb4.mono yR)).mono HB2.out.size);have GJ:cO w4 w1.heap.size k z b:=Row.below aeH.out hb4 (Nat.lt_of_lt_of_le hs2 yR);have HT4:=jh (HT3.out.below (hb4.mono (Nat.le_trans HB2.out.size yR)));have HF4:=jh (X7.out.2.below hb4);have aaJ:=jh hth;have HB4:=jh (HB1.out.trans (adq.mono HB1.out.size));have q0:=GJ.c0;have q1:=GJ.c1;have q2:=GJ.c2;have q3:=GJ.c3;have q4:=GJ.c4;have q5:=GJ.c5
  have hfl:(aH E o').length<9223372036854775807:=by
   have h1:=BI E o';have h2:=X7.out.1.len;have h3:=Kj.out.1.Gh;omega
  clear VZ hb4 hth GJ adq aeH HT3
  have hmm:∀w:World,(Instr.makeMap 149 none).run Tryz.prog w=.ok (.map (some w.heap.size)) (w.alloc (.map #[] 0)):=λw=>by kernel_rfl
  go_wp2_with fail;clear q0 q1 q2 q3 q4 q5 hmm;obtain⟨F,hF⟩:=nE (aH E o');obtain⟨mb,hmb⟩:=nE w4.heap.size;obtain⟨W0,hW0⟩:∃W,(w4.alloc (.map #[] 0)).alloc (.cells #[.pointer (some ⟨tb,0,none⟩),.int .i64 k,.slice (some ⟨b.l,0,none⟩) z z,.slice (some ⟨b.r,0,none⟩) z z,.slice (some ⟨b.p,0,none⟩) z z,.slice (some ⟨b.h,0,none⟩) z z,.slice (some ⟨b.s,0,none⟩) z z,.slice fa F.length fc,.map (some mb)] 151)=W:=⟨_,rfl⟩
  have hsz0:W0.heap.size=mb+2:=by rw[←hW0,←hmb];simp
  have A0:qg W0 (mb+2) mb k 0 (λ_=>none):=by
   refine⟨?_,λ_ _ e=>(by cases e),λ_ _ e=>(by cases e),λ_ _ _ _ _ e=>(by cases e),om⟩;rw[←hW0,←hmb];exact(eO.made w4 3 .i64).keep (Below.heap_alloc _ _ _ sj)
  have R0:Row W0 (mb+1) 9 (λi=>(mxV k z b tb (.slice fa F.length fc) mb).getD i undef):=by
   rw[←hW0,show mb+1=(w4.alloc (.map #[] 0)).heap.size by rw[←hmb];simp]
   exact Row.lit _ _ _ sj λi hi=>by
    match i,hi with
    |0,_ |1,_ |2,_ |3,_ |4,_ |5,_ |6,_ |7,_ |8,_=>rfl
    |j+9,h=>omega
  have O0:Below mb w4 W0:=by
   rw[←hW0,←hmb];exact((Below.refl _ _).alloc (Nat.le_refl _) _).alloc sj _
  rw[hF] at HF4 hfl⊢;have WU:=jh hF
  have ahM:w3.heap.size≤mb:=by rw[←hmb];exact Bz
  have acT:w.heap.size≤mb:=by rw[←hmb];exact HB4.out.size
  have HA0:=jh A0;have yA:=jh R0;have Kh:=jh O0;have Za:=jh hmb;rw[hmb]
  have aoX:F.length≤16384:=by
   have h1:=BI E o';have h2:=X7.out.1.len;have h3:=Kj.out.1.Gh;rw[hF] at h1;omega
  clear A0 R0 O0 hF hmb Bz ahN yR hs2;rw[hW0];clear hW0
  go_loopw [50] (λi wr=>∃q:Nat,q≤F.length∧i=.int .i64 q∧Hid (Off [mb] W0 wr)∧Hid (∃M,qg wr (mb+2) mb k (2*q) M)) (λi _=>F.length-(intOf i).toNat)
  case atStart=>exact⟨0,Nat.zero_le _,rfl,jh (Off.refl _ _),jh ⟨_,HA0.out⟩⟩
  case round=>
   obtain⟨q,hq,rfl,HO,HA⟩:=hrel;have Cq:Below mb w4 wr:=Kh.out.trans (HO.out.below om sj)
   by_cases hlt:q<F.length
   ·obtain⟨x,hx⟩:=nE (F.getD q 0);have hFr:=HF4.out.below (Cq.mono ahM);have i0:=hFr.ix q hlt
    have c1:wr.cell? (FA q)=some (.int .i64 x):=by
     have:=xB hFr hlt;rw[hx] at this;exact this
    have hxl:x<E.length:=by
     have h1:x∈F:=by rw[←hx,List.getD_eq_getElem?_getD,List.getElem?_eq_getElem hlt];exact List.getElem_mem _
     rw[←WU.out] at h1;exact X7.out.1.mem.1 ((kK E o').mem h1)
    obtain⟨u,v,hu,hv,hun,NJ,huv⟩:=Kj.out.1.Gc hxl;have hEr:=HES.out.below ((HB4.out.trans (Cq.mono acT)).mono hB);have i1:=hEr.ix x hxl;have c2:=ES.u hEr hxl;have c3:=ES.v hEr hxl;rw[hu] at c2;rw[hv] at c3;have hk4:=Kj.out.1.qK;have hqi:(0:Int)≤q∧(q:Int)<F.length:=om;clear hEr hFr hu hv huv hx;have HS:wr.drew.cell? (A x)=some (.int .i64 u)∧wr.drew.cell? ⟨(A x).block,(A x).off+1,none⟩=some (.int .i64 v):=⟨c2,c3⟩;go_wp2;refine aj (λw'=>w'.cell? (A x)=some (.int .i64 u)∧w'.cell? ⟨(A x).block,(A x).off+1,none⟩=some (.int .i64 v)) (by kernel_rfl) ?_;refine tC 0 ?_;refine tC 1 ?_;refine tC 2 ?_;refine tC 3 ?_;refine tC 4 ?_;refine tC 5 ?_;refine tC 6 ?_;refine tC 7 ?_;refine tC 8 ?_;refine tC 9 ?_;refine tC 10 ?_;refine tC 11 ?_
    try simp only[sD]
    refine dD ⟨rfl,?_⟩;clear HS c1 c2 c3 i0 i1;obtain⟨V1,hV1⟩:=nE wr.drew.drew
    have oV1:Off [mb] W0 V1:=by rw[←hV1];exact HO.out.drew.drew
    have aV1:∃M,qg V1 (mb+2) mb k (2*q) M:=by
     obtain⟨M,h⟩:=HA.out;exact⟨M,h.keep (by rw[←hV1];exact(Off.refl _ _).drew.drew)⟩
    obtain⟨M1,aV1⟩:=aV1;have OV1:=jh oV1;have AV1:=jh aV1;have aeB:=jh hV1;have HS:V1.cell? ⟨mb+1,8,none⟩=some (.map (some mb)):=(yA.out.off oV1 sj).c 8;clear HO HA Cq oV1 aV1 hV1;go_wp2;refine aj (λw'=>w'.cell? ⟨mb+1,8,none⟩=some (.map (some mb))) (by kernel_rfl) ?_;rw[aeB.out];refine tC 0 ?_;refine tC 1 ?_;refine tC 2 ?_;refine tC 3 ?_;refine tC 4 ?_;refine tC 5 ?_;refine tC 6 ?_;refine tC 7 ?_;refine tC 8 ?_;refine tC 9 ?_;refine tC 11 ?_;refine tC 12 ?_;refine tC 13 ?_
    try simp only[sD]
    obtain⟨L1,xs1,hL,hown⟩:=AV1.out.own u;obtain⟨v1,hv⟩:=nE ((M1 u).getD Bb)
    have lk:∀W',Off [] V1 W'→(Instr.lookup 149 (.map (some mb)) (.int .i64 u) false).run Tryz.prog W'=.ok v1 W':=λW' o=>by
     rw[←hv];exact AV1.out.look o hun hk4
    have EW:∀(g cq:Nat) (kD:World),kD.ownsRow (mb+2) 252 2 (.slice (some ⟨g,0,none⟩) (L1+1:Nat) cq) (L1+1) (xs1++#[Value.int .i64 x,.int .i64 v].toList)→V1.grownBy kD v1.ownBlock→Moved V1 v1 g→
      kD.cell? ⟨mb+1,8,none⟩=some (.map (some mb))∧∃iJ M',(Instr.mapUpdate 149 (.map (some mb)) (.int .i64 u) (.slice (some ⟨g,0,none⟩) (L1+1:Nat) cq)).run Tryz.prog kD=.ok () iJ∧iJ.cell? ⟨mb+1,8,none⟩=some (.map (some mb))∧Off [mb] W0 iJ∧qg iJ (mb+2) mb k ((2*q)+1) M':=λg cq kD h1 h2 h3=>by
     rw[←hv] at h2 h3;obtain⟨o1,iJ,M',hrun,o2,a2⟩:=AV1.out.step OV1.out hsz0 hun hk4 hL hown g cq kD h1 h2 h3;exact⟨(yA.out.off o1 sj).c 8,iJ,M',hrun,(yA.out.off o2 sj).c 8,o2,a2⟩
    rw[hv] at hown;have LK:=jh lk;have HOWN:=jh hown;have EW:=jh EW;have hln:(L1+1)*16≤140737488355328:=om;have yS:L1+1≤9223372036854775807:=om;have hsz:mb+2≤V1.heap.size:=oC OV1.out.size;have Nr:((V1.alloc (.cells #[.int .i64 x,.int .i64 v] 252))).cell? ⟨mb+1,8,none⟩=some (.map (some mb)):=(yA.out.off (OV1.out.alloc _) sj).c 8;clear lk hown hv hL;refine Py [10,14] ?_;apply tw
    ·intro TL;refine AllReadyH.cons rfl (λK hK=>?_) (AllReadyH.cons rfl (λK hK=>?_) AllReadyH.nil)
     ·have lk:=LK.out V1 (Off.refl _ _);go_simp;refine hK.out _ _ HS (λ_=>?_);clear hK;refine rC 14 λK hK=>?_;go_simp;refine hK.out _ _ Nr (λ_=>?_);clear hK;exact TL
     ·have lk:=LK.out (V1.alloc (.cells #[.int .i64 x,.int .i64 v] 252)) ((Off.refl _ _).alloc _);go_simp;refine hK.out _ _ Nr (λ_=>?_);clear hK;refine rC 10 λK hK=>?_;go_simp;refine hK.out _ _ Nr (λ_=>?_);clear hK;exact wl TL
    ·refine rC 15 λK hK=>?_;refine lX (w0:=V1) rfl XF rfl _ _ rfl (mb+2) v1 L1 _ HOWN.out rfl #[.int .i64 x,.int .i64 v] V1.heap.size rfl rfl rfl (by simp[Value.oneCell']) hln yS hsz ?_;intro ga cq kD j3 xK xI;obtain⟨HS,iJ,M1',hup,yx,vW,a12⟩:=EW.out ga cq kD j3 xK xI;have O12:=jh vW;have A12:=jh a12;clear j3 xK xI vW a12;simp only[Act.put,List.setIfInBounds_toArray];refine hK.out _ _ HS (λ_=>?_);clear hK;refine rC 16 λK hK=>?_;go_simp;refine hK.out _ _ yx (λ_=>?_);clear hK;refine dD ⟨rfl,?_⟩;clear HS yx hup Nr LK HOWN EW;obtain⟨V2,hV2⟩:=nE iJ.drew;have OV2:=jh (show Off [mb] W0 V2 by rw[←hV2];exact O12.out.drew);have AV2:=jh (show qg V2 (mb+2) mb k (2*q+1) M1' from A12.out.keep (by rw[←hV2];exact(Off.refl _ _).drew));have HS:V2.cell? ⟨mb+1,8,none⟩=some (.map (some mb)):=(yA.out.off OV2.out sj).c 8;have aji:=jh hV2;clear hV2 O12 A12 hln yS hsz OV1 AV1 aeB;go_wp2;refine aj (λw'=>w'.cell? ⟨mb+1,8,none⟩=some (.map (some mb))) (by kernel_rfl) ?_;rw[aji.out];refine tC 0 ?_;refine tC 1 ?_;refine tC 2 ?_;refine tC 3 ?_;refine tC 4 ?_;refine tC 5 ?_;refine tC 6 ?_;refine tC 7 ?_;refine tC 8 ?_;refine tC 9 ?_;refine tC 11 ?_;refine tC 12 ?_;refine tC 13 ?_
     try simp only[sD]
     obtain⟨L2,xs2,hL,hown⟩:=AV2.out.own v;obtain⟨v2,hv⟩:=nE ((M1' v).getD Bb)
     have lk:∀W',Off [] V2 W'→(Instr.lookup 149 (.map (some mb)) (.int .i64 v) false).run Tryz.prog W'=.ok v2 W':=λW' o=>by
      rw[←hv];exact AV2.out.look o NJ hk4
     have EW:∀(g cq:Nat) (kD:World),kD.ownsRow (mb+2) 252 2 (.slice (some ⟨g,0,none⟩) (L2+1:Nat) cq) (L2+1) (xs2++#[Value.int .i64 x,.int .i64 u].toList)→V2.grownBy kD v2.ownBlock→Moved V2 v2 g→
       kD.cell? ⟨mb+1,8,none⟩=some (.map (some mb))∧∃iJ M',(Instr.mapUpdate 149 (.map (some mb)) (.int .i64 v) (.slice (some ⟨g,0,none⟩) (L2+1:Nat) cq)).run Tryz.prog kD=.ok () iJ∧iJ.cell? ⟨mb+1,8,none⟩=some (.map (some mb))∧Off [mb] W0 iJ∧qg iJ (mb+2) mb k ((2*q+1)+1) M':=λg cq kD h1 h2 h3=>by
      rw[←hv] at h2 h3;obtain⟨o1,iJ,M',hrun,o2,a2⟩:=AV2.out.step OV2.out hsz0 NJ hk4 hL hown g cq kD h1 h2 h3;exact⟨(yA.out.off o1 sj).c 8,iJ,M',hrun,(yA.out.off o2 sj).c 8,o2,a2⟩
     rw[hv] at hown;have LK:=jh lk;have HOWN:=jh hown;have EW:=jh EW;have hln:(L2+1)*16≤140737488355328:=om;have yS:L2+1≤9223372036854775807:=om;have hsz:mb+2≤V2.heap.size:=oC OV2.out.size;have Nr:((V2.alloc (.cells #[.int .i64 x,.int .i64 u] 252))).cell? ⟨mb+1,8,none⟩=some (.map (some mb)):=(yA.out.off (OV2.out.alloc _) sj).c 8;clear lk hown hv hL;refine Py [10,14] ?_;apply tw
     ·intro TL;refine AllReadyH.cons rfl (λK hK=>?_) (AllReadyH.cons rfl (λK hK=>?_) AllReadyH.nil)
      ·have lk:=LK.out V2 (Off.refl _ _);go_simp;refine hK.out _ _ HS (λ_=>?_);clear hK;refine rC 14 λK hK=>?_;go_simp;refine hK.out _ _ Nr (λ_=>?_);clear hK;exact TL
      ·have lk:=LK.out (V2.alloc (.cells #[.int .i64 x,.int .i64 u] 252)) ((Off.refl _ _).alloc _);go_simp;refine hK.out _ _ Nr (λ_=>?_);clear hK;refine rC 10 λK hK=>?_;go_simp;refine hK.out _ _ Nr (λ_=>?_);clear hK;exact wl TL
     ·refine rC 15 λK hK=>?_;refine lX (w0:=V2) rfl XF rfl _ _ rfl (mb+2) v2 L2 _ HOWN.out rfl #[.int .i64 x,.int .i64 u] V2.heap.size rfl rfl rfl (by simp[Value.oneCell']) hln yS hsz ?_;intro ga cq kD j3 xK xI;obtain⟨HS,iJ,M2',hup,yx,vW,a12⟩:=EW.out ga cq kD j3 xK xI;have O12:=jh vW;have A12:=jh a12;clear j3 xK xI vW a12;simp only[Act.put,List.setIfInBounds_toArray];refine hK.out _ _ HS (λ_=>?_);clear hK;refine rC 16 λK hK=>?_;go_simp;refine hK.out _ _ yx (λ_=>?_);clear hK;refine dD ⟨rfl,?_⟩;clear HS yx hup Nr LK HOWN EW;go_wp2;go_roundw
      case rel=>exact⟨q+1,om,by go_num,O12,jh ⟨_,by have:=A12.out;rwa [show 2*q+1+1=2*(q+1) by omega] at this⟩⟩
      case measure=>simp only[intOf];omega
   ·have hqe:q=F.length:=om;subst hqe;have HB5:=jh (HB4.out.trans (Cq.mono acT));have HBE:=jh Cq;clear Cq;go_wp2;go_ret2;have hs5:=HO.out.size;have VN:=HB1.out.size;have Ra:=HB2.out.size;have aon:=HB3.out.size;have hb6:Below wr.heap.size wr (wr.alloc (.cells #[.pointer (some ⟨mb+1,0,none⟩)] 154)):=(Below.refl _ _).alloc (Nat.le_refl _) _
    have hfr:Row (wr.alloc (.cells #[.pointer (some ⟨mb+1,0,none⟩)] 154)) wr.heap.size 1 (λi=>(#[Value.pointer (some ⟨mb+1,0,none⟩)]:Array Value).getD i undef):=Row.lit _ _ _ sj λi hi=>by
     match i,hi with
     |0,_=>rfl
     |j+1,h=>omega
    have htr:=(yA.out.off HO.out sj).below hb6 om;have hs6:(wr.alloc (.cells #[.pointer (some ⟨mb+1,0,none⟩)] 154)).heap.size=wr.heap.size+1:=sj;have hbw:Below mb w4 (wr.alloc (.cells #[.pointer (some ⟨mb+1,0,none⟩)] 154)):=HBE.out.trans (hb6.mono om);refine⟨HB5.out.trans (hb6.mono om),.inr ⟨k,_,rfl,Kj.out.1,rfl,λW hW=>?_⟩⟩;have gT:∀j,w.heap.size≤j→j<w4.heap.size→W.heap[j]?=w4.heap[j]?:=λj h1 h2=>(hW j h1 (oC Za.out)).trans (hbw.block j (oC Za.out))
    exact⟨z,b,tb,mb+1,o,_,mb,Kj.out.1,Kj.out.2.1,hfr.of_block (hW _ om om),htr.of_block (hW _ om om),
     (aaJ.out W λj h1 h2=>gT j om h2).mono (oC Za.out),((HT4.out.held Kj.out.2.2.2.2) W gT).mono om,om,om⟩
end
end Go.Proofs.YtpaeogglppampaaGreatDoor
