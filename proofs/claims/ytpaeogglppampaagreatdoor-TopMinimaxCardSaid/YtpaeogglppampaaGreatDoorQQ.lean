/- Lemmas of the proof. Conditions: as each one states. -/
import Derived.Test.YtpaeogglppampaaGreatDoorQt
import Derived.Test.YtpaeogglppampaaGreatDoorQu
import Derived.Test.YtpaeogglppampaaGreatDoorQP
set_option maxRecDepth 100000
set_option maxHeartbeats 16000000
namespace Go.Proofs.YtpaeogglppampaaGreatDoor
open Go.RowKit
theorem xQ (B:Nat) (a:Option Addr) (cap:Nat) (A:Nat→Addr) (n:Int) (E:List Ed) (w:World) (hS:ES w B (.slice a E.length cap) E A) (hB:B≤w.heap.size) (hm:E.length≤9223372036854775807):
  Calls Tryz.prog 143 #[.int .i64 n,.slice a E.length cap] w (aa4 n E w):=by
 have HN:=jh (Rt B a cap A n E w hS hB hm);have HS:=jh hS;clear hS;go_in;go_wp2_with fail;apply mO HN;clear HN;rintro e w1 ⟨hb1,⟨h0,rfl⟩ |⟨b,k,rfl,G,rfl,-⟩⟩
 ·obtain⟨ee,hee⟩:=nE (j5 n E);have H0:=jh h0;have HE:=jh hee;rw[hee] at h0⊢
  have hz:(ee !=0)=true:=by simpa using h0
  clear h0 hee;go_wp2;go_ret2;exact⟨hb1,.inl ⟨H0.out,by rw[HE.out];rfl⟩⟩
 ·have hkn:=G.qK;have hml:=G.Gh;have HG:=jh G;have HD:=jh (RY k w1 om);have hB1:B≤w1.heap.size:=Nat.le_trans hB hb1.size;clear G;go_wp2_with fail;apply mO HD;rintro e w2 ⟨d,rfl,hD,hb2⟩;have nu:=hb1.trans (hb2.mono hb1.size);have HO:=jh (Le B E a cap A w2 (HS.out.below (nu.mono hB)) (Nat.le_trans hB nu.size) om);have HDS:=jh hD;clear HD hD;go_wp2_with fail;apply mO HO;rintro e w3 ⟨o,ob,ho,rfl,hob,hro,hb3⟩;have Ni:=nu.trans (hb3.mono nu.size);have HOr:=jh ho;have hD3:DS w3 ⟨w1.heap.size,w2.heap.size⟩ d k (bR E (o.take 0)):=HDS.out.below hb3;have hol:o.length=E.length:=ho.len;have HOl:=jh hol;have HRo:=jh hro;have yR:=hb3.size;have Ra:=hb2.size;have VN:=hb1.size;have hdl:=HDS.out.lt;have HRl:=hro.lt;clear HO HDS ho hro hol;go_wp2
  go_loopw [10,35] (λfv i wr=>∃q:Nat,q≤E.length∧i=.int .i64 q∧Hid (iG w3.heap.size fv (aH E (o.take q)) wr)∧Hid (DS wr ⟨w1.heap.size,w2.heap.size⟩ d k (bR E (o.take q)))∧Hid (Row wr ob E.length (λi=>.int .i64 (o.getD i 0:Nat)))∧Below w1.heap.size w1 wr∧w3.heap.size≤wr.heap.size) (λ_ i _=>E.length-(intOf i).toNat)
  case atStart=>exact⟨0,Nat.zero_le _,rfl,jh (World.ownsRow_nil _ _ _ _),jh hD3,HRo,hb2.trans (hb3.mono Ra),Nat.le_refl _⟩
  case round=>
   clear hD3;obtain⟨q,hq,rfl,HF,HD,HR,dO,hsz⟩:=hrel
   by_cases hlt:q<E.length
   ·obtain⟨x,hx⟩:=nE (o.getD q 0)
    have hmem:x∈o:=by rw[←hx,List.getD_eq_getElem?_getD,List.getElem?_eq_getElem (by rw[HOl.out];exact hlt)];exact List.getElem_mem _
    have hxl:x<E.length:=HOr.out.mem.1 hmem;have c1:=HR.out.cell hlt;have hqi:(0:Int)≤q∧(q:Int)<E.length:=om;rw[hx] at c1;obtain⟨u,v,hu,hv,hun,NJ,huv⟩:=HG.out.Gc hxl;have hEr:=HS.out.below ((hb1.trans (dO.mono VN)).mono hB);have i1:=hEr.ix x hxl;have c2:=ES.u hEr hxl;have c3:=ES.v hEr hxl;rw[hu] at c2;rw[hv] at c3;have HU:=jh (Kw ⟨w1.heap.size,w2.heap.size⟩ d k (bR E (o.take q)) u v wr.drew (HD.out.drew) hun NJ om);have HX:=jh hx;have EY:=jh (show gJ E x=(u,v) by unfold gJ;rw[hu,hv];simp)
    have kP:∀w4,Inner ⟨w1.heap.size,w2.heap.size⟩ wr.drew w4→w4.cell? (A x)=some (.int .i64 u)∧w4.cell? ⟨(A x).block,(A x).off+1,none⟩=some (.int .i64 v):=λw4 hi=>by
     have hE4:=HS.out.below ((hb1.trans ((dO.drew.trans hi.dO).mono VN)).mono hB);have h2:=ES.u hE4 hxl;have h3:=ES.v hE4 hxl;rw[hu] at h2;rw[hv] at h3;exact⟨h2,h3⟩
    clear hEr hmem hu hv huv;have HS:wr.drew.cell? (A x)=some (.int .i64 u)∧wr.drew.cell? ⟨(A x).block,(A x).off+1,none⟩=some (.int .i64 v):=⟨c2,c3⟩;clear c2 c3;go_wp2;refine aj (λw'=>w'.cell? (A x)=some (.int .i64 u)∧w'.cell? ⟨(A x).block,(A x).off+1,none⟩=some (.int .i64 v)) (by kernel_rfl) ?_;refine tC 0 ?_;refine tC 1 ?_;refine tC 2 ?_;refine tC 3 ?_;refine tC 4 ?_;refine tC 5 ?_;refine tC 6 ?_;refine tC 7 ?_;refine tC 8 ?_;refine tC 9 ?_;refine tC 10 ?_
    try simp only[sD]
    refine rC 11 λK hK=>?_;go_simp;apply mO HU;rintro e w4 ⟨rfl,hD4,hin⟩;dsimp only;have NR:w4.cell? (A x)=some (.int .i64 u)∧w4.cell? ⟨(A x).block,(A x).off+1,none⟩=some (.int .i64 v):=kP w4 hin;refine hK.out _ _ NR (λHS=>?_);clear hK;have hs4:=hin.dO.size;have hF4:=Ld (show iG w3.heap.size u10 (aH E (o.take q)) wr.drew from HF.out) hin yR;have hR4:=(HR.out.drew).inner hin (λh=>by have:=h.2;simp only at this;omega);have EP:=dO.drew.trans hin.dO;have HF4:=jh hF4;have HR4:=jh hR4;have HD4:=jh hD4;have Bz:w3.heap.size≤w4.heap.size:=Nat.le_trans hsz hs4
    have Ze:q<o.length:=by rw[HOl.out];exact hlt
    have HL:=jh (show bR E (o.take (q+1))=aW (bR E (o.take q)) u v by rw[jM Ze,oU,HX.out,EY.out]);clear kP HU HF HR HD hD4 hin hF4 hR4 dO hsz hs4;refine tC 12 ?_;refine tC 13 ?_;refine tC 14 ?_;refine tC 15 ?_;refine tC 16 ?_
    try simp only[sD]
    refine dD ⟨rfl,?_⟩
    by_cases hc:bR E (o.take q) u=bR E (o.take q) v
    ·have HFr:=jh (show aH E (o.take (q+1))=aH E (o.take q) by rw[jM Ze,j6,HX.out,EU,EY.out,if_neg (by simpa using hc)])
     have hz:decide (bR E (o.take q) u≠bR E (o.take q) v)=false:=by simpa using hc
     have hz2:decide (bR E (o.take q) u=bR E (o.take q) v)=true:=by simpa using hc
     have hz3:(!decide (bR E (o.take q) u=bR E (o.take q) v))=false:=by rw[hz2];rfl
     clear hc;go_wp2;go_roundw
     case rel=>exact⟨q+1,om,by go_num,by rw[HFr.out];exact HF4,by rw[HL.out];exact HD4,HR4,EP,Bz⟩
     case measure=>simp only[intOf];omega
    ·have HFr:=jh (show aH E (o.take (q+1))=aH E (o.take q)++[x] by rw[jM Ze,j6,HX.out,EU,EY.out,if_pos (by simpa using hc)])
     have hz:decide (bR E (o.take q) u≠bR E (o.take q) v)=true:=by simpa using hc
     have hz2:decide (bR E (o.take q) u=bR E (o.take q) v)=false:=by simpa using hc
     have hz3:(!decide (bR E (o.take q) u=bR E (o.take q) v))=true:=by rw[hz2];rfl
     have hown:=HF4.out
     have hfl:(aH E (o.take q)).length≤16384:=by have:=BI E (o.take q);rw[List.length_take] at this;omega
     unfold iG at hown;clear hc HF4
     go_wp2_with (at_builtin;refine push Cw rfl _ _ rfl w3.heap.size _ _ _ hown rfl #[.int .i64 x] _ rfl rfl rfl (by simp[Value.oneCell']) om om Bz ?_;intro g cp w5 hown5 hg5 hv5)
     have hb5:Below w3.heap.size w4 w5:=(Below.refl _ w4).grown hg5 Bz (λj e=>(hown.lt j e).1);go_roundw
     case rel=>
      refine⟨q+1,om,by go_num,?_,?_,jh (HR4.out.below hb5 HRl),EP.trans (hb5.mono om),Nat.le_trans Bz hb5.size⟩
      ·rw[HFr.out];unfold iG;rw[jW,List.length_append,List.map_append];exact jh hown5
      ·rw[HL.out];exact jh (HD4.out.zone hb5 yR)
     case measure=>simp only[intOf];omega
   ·have hke:q=E.length:=om;have hF:=HF.out;rw[hke,←HOl.out,List.take_length] at hF;have yG:=jh hF;clear hF HF;go_wp2;go_ret2
    exact⟨hb1.trans (dO.mono VN),.inr ⟨sW HG.out,o,u10,HOr.out,rfl,by
     obtain⟨h1,h2⟩:=yG.out
     exact⟨h1,h2.imp id (by rintro⟨g,cap,cur,e1,e2,e3⟩;exact⟨g,cap,cur,e1,om,e3⟩)⟩⟩⟩
theorem Tryz.JC:(Tryz.prog.info? 2).map (λi=>(i.zero,i.size,i.bytes))=some (some (.int .i64 0),1,8):=by kernel_rfl
theorem Tryz.YS:(Tryz.prog.info? 209).map (λi=>(i.zero,i.size,i.bytes))=some (some (.agg #[.int .i64 0,.int .i64 0]),2,16):=by kernel_rfl
def mI (i d z:Nat):Mk:=⟨i,d,.cells (madeCells #[.int .i64 0] z) 3,λb=>.slice (some ⟨b,0,none⟩) z z⟩
def mH (i d z:Nat):Mk:=⟨i,d,.cells (madeCells #[.int .i64 0] z) 2,λb=>.slice (some ⟨b,0,none⟩) z z⟩
def mT (i d:Nat):Mk:=⟨i,d,.cells #[.int .i64 0,.slice none 0 0,.slice none 0 0,.slice none 0 0,.slice none 0 0,.slice none 0 0] 74,λb=>.pointer (some ⟨b,0,none⟩)⟩
def iO:Array Value:=#[.int .i64 0,.slice none 0 0,.slice none 0 0,.slice none 0 0,.slice none 0 0,.slice none 0 0]
structure iF (w:World) (B n z:Nat) (b:fF) (E:List Ed) (f:List Nat):Prop where
 fo:Fo n E f
 qK:n≤4096
 pU:z=n+f.length
 lo:b.l<B∧b.r<B∧b.p<B∧b.h<B∧b.s<B
 rl:Row w b.l z (dJ (yC E f n f.length))
 rr:Row w b.r z (dJ (uj E f n f.length))
 rp:Row w b.p z (dJ (stP E f n f.length))
 rh:Row w b.h z (dJ (gX E f n f.length))
 rs:Row w b.s z (dJ (wJ E f n f.length))
section
variable {w w':World} {B B' n z:Nat} {b:fF} {E:List Ed} {f:List Nat}
theorem iF.below (h:iF w B n z b E f) (hb:Below B w w'):iF w' B n z b E f:=
 ⟨h.fo,h.qK,h.pU,h.lo,h.rl.below hb h.lo.1,h.rr.below hb h.lo.2.1,h.rp.below hb h.lo.2.2.1,h.rh.below hb h.lo.2.2.2.1,h.rs.below hb h.lo.2.2.2.2⟩
theorem iF.mono (h:iF w B n z b E f) (hB:B≤B'):iF w B' n z b E f:=by
 obtain⟨a1,a2,a3,a4,a5⟩:=h.lo;exact⟨h.fo,h.qK,h.pU,⟨om,om,om,om,om⟩,h.rl,h.rr,h.rp,h.rh,h.rs⟩
theorem Fo.qN (F:Fo n E f):f.length≤n:=oC (JW F (Nat.le_refl _))
theorem iF.Um (h:iF w B n z b E f):z≤8192:=oF h.fo.qN h.qK h.pU
end
def aa9 (n:Int) (E:List Ed) (w:World) (e:Ending) (w':World):Prop:=
 Below w.heap.size w w'∧((j5 n E≠0∧e=.returned (.tuple #[.agg iO,.int .i64 (j5 n E)]))∨
  (∃(k:Nat) (o:List Nat) (b:fF) (z:Nat),n=k∧tZ k E∧bO E o∧e=.returned (.tuple #[.agg (lW k z b),.int .i64 0])∧iF w' w'.heap.size k z b E (aH E o)∧(w.heap.size≤b.l∧w.heap.size≤b.r∧w.heap.size≤b.p∧w.heap.size≤b.h∧w.heap.size≤b.s)))
structure TrP (w0 w:World) (b:fF) (n z:Nat):Prop where
 nd:[b.t,b.l,b.r,b.p,b.h,b.s].Nodup
 lo:∀g∈[b.t,b.l,b.r,b.p,b.h,b.s],w0.heap.size≤g
 st:Row w b.t 6 (trC n z b)
 rl:Row w b.l z (dJ λ_=>0)
 rr:Row w b.r z (dJ λ_=>0)
 rp:Row w b.p z (dJ λ_=>0)
 rh:Row w b.h z (dJ λ_=>0)
 rs:Row w b.s z (dJ λ_=>0)
 dO:Below w0.heap.size w0 w
theorem Laid.nes {w0 w:World} {D:List Mk} {blk:Nat→Nat} (h:Laid w0 w D blk) {l:List Nat} (hl:∀i∈l,i∈D.map (·.i)) (hn:l.Nodup):(l.map blk).Nodup:=by
 rw[List.Nodup,List.pairwise_map];refine List.Pairwise.imp_of_mem ?_ hn;intro a b ha hb hab e;obtain⟨m,hm,rfl⟩:=List.mem_map.1 (hl a ha);obtain⟨m',hm',rfl⟩:=List.mem_map.1 (hl b hb);exact h.ne m m' hm hm' hab e
theorem lI {w:World} {g z:Nat} {t:TypeId} (h:w.heap[g]?=some (.cells (madeCells #[.int .i64 0] z) t (0,0))):Row w g z (dJ λ_=>0):=
 ⟨_,_,h,λi hi=>by simp[madeCells,hi,Nat.mod_one,dJ]⟩
theorem Laid.Pt {w0 w:World} {blk:Nat→Nat} {D:List Mk} (h:Laid w0 w D blk) (hD:mT 12 9∈D) {b12:Nat} (e12:blk 12=b12):Row w b12 6 (λi=>iO.getD i undef):=by
 have a12:=h.at_ _ hD;simp only[mT,e12] at a12
 exact⟨_,_,a12.2,λi hi=>by
  match i,hi with
  |0,_=>rfl
  |1,_=>rfl
  |2,_=>rfl
  |3,_=>rfl
  |4,_=>rfl
  |5,_=>rfl
  |k+6,h=>omega⟩
theorem Laid.trp {w0 w:World} {z n b2 b4 b6 b8 b10 b12:Nat} {blk:Nat→Nat} {D:List Mk} (h:Laid w0 w D blk) (hD:D=[mI 2 36 z,mI 4 38 z,mI 6 40 z,mH 8 42 z,mI 10 44 z,mT 12 9]) (e2:blk 2=b2) (e4:blk 4=b4) (e6:blk 6=b6) (e8:blk 8=b8) (e10:blk 10=b10) (e12:blk 12=b12):
  TrP w0 ((((((w.setCell ⟨b12,0,none⟩ (.int .i64 n)).setCell ⟨b12,1,none⟩ (.slice (some ⟨b2,0,none⟩) z z)).setCell ⟨b12,2,none⟩ (.slice (some ⟨b4,0,none⟩) z z)).setCell ⟨b12,3,none⟩ (.slice (some ⟨b6,0,none⟩) z z)).setCell ⟨b12,4,none⟩ (.slice (some ⟨b8,0,none⟩) z z)).setCell ⟨b12,5,none⟩ (.slice (some ⟨b10,0,none⟩) z z)) ⟨b12,b2,b4,b6,b8,b10,0⟩ n z:=by
 have r0:=h.Pt (by rw[hD];simp) e12;subst hD;have hn:=h.nes (l:=[12,2,4,6,8,10]) (by simp[mI,mH,mT]) (by decide);simp only[List.map_cons,List.map_nil,e2,e4,e6,e8,e10,e12] at hn;have a:=h.at_;have a2:=a (mI 2 36 z) sj;have a4:=a (mI 4 38 z) sj;have a6:=a (mI 6 40 z) sj;have a8:=a (mH 8 42 z) sj;have a10:=a (mI 10 44 z) sj;have a12:=a (mT 12 9) sj;simp only[mI,mH,mT,e2,e4,e6,e8,e10,e12] at a2 a4 a6 a8 a10 a12;have hb:=h.dO;clear a h;have hn2:[b12,b2,b4,b6,b8,b10].Nodup:=hn;simp only[List.nodup_cons,List.mem_cons,List.not_mem_nil,or_false,not_or] at hn;obtain⟨⟨n1,n2,n3,n4,n5⟩,-⟩:=hn
 have hr:∀(g:Nat) (f:Nat→Value),b12≠g→Row w g z f→Row ((((((w.setCell ⟨b12,0,none⟩ (.int .i64 n)).setCell ⟨b12,1,none⟩ (.slice (some ⟨b2,0,none⟩) z z)).setCell ⟨b12,2,none⟩ (.slice (some ⟨b4,0,none⟩) z z)).setCell ⟨b12,3,none⟩ (.slice (some ⟨b6,0,none⟩) z z)).setCell ⟨b12,4,none⟩ (.slice (some ⟨b8,0,none⟩) z z)).setCell ⟨b12,5,none⟩ (.slice (some ⟨b10,0,none⟩) z z)) g z f:=λg f hg hr=>
  (((((hr.setOther (λe=>hg e.symm) _).setOther (λe=>hg e.symm) _).setOther (λe=>hg e.symm) _).setOther (λe=>hg e.symm) _).setOther (λe=>hg e.symm) _).setOther (λe=>hg e.symm) _
 have hle:=a12.1;refine⟨hn2,?_,?_,hr _ _ n1 (lI a2.2),hr _ _ n2 (lI a4.2),hr _ _ n3 (lI a6.2),hr _ _ n4 (lI a8.2),hr _ _ n5 (lI a10.2),?_⟩
 ·intro g hg;simp only[List.mem_cons,List.not_mem_nil,or_false] at hg
  rcases hg with rfl |rfl |rfl |rfl |rfl |rfl
  ·exact a12.1
  ·exact a2.1
  ·exact a4.1
  ·exact a6.1
  ·exact a8.1
  ·exact a10.1
 ·refine((((((r0.set 0 _).set 1 _).set 2 _).set 3 _).set 4 _).set 5 _).congr λi hi=>?_
  match i,hi with
  |0,_=>rfl
  |1,_=>rfl
  |2,_=>rfl
  |3,_=>rfl
  |4,_=>rfl
  |5,_=>rfl
  |k+6,h=>omega
 ·exact(((((hb.setCell hle _).setCell hle _).setCell hle _).setCell hle _).setCell hle _).setCell hle _
theorem TrP.Oh {w0 w:World} {b:fF} {n z:Nat} (h:TrP w0.drew w b n z):TrP w0 w b n z:=
 ⟨h.nd,h.lo,h.st,h.rl,h.rr,h.rp,h.rh,h.rs,(Below.refl _ w0).drew.trans h.dO⟩
structure jK (w0 w:World) (b:fF) (n z:Nat) (L R P H Z:Nat→Int) (up rt:Nat→Nat):Prop where
 tr:nK w b n z L R P H Z up rt
 lo:∀g∈b.list,w0.heap.size≤g
 dO:Below w0.heap.size w0 w
theorem BJ {l:List Nat} (h:l.Nodup):Dif l:=λi j a b hi hj hij e=>by
 obtain⟨h1,e1⟩:=List.getElem?_eq_some_iff.1 hi;obtain⟨h2,e2⟩:=List.getElem?_eq_some_iff.1 hj;have hp:=List.pairwise_iff_getElem.1 h
 rcases Nat.lt_or_gt_of_ne hij with c |c
 ·exact hp i j h1 h2 c (by rw[e1,e2];exact e)
 ·exact hp j i h2 h1 c (by rw[e1,e2];exact e.symm)
theorem Lu (w:World) (n:Nat) (t:TypeId):Row (w.alloc (.cells (madeCells #[.int .i64 0,.int .i64 0] (n*2)) t)) w.heap.size (2*n) (kQ (λ_=>0) (λ_=>0)):=
 ⟨_,_,World.alloc_heap_new w _,λi hi=>by
  have:i%2=0∨i%2=1:=om;simp only[madeCells,kQ]
  rcases this with e |e<;>simp[e,show i<n*2 by omega]⟩
theorem TrP.bdm {w0 w:World} {b:fF} {n z:Nat} (h:TrP w0 w b n z) (t:TypeId):jK w0 (w.alloc (.cells (madeCells #[.int .i64 0,.int .i64 0] (n*2)) t)) { b with u:=w.heap.size } n z (λ_=>0) (λ_=>0) (λ_=>0) (λ_=>0) (λ_=>0) (λ_=>0) (λ_=>0):=by
 have h1:=h.st.lt;have h2:=h.rl.lt;have h3:=h.rr.lt;have h4:=h.rp.lt;have h5:=h.rh.lt;have h6:=h.rs.lt;refine⟨⟨BJ ?_,h.st.alloc _,h.rl.alloc _,h.rr.alloc _,h.rp.alloc _,h.rh.alloc _,h.rs.alloc _,Lu w n t⟩,?_,h.dO.alloc h.dO.size _⟩
 ·show([b.t,b.l,b.r,b.p,b.h,b.s]++[w.heap.size]).Nodup;rw[List.nodup_append];refine⟨h.nd,sj,λa ha c hc=>?_⟩
  obtain rfl:c=w.heap.size:=by simpa using hc
  simp only[List.mem_cons,List.not_mem_nil,or_false] at ha
  rcases ha with rfl |rfl |rfl |rfl |rfl |rfl<;>omega
 ·intro g hg;have hg:g∈[b.t,b.l,b.r,b.p,b.h,b.s]++[w.heap.size]:=hg
  rcases List.mem_append.1 hg with hg |hg
  ·exact h.lo g hg
  ·obtain rfl:g=w.heap.size:=by simpa using hg
   exact h.dO.size
section
variable {w0 w w':World} {b:fF} {n z:Nat} {L R P H Z L' R' P' H' Z':Nat→Int} {up rt up' TI:Nat→Nat}
theorem jK.drew (h:jK w0 w b n z L R P H Z up rt):jK w0 w.drew b n z L R P H Z up rt:=⟨h.tr.drew,h.lo,h.dO.drew⟩
theorem jK.congr (h:jK w0 w b n z L R P H Z up rt) (e1:∀i<z,L i=L' i) (e2:∀i<z,R i=R' i) (e3:∀i<z,P i=P' i) (e4:∀i<z,H i=H' i) (e5:∀i<z,Z i=Z' i):jK w0 w b n z L' R' P' H' Z' up rt:=⟨h.tr.congr e1 e2 e3 e4 e5,h.lo,h.dO⟩
theorem jK.BK (h:jK w0 w b n z L R P H Z up rt) (e1:∀i<n,up i=up' i) (e2:∀i<n,rt i=TI i):jK w0 w b n z L R P H Z up' TI:=⟨h.tr.BK e1 e2,h.lo,h.dO⟩
theorem jK.UA (h:jK w0 w b n z L R P H Z up rt) (x:Nat) (v:Int):jK w0 (w.setCell ⟨b.l,x,none⟩ (.int .i64 v)) b n z (nM L x v) R P H Z up rt:=⟨h.tr.UA x v,h.lo,h.dO.setCell (p:=⟨b.l,x,none⟩) (h.lo b.l (by simp[fF.list])) _⟩
theorem jK.Uz (h:jK w0 w b n z L R P H Z up rt) (x:Nat) (v:Int):jK w0 (w.setCell ⟨b.r,x,none⟩ (.int .i64 v)) b n z L (nM R x v) P H Z up rt:=⟨h.tr.Uz x v,h.lo,h.dO.setCell (p:=⟨b.r,x,none⟩) (h.lo b.r (by simp[fF.list])) _⟩
theorem jK.Pn (h:jK w0 w b n z L R P H Z up rt) (x:Nat) (v:Int):jK w0 (w.setCell ⟨b.p,x,none⟩ (.int .i64 v)) b n z L R (nM P x v) H Z up rt:=⟨h.tr.Pn x v,h.lo,h.dO.setCell (p:=⟨b.p,x,none⟩) (h.lo b.p (by simp[fF.list])) _⟩
theorem jK.setH (h:jK w0 w b n z L R P H Z up rt) (x:Nat) (v:Int):jK w0 (w.setCell ⟨b.h,x,none⟩ (.int .i64 v)) b n z L R P (nM H x v) Z up rt:=⟨h.tr.setH x v,h.lo,h.dO.setCell (p:=⟨b.h,x,none⟩) (h.lo b.h (by simp[fF.list])) _⟩
theorem jK.Uy (h:jK w0 w b n z L R P H Z up rt) (x:Nat) (v:Int):jK w0 (w.setCell ⟨b.s,x,none⟩ (.int .i64 v)) b n z L R P H (nM Z x v) up rt:=⟨h.tr.Uy x v,h.lo,h.dO.setCell (p:=⟨b.s,x,none⟩) (h.lo b.s (by simp[fF.list])) _⟩
theorem jK.rG (h:jK w0 w b n z L R P H Z up rt) (x v:Nat):jK w0 (w.setCell ⟨b.u,x*2,none⟩ (.int .i64 (v:Nat))) b n z L R P H Z (λi=>if i=x then v else up i) rt:=⟨h.tr.rG x v,h.lo,h.dO.setCell (p:=⟨b.u,x*2,none⟩) (h.lo b.u (by simp[fF.list])) _⟩
theorem jK.I5 (h:jK w0 w b n z L R P H Z up rt) (x v:Nat):jK w0 (w.setCell ⟨b.u,x*2+1,none⟩ (.int .i64 (v:Nat))) b n z L R P H Z up (λi=>if i=x then v else rt i):=⟨h.tr.I5 x v,h.lo,h.dO.setCell (p:=⟨b.u,x*2+1,none⟩) (h.lo b.u (by simp[fF.list])) _⟩
theorem jK.zn (h:jK w0 w b n z L R P H Z up rt) (hi:Inner ⟨b.u,b.u+1⟩ w w') (hr:Row w' b.u (2*n) (kQ up' TI)):jK w0 w' b n z L R P H Z up' TI:=⟨h.tr.zn hi hr,h.lo,h.dO.trans (hi.dO.mono (h.lo b.u (by simp[fF.list])))⟩
end
theorem IJ {f:Nat→Int} {x y:Nat} {v:Int} (h:y≠x):nM f x v y=f y:=if_neg h
theorem jK.cellS {w0 w:World} {b:fF} {n z:Nat} {L R P H Z:Nat→Int} {up rt:Nat→Nat} (h:jK w0 w b n z L R P H Z up rt) {x:Nat} (hx:x<z):w.cell? ⟨b.s,x,none⟩=some (.int .i64 (Z x)):=h.tr.rs.cell hx
theorem xB {w:World} {B m cap:Nat} {a:Option Addr} {l:List Nat} {A:Nat→Addr} (h:Rd 62 1 w B (.slice a m cap) m (nums .i64 (bH l)) A) {i:Nat} (hi:i<m):w.cell? (A i)=some (.int .i64 ((l.getD i 0:Nat):Int)):=by
 have:=h.cell i hi 0 om;rw[add_zero,nums,lM] at this;exact this
def mk1 (k y:Nat):Int:=if y<k then -1 else 0
def Qr (k y:Nat):Int:=if y<k then 1 else 0
def Gf (k y:Nat):Nat:=if y<k then y else 0
theorem Qu:(λ_=>0)=mk1 0:=by funext y;unfold mk1;rw[if_neg om]
theorem Qp:(λ_=>0)=Qr 0:=by funext y;unfold Qr;rw[if_neg om]
theorem Qs:(λ_=>0)=Gf 0:=by funext y;unfold Gf;rw[if_neg om]
theorem Qv (k:Nat):nM (mk1 k) k (-1)=mk1 (k+1):=by
 funext y;unfold nM mk1
 by_cases h:y=k
 ·rw[if_pos h,if_pos om]
 ·rw[if_neg h];by_cases h2:y<k
  ·rw[if_pos h2,if_pos om]
  ·rw[if_neg h2,if_neg om]
theorem Qq (k:Nat):nM (Qr k) k 1=Qr (k+1):=by
 funext y;unfold nM Qr
 by_cases h:y=k
 ·rw[if_pos h,if_pos om]
 ·rw[if_neg h];by_cases h2:y<k
  ·rw[if_pos h2,if_pos om]
  ·rw[if_neg h2,if_neg om]
theorem Qt (k:Nat):(λy=>if y=k then k else Gf k y)=Gf (k+1):=by
 funext y;unfold Gf
 by_cases h:y=k
 ·rw[if_pos h,if_pos om,h]
 ·rw[if_neg h];by_cases h2:y<k
  ·rw[if_pos h2,if_pos om]
  ·rw[if_neg h2,if_neg om]
theorem qG (B:Nat) (a:Option Addr) (cap:Nat) (A:Nat→Addr) (n:Int) (E:List Ed) (w:World) (hS:ES w B (.slice a E.length cap) E A) (hB:B≤w.heap.size) (hm:E.length≤9223372036854775807):
  Calls Tryz.prog 109 #[.int .i64 n,.slice a E.length cap] w (aa9 n E w):=by
 have HA:=jh (show Below w.heap.size w (w.alloc (.cells iO 74)) from(Below.refl _ _).alloc (Nat.le_refl _) _)
 have hZ:Row (w.alloc (.cells iO 74)) w.heap.size 6 (λi=>iO.getD i undef):=Row.lit w _ _ (by simp[iO]) λi hi=>by
  match i,hi with
  |0,_=>rfl
  |1,_=>rfl
  |2,_=>rfl
  |3,_=>rfl
  |4,_=>rfl
  |5,_=>rfl
  |k+6,h=>omega
 have HZ:=jh hZ;have HS:=jh ((hS.mono hB).below HA.out);have HF:=jh (xQ w.heap.size a cap A n E (w.alloc (.cells iO 74)) HS.out sj hm);clear hZ hS hm;unfold iO at HF HA HZ;go_in;go_wp2_with fail;have hsz1:(w.alloc (.cells #[.int .i64 0,.slice none 0 0,.slice none 0 0,.slice none 0 0,.slice none 0 0,.slice none 0 0] 74)).heap.size=w.heap.size+1:=sj;unfold iO at HS;have uV:=jh (show w.heap.size<(w.alloc (.cells #[.int .i64 0,.slice none 0 0,.slice none 0 0,.slice none 0 0,.slice none 0 0,.slice none 0 0] 74)).heap.size by omega);clear hsz1;generalize (w.alloc (.cells #[.int .i64 0,.slice none 0 0,.slice none 0 0,.slice none 0 0,.slice none 0 0,.slice none 0 0] 74))=wa at*;apply mO HF;clear HF;rintro e w1 ⟨b1,⟨he,rfl⟩ |⟨he,o,v,ho,rfl,hv⟩⟩
 ·have HZ1:=jh (HZ.out.below b1 uV.out);have HB1:=jh (HA.out.trans (b1.mono HA.out.size));obtain⟨x,hx⟩:=nE (j5 n E);rw[hx] at he⊢
  have hne:(x !=0)=true:=by simpa using he
  have HE:=jh (And.intro he hx);have z0:=HZ1.out.c 0;have z1:=HZ1.out.c 1;have z2:=HZ1.out.c 2;have z3:=HZ1.out.c 3;have z4:=HZ1.out.c 4;have z5:=HZ1.out.c 5;have fz:=λi=>HZ1.out.frozen i;clear he hx b1 HZ HS HA;have H3:=jh ((((((HZ1.out.set 0 (.int .i64 0)).set 1 (.slice none 0 0)).set 2 (.slice none 0 0)).set 3 (.slice none 0 0)).set 4 (.slice none 0 0)).set 5 (.slice none 0 0));have HB3:=jh ((((((HB1.out.setCell (p:=⟨w.heap.size,0,none⟩) (Nat.le_refl _) (.int .i64 0)).setCell (p:=⟨w.heap.size,1,none⟩) (Nat.le_refl _) (.slice none 0 0)).setCell (p:=⟨w.heap.size,2,none⟩) (Nat.le_refl _) (.slice none 0 0)).setCell (p:=⟨w.heap.size,3,none⟩) (Nat.le_refl _) (.slice none 0 0)).setCell (p:=⟨w.heap.size,4,none⟩) (Nat.le_refl _) (.slice none 0 0)).setCell (p:=⟨w.heap.size,5,none⟩) (Nat.le_refl _) (.slice none 0 0));go_wp2_with fail;generalize (((((w1.setCell ⟨w.heap.size,0,none⟩ (.int .i64 0)).setCell ⟨w.heap.size,1,none⟩ (.slice none 0 0)).setCell ⟨w.heap.size,2,none⟩ (.slice none 0 0)).setCell ⟨w.heap.size,3,none⟩ (.slice none 0 0)).setCell ⟨w.heap.size,4,none⟩ (.slice none 0 0)).setCell ⟨w.heap.size,5,none⟩ (.slice none 0 0)=wz at*;have s0:=H3.out.c 0;have s1:=H3.out.c 1;have s2:=H3.out.c 2;have s3:=H3.out.c 3;have s4:=H3.out.c 4;have s5:=H3.out.c 5;refine bodyPost_ret (v:=.tuple #[.agg iO,.int .i64 x]) (by simp[results,Tryz.results109,go_sem,s0,s1,s2,s3,s4,s5,iO]) rfl ?_;exact⟨HB3.out,.inl ⟨by rw[HE.out.2];exact HE.out.1,by rw[HE.out.2]⟩⟩
 ·obtain⟨k,rfl,G⟩:=zU he;have hF:=GN G ho;have hkn:=G.qK;have HS:=jh (HS.out.below (b1.mono (Nat.le_of_lt uV.out)));have HZ:=jh (HZ.out.below b1 uV.out);have HB:=jh (HA.out.trans (b1.mono HA.out.size));have HG:=jh G;have HO:=jh ho;obtain⟨f,hf⟩:=nE (aH E o);rw[hf] at hv hF;obtain⟨fa,fc,fA,rfl,hv⟩:=jf hv;have hfl:=hF.qN;have WU:=jh hF;have Hf:=jh hf;obtain⟨m,hfm⟩:=nE f.length;rw[hfm] at hv hfl⊢;have HV:=jh hv;have Hfm:=jh hfm;obtain⟨z,hz⟩:=nE (k+m:Nat);have hwz:(k:Int)+(m:Int)=(z:Int):=om;have aeI:=jh (Nat.lt_of_lt_of_le uV.out b1.size);have Hz:=jh hz;clear hf hF he ho G hv hfm uV HA b1 hz
  go_upto_region 5 with(fail)
  clear hwz;have hz2:z≤8192:=oC Hz.out
  have hmk:∀w,(Instr.makeSlice 62 (.int .i64 z) (.int .i64 z)).run Tryz.prog w=.ok (.slice (some ⟨w.heap.size,0,none⟩) z z) (w.alloc (.cells (madeCells #[.int .i64 0] z) 3)):=λw=>
   run_make_row' (P:=Tryz.prog) 62 3 (.int .i64 0) 8 Tryz.underlying62 Tryz.ng rfl .i64 .i64 z om om w
  have Gv:∀w,(Instr.makeSlice 72 (.int .i64 z) (.int .i64 z)).run Tryz.prog w=.ok (.slice (some ⟨w.heap.size,0,none⟩) z z) (w.alloc (.cells (madeCells #[.int .i64 0] z) 2)):=λw=>
   run_make_row' (P:=Tryz.prog) 72 2 (.int .i64 0) 8 Tryz.underlying72 Tryz.JC rfl .i64 .i64 z om om w
  go_cut [9] (λs9 wx=>∃b:fF,s9=.pointer (some ⟨b.t,0,none⟩)∧TrP w1 wx b k z)
  case first=>
   have HS:True:=trivial;refine aj (λ_=>True) (by kernel_rfl) ?_;refine tC 0 ?_;refine tC 1 ?_;refine tC 3 ?_;refine tC 5 ?_;refine tC 7 ?_;refine tC 9 ?_
   try simp only[sD]
   refine Lr (fuel:=2) [mI 2 36 z,mI 4 38 z,mI 6 40 z,mH 8 42 z,mI 10 44 z,mT 12 9] [[2,4,6,8,10,12],[2,4,6,8,10]] _ _ _ _ (by simp[mI,mH,mT]) (by simp[mI,mH,mT]) (by kernel_rfl) ?_ (λ_ _ _=>trivial) trivial ?_
   ·intro x hx T w2 K hT hK;simp only[List.mem_cons,List.not_mem_nil,or_false] at hx;have Zw:=hT 35 (by simp[mI,mH,mT]);have Zv:=hT 37 (by simp[mI,mH,mT]);have Zu:=hT 39 (by simp[mI,mH,mT]);have Zt:=hT 41 (by simp[mI,mH,mT]);have Zr:=hT 43 (by simp[mI,mH,mT]);clear hT;simp only[List.getElem?_toArray,List.getElem?_cons_succ,List.getElem?_cons_zero] at Zw Zv Zu Zt Zr
    have e35:T.getD 35 undef=.int .i64 (z:Nat):=by simp[Array.getD_eq_getD_getElem?,Zw]
    have e37:T.getD 37 undef=.int .i64 (z:Nat):=by simp[Array.getD_eq_getD_getElem?,Zv]
    have e39:T.getD 39 undef=.int .i64 (z:Nat):=by simp[Array.getD_eq_getD_getElem?,Zu]
    have e41:T.getD 41 undef=.int .i64 (z:Nat):=by simp[Array.getD_eq_getD_getElem?,Zt]
    have e43:T.getD 43 undef=.int .i64 (z:Nat):=by simp[Array.getD_eq_getD_getElem?,Zr]
    clear Zw Zv Zu Zt Zr
    rcases hx with rfl |rfl |rfl |rfl |rfl |rfl
    ·refine jR (d:=36) rfl rfl rfl rfl ?_ hK;show(Instr.makeSlice _ (T.getD 35 undef) (T.getD 35 undef)).run _ _=_;rw[e35];exact hmk w2
    ·refine jR (d:=38) rfl rfl rfl rfl ?_ hK;show(Instr.makeSlice _ (T.getD 37 undef) (T.getD 37 undef)).run _ _=_;rw[e37];exact hmk w2
    ·refine jR (d:=40) rfl rfl rfl rfl ?_ hK;show(Instr.makeSlice _ (T.getD 39 undef) (T.getD 39 undef)).run _ _=_;rw[e39];exact hmk w2
    ·refine jR (d:=42) rfl rfl rfl rfl ?_ hK;show(Instr.makeSlice _ (T.getD 41 undef) (T.getD 41 undef)).run _ _=_;rw[e41];exact Gv w2
    ·refine jR (d:=44) rfl rfl rfl rfl ?_ hK;show(Instr.makeSlice _ (T.getD 43 undef) (T.getD 43 undef)).run _ _=_;rw[e43];exact hmk w2
    ·refine Qc (d:=9) rfl rfl rfl rfl ?_ hK;go_simp;exact⟨rfl,rfl⟩
   ·intro s hs blk w2 hL _;simp only[List.mem_cons,List.not_mem_nil,or_false] at hs
    rcases hs with rfl |rfl
    ·replace hL:Laid _ w2 [mI 2 36 z,mI 4 38 z,mI 6 40 z,mH 8 42 z,mI 10 44 z,mT 12 9] blk:=hL;change wpAnyH _ _ _ _ _ 2 _ { tmps:=AF blk _ [mI 2 36 z,mI 4 38 z,mI 6 40 z,mH 8 42 z,mI 10 44 z,mT 12 9],defers:=_ } _;simp only[zL,AF,List.foldl_cons,List.foldl_nil,List.setIfInBounds_toArray,List.set_cons_zero,List.set_cons_succ,mI,mH,mT];refine tC 11 ?_
     try simp only[sD]
     have r0:=hL.Pt sj rfl;have c0:=r0.c 0;have c1:=r0.c 1;have c2:=r0.c 2;have c3:=r0.c 3;have c4:=r0.c 4;have c5:=r0.c 5;have fz:=λi=>r0.frozen i;have HP:=jh (hL.trp (n:=k) rfl rfl rfl rfl rfl rfl rfl).Oh;clear hL r0;refine rC 13 λK hK=>?_;go_simp;refine hK.out _ _ trivial (λ_=>?_);clear hK;refine dD ⟨rfl,?_⟩;go_wp2;go_meet;exact⟨_,rfl,HP.out⟩
    ·replace hL:Laid _ w2 [mI 2 36 z,mI 4 38 z,mI 6 40 z,mH 8 42 z,mI 10 44 z] blk:=hL;change wpAnyH _ _ _ _ _ 3 _ { tmps:=AF blk _ [mI 2 36 z,mI 4 38 z,mI 6 40 z,mH 8 42 z,mI 10 44 z],defers:=_ } _;simp only[zL,AF,List.foldl_cons,List.foldl_nil,List.setIfInBounds_toArray,List.set_cons_zero,List.set_cons_succ,mI,mH];refine tC 11 ?_
     try simp only[sD]
     have hL:=hL.step (mT 12 9) (λx hx=>by
      simp only[List.mem_cons,List.not_mem_nil,or_false] at hx
      rcases hx with rfl |rfl |rfl |rfl |rfl<;>simp[mI,mH,mT])
     have r0:=hL.Pt sj (if_pos rfl);have HP:=jh (hL.trp (n:=k) rfl (if_neg (by simp[mT])) (if_neg (by simp[mT])) (if_neg (by simp[mT])) (if_neg (by simp[mT])) (if_neg (by simp[mT])) (if_pos rfl)).Oh;have c0:=r0.c 0;have c1:=r0.c 1;have c2:=r0.c 2;have c3:=r0.c 3;have c4:=r0.c 4;have c5:=r0.c 5;have fz:=λi=>r0.frozen i;clear hL r0;obtain⟨w3,hw3⟩:∃x,w2.alloc (.cells #[.int .i64 0,.slice none 0 0,.slice none 0 0,.slice none 0 0,.slice none 0 0,.slice none 0 0] 74)=x:=⟨_,rfl⟩;have hw4:w2.alloc (mT 12 9).obj=w3:=hw3;rw[hw4] at HP c0 c1 c2 c3 c4 c5
     have fz:∀i,w3.frozen? ⟨w2.heap.size,i,none⟩=false:=λi=>by rw[←hw4];exact fz i
     refine rC 12 λK hK=>?_;have HW3:=jh hw3;clear hw3 hw4;go_simp;refine hK.out _ _ trivial (λ_=>?_);clear hK;rw[HW3.out];clear HW3
     (try simp only[sD])
     refine rC 13 λK hK=>?_;go_simp;refine hK.out _ _ trivial (λ_=>?_);clear hK;refine dD ⟨rfl,?_⟩;go_wp2;go_meet;exact⟨_,rfl,HP.out⟩
  case rest=>
   clear hmk Gv;obtain⟨b,rfl,hP⟩:=hcut;have HEd:=jh (HS.out.mono (Nat.le_of_lt aeI.out));clear HS
   have ac1:(Instr.makeSlice 246 (.int .i64 k) (.int .i64 k)).run Tryz.prog wc=.ok (.slice (some ⟨wc.heap.size,0,none⟩) k k) (wc.alloc (.cells (madeCells #[.int .i64 0,.int .i64 0] (k*2)) 209)):=by
    obtain⟨i,hi,h0,h1,h2⟩:=info_parts Tryz.YS;have:=run_make (P:=Tryz.prog) wc 246 209 i _ Tryz.underlying246 hi h0 .i64 .i64 (k:Int) (k:Int) om (Int.le_refl _) (by rw[h2];omega) om;rw[h1] at this;simpa [Value.cells] using this
   have HM:=jh (hP.bdm 209);obtain⟨b2,hb2⟩:∃x:fF,{ b with u:=wc.heap.size }=x:=⟨_,rfl⟩
   have e1:b.t=b2.t:=by rw[←hb2]
   have e2:wc.heap.size=b2.u:=by rw[←hb2]
   rw[hb2] at HM;rw[e2] at ac1;rw[e1];have HE2:=jh e2;clear hP hb2 e1 e2;generalize b2=b at*
   go_upto_region 7 with(fail)
   clear ac1;generalize wc.alloc (.cells (madeCells #[.int .i64 0,.int .i64 0] (k*2)) 209)=W2 at*;clear HE2;rw[show(λ_:Nat=>(0:Int))=gX E f k 0 from by funext y;exact Df.symm] at HM
   have HM:=jh (show jK w1 W2 b k z (mk1 0) (mk1 0) (mk1 0) (gX E f k 0) (Qr 0) (Gf 0) (Gf 0) by
    rw[←Qu,←Qp,←Qs];have:=HM.out;rw[show gX E f k 0=(λ_:Nat=>(0:Int)) from by funext y;exact Df] at this⊢
    exact this)
   go_wp2
   go_loopw [49] (λiv wr=>∃x:Nat,x≤z∧iv=.int .i64 x∧Hid (jK w1 wr b k z (mk1 x) (mk1 x) (mk1 x) (gX E f k 0) (Qr 0) (Gf 0) (Gf 0))) (λiv _=>z-(intOf iv).toNat)
   case atStart=>exact⟨0,Nat.zero_le _,rfl,HM⟩
   case round=>
    clear HM;obtain⟨x,hx,rfl,HM⟩:=hrel
    by_cases hlt:x<z
    ·have hxi:(0:Int)≤x∧(x:Int)<z:=om;go_wp2_with fail;replace HM:=jh HM.out.drew;have HS:wr.drew.cell? ⟨b.t,1,none⟩=some (.slice (some ⟨b.l,0,none⟩) z z)∧wr.drew.cell? ⟨b.t,2,none⟩=some (.slice (some ⟨b.r,0,none⟩) z z)∧wr.drew.cell? ⟨b.t,3,none⟩=some (.slice (some ⟨b.p,0,none⟩) z z):=⟨HM.out.tr.fields.1,HM.out.tr.fields.2.1,HM.out.tr.fields.2.2.1⟩;refine aj (λw'=>w'.cell? ⟨b.t,1,none⟩=some (.slice (some ⟨b.l,0,none⟩) z z)∧w'.cell? ⟨b.t,2,none⟩=some (.slice (some ⟨b.r,0,none⟩) z z)∧w'.cell? ⟨b.t,3,none⟩=some (.slice (some ⟨b.p,0,none⟩) z z)) (by kernel_rfl) ?_;generalize wr.drew=v0 at*;refine tC 0 ?_;refine tC 1 ?_;refine tC 2 ?_;refine tC 3 ?_;refine tC 4 ?_;refine tC 5 ?_;refine tC 6 ?_;refine tC 7 ?_;refine tC 8 ?_;refine tC 9 ?_
     try simp only[sD]
     have cs:=HM.out.tr.rl.cell hlt;have fs:=HM.out.tr.rl.frozen x;refine rC 10 λK hK=>?_;replace HM:=jh (HM.out.UA x (-1));go_simp;refine hK.out _ _ ⟨HM.out.tr.fields.1,HM.out.tr.fields.2.1,HM.out.tr.fields.2.2.1⟩ (λHS=>?_);clear hK cs fs;generalize v0.setCell ⟨b.l,x,none⟩ (.int .i64 (-1))=v1 at*;refine tC 11 ?_
     try simp only[sD]
     have cs:=HM.out.tr.rr.cell hlt;have fs:=HM.out.tr.rr.frozen x;refine rC 12 λK hK=>?_;replace HM:=jh (HM.out.Uz x (-1));go_simp;refine hK.out _ _ ⟨HM.out.tr.fields.1,HM.out.tr.fields.2.1,HM.out.tr.fields.2.2.1⟩ (λHS=>?_);clear hK cs fs;generalize v1.setCell ⟨b.r,x,none⟩ (.int .i64 (-1))=v2 at*;refine tC 13 ?_
     try simp only[sD]
     have cs:=HM.out.tr.rp.cell hlt;have fs:=HM.out.tr.rp.frozen x;refine rC 14 λK hK=>?_;replace HM:=jh (HM.out.Pn x (-1));go_simp;refine hK.out _ _ ⟨HM.out.tr.fields.1,HM.out.tr.fields.2.1,HM.out.tr.fields.2.2.1⟩ (λHS=>?_);clear hK cs fs;generalize v2.setCell ⟨b.p,x,none⟩ (.int .i64 (-1))=v3 at*;refine dD ⟨rfl,?_⟩;clear HS;replace HM:=jh (show jK w1 v3 b k z (mk1 (x+1)) (mk1 (x+1)) (mk1 (x+1)) (gX E f k 0) (Qr 0) (Gf 0) (Gf 0) by rw[←Qv];exact HM.out);go_wp2;go_roundw
     case rel=>exact⟨x+1,om,by go_num,HM⟩
     case measure=>simp only[intOf];omega
    ·obtain rfl:z=x:=om;replace HM:=jh (HM.out.congr (L':=yC E f k 0) (R':=uj E f k 0) (P':=stP E f k 0) (H':=gX E f k 0) (Z':=Qr 0) (λi hi=>by unfold mk1;rw[if_pos hi,OO]) (λi hi=>by unfold mk1;rw[if_pos hi,OE]) (λi hi=>by unfold mk1;rw[if_pos hi,OL]) (λ_ _=>rfl) (λ_ _=>rfl));go_wp2_with fail;have hkz:k≤z:=oC Hz.out
     go_loopw [66] (λiv wr=>∃y:Nat,y≤k∧iv=.int .i64 y∧Hid (jK w1 wr b k z (yC E f k 0) (uj E f k 0) (stP E f k 0) (gX E f k 0) (Qr y) (Gf y) (Gf y))) (λiv _=>k-(intOf iv).toNat)
     case atStart=>exact⟨0,Nat.zero_le _,rfl,HM⟩
     case round=>
      clear HM;obtain⟨y,hy,rfl,HM⟩:=hrel
      by_cases hlt2:y<k
      ·have hyi:(0:Int)≤y∧(y:Int)<k:=om;have hyx:(y:Int)<z:=om;have ahC:y<z:=om;have c0:=HM.out.tr.fields.2.2.2.2;have M1:=HM.out.Uy y 1;have M2:=M1.rG y y;have M3:=M2.I5 y y;have c1:=HM.out.tr.rs.cell ahC;have f1:=HM.out.tr.rs.frozen y;have c2:=lD M1.tr.ru hlt2;have f2:=M1.tr.ru.frozen (y*2);have c3:=jN M2.tr.ru hlt2;have f3:=M2.tr.ru.frozen (y*2+1);have c4:=jN M1.tr.ru hlt2;have f4:=M1.tr.ru.frozen (y*2+1);replace HM:=jh M3;clear M1 M2 M3;go_wp2_with fail;generalize ((wr.setCell ⟨b.s,y,none⟩ (.int .i64 1)).setCell ⟨b.u,y*2,none⟩ (.int .i64 y)).setCell ⟨b.u,y*2+1,none⟩ (.int .i64 y)=v3 at*;replace HM:=jh (show jK w1 v3 b k z (yC E f k 0) (uj E f k 0) (stP E f k 0) (gX E f k 0) (Qr (y+1)) (Gf (y+1)) (Gf (y+1)) by rw[←Qq,←Qt];exact HM.out);go_roundw
       case rel=>exact⟨y+1,om,by go_num,HM⟩
       case measure=>simp only[intOf];omega
      ·obtain rfl:k=y:=om;replace HM:=jh ((HM.out.congr (L':=yC E f k 0) (R':=uj E f k 0) (P':=stP E f k 0) (H':=gX E f k 0) (Z':=wJ E f k 0) (λ_ _=>rfl) (λ_ _=>rfl) (λ_ _=>rfl) (λ_ _=>rfl) (λi _=>by rw[OB];rfl)).BK (up':=id) (TI:=nd E f k 0) (λi hi=>if_pos hi) (λi hi=>if_pos hi));have Tx:=jh (show ∃up,jK w1 wr b k z (yC E f k 0) (uj E f k 0) (stP E f k 0) (gX E f k 0) (wJ E f k 0) up (nd E f k 0)∧UL k up (bW E f 0) from⟨id,HM.out,by rw[nU];exact UL.start k⟩);clear HM;go_wp2
       go_loopw [82] (λiv wr=>∃i:Nat,i≤m∧iv=.int .i64 i∧Hid (∃up,jK w1 wr b k z (yC E f k i) (uj E f k i) (stP E f k i) (gX E f k i) (wJ E f k i) up (nd E f k i)∧UL k up (bW E f i))) (λiv _=>m-(intOf iv).toNat)
       case atStart=>exact⟨0,Nat.zero_le _,rfl,Tx⟩
       case round=>
        clear Tx;obtain⟨i,hi,rfl,Tx⟩:=hrel
        by_cases hlt3:i<m
        ·have hif:i<f.length:=oC Hfm.out;obtain⟨q,hq⟩:=nE (f.getD i 0)
         have Zb:q<E.length:=by
          rw[←hq,←Hf.out];exact Rz HO.out (by rw[Hf.out];exact hif)
         obtain⟨u,v,eu,ev,hu,hv2,_⟩:=HG.out.Gc Zb;have HP:=jh (show gJ E (f.getD i 0)=(u,v) by rw[hq];unfold gJ;rw[eu,ev];simp);obtain⟨y,hy⟩:=nE (k+i:Nat);have hyw:(k:Int)+(i:Int)=(y:Int):=om;have hyz:y<z:=oC Hz.out;obtain⟨up0,hM0,_⟩:=Tx.out;have hFr:=HV.out;have hrd:=hv.below hM0.dO;rw[Hfm.out] at hrd;have ix:=hrd.ix i hlt3;have c1:=xB hrd hlt3;rw[hq] at c1;have hii:(0:Int)≤i∧(i:Int)<m:=om;have Hq:=jh hq;have Hy:=jh hy;have Heu:=jh eu;have Hev:=jh ev;clear hq hy hM0 hrd hFr eu ev
         go_upto_region 22 with(fail)
         clear ix c1 hyw;have hqi:(0:Int)≤q∧(q:Int)<E.length:=om;have ix2:=HEd.out.ix q Zb
         go_cut [16,17] (λs16 s17 wx=>s16=.int .i64 (bW E f i u:Nat)∧s17=.int .i64 (bW E f i v:Nat)∧∃up,jK w1 wx b k z (yC E f k i) (uj E f k i) (stP E f k i) (gX E f k i) (wJ E f k i) up (nd E f k i)∧UL k up (bW E f i))
         case first=>
          have kE:∀wx,(∃up,jK w1 wx b k z (yC E f k i) (uj E f k i) (stP E f k i) (gX E f k i) (wJ E f k i) up (nd E f k i)∧UL k up (bW E f i))→wx.cell? (A q)=some (.int .i64 u)∧wx.cell? ⟨(A q).block,(A q).off+1,none⟩=some (.int .i64 v)∧Hid (∃up,jK w1 wx b k z (yC E f k i) (uj E f k i) (stP E f k i) (gX E f k i) (wJ E f k i) up (nd E f k i)∧UL k up (bW E f i)):=λwx hx=>by
           obtain⟨up,hM,hU⟩:=hx;have h:=HEd.out.below hM.dO;exact⟨by rw[ES.u h Zb,Heu.out],by rw[ES.v h Zb,Hev.out],jh ⟨up,hM,hU⟩⟩
          have HS:=kE wr.drew (by obtain⟨up,hM,hU⟩:=Tx.out;exact⟨up,hM.drew,hU⟩);have HkE:=jh kE;clear kE Tx;refine aj (λwx=>wx.cell? (A q)=some (.int .i64 u)∧wx.cell? ⟨(A q).block,(A q).off+1,none⟩=some (.int .i64 v)∧Hid (∃up,jK w1 wx b k z (yC E f k i) (uj E f k i) (stP E f k i) (gX E f k i) (wJ E f k i) up (nd E f k i)∧UL k up (bW E f i))) (by kernel_rfl) ?_;generalize wr.drew=v0 at*;refine tC 0 ?_;refine tC 1 ?_;refine tC 2 ?_;refine tC 3 ?_;refine tC 4 ?_;refine tC 5 ?_;refine tC 7 ?_;refine tC 8 ?_;refine tC 9 ?_;refine tC 10 ?_;refine tC 11 ?_;refine tC 12 ?_
          try simp only[sD]
          refine rC 6 λK hK=>?_
          ·go_simp;obtain⟨up,hM,hU⟩:=HS.2.2.out;refine(zA b.u k u up (nd E f k i) (bW E f i) _ hM.tr.ru hU (qO E f i) hu).mono ?_;rintro e w5 ⟨rfl,Kv,hR2,Xy,hI2⟩;refine hK.out _ _ (HkE.out w5 ⟨Kv,hM.zn hI2 hR2,Xy⟩) (λHS=>?_);clear hK hM hU hR2 Xy hI2
           (try simp only[sD])
           refine rC 13 λK hK=>?_;go_simp;obtain⟨up,hM,hU⟩:=HS.2.2.out;refine(zA b.u k v up (nd E f k i) (bW E f i) _ hM.tr.ru hU (qO E f i) hv2).mono ?_;rintro e w6 ⟨rfl,Kv,hR2,Xy,hI2⟩;refine hK.out _ _ (HkE.out w6 ⟨Kv,hM.zn hI2 hR2,Xy⟩) (λHS=>?_);clear hK hM hU hR2 Xy hI2;refine tC 14 ?_;refine tC 15 ?_
           try simp only[sD]
           refine dD ⟨rfl,?_⟩;go_wp2;go_meet;exact⟨rfl,rfl,HS.2.2.out⟩
         case rest=>
          clear Tx ix2 hqi;obtain⟨rfl,rfl,up,hM,hU⟩:=hcut;have F:=WU.out
          have hmU:mU E f i=bW E f i u:=by unfold mU;rw[HP.out]
          have hmV:mV E f i=bW E f i v:=by unfold mV;rw[HP.out]
          have hne:=F.ne i hif
          have hA:min (bW E f i u) (bW E f i v)=mA E f i:=by unfold mA;rw[hmU,hmV]
          have hBm:max (bW E f i u) (bW E f i v)=mB E f i:=by unfold mB;rw[hmU,hmV]
          rw[hmU,hmV] at hne;have hla:=kT E f i u;have hlb:=kT E f i v;have hab:=F.mlt hif;have hmb:=F.wU hif;have hma:=F.sF hif;have hlf:nd E f k i (mA E f i)<k+i:=lH hma;have hrg:nd E f k i (mB E f i)<k+i:=lH hmb;have Q9:nJ E f k (k+i)=nJ E f k (nd E f k i (mA E f i))+nJ E f k (nd E f k i (mB E f i)):=IY F hif;have hk0:0<k:=om;have hs1:nJ E f k (nd E f k i (mA E f i))≤k:=AJ hk0;have hs2:nJ E f k (nd E f k i (mB E f i))≤k:=AJ hk0;have hz1:wJ E f k i (nd E f k i (mA E f i))=((nJ E f k (nd E f k i (mA E f i)):Nat):Int):=if_pos hlf;have acQ:wJ E f k i (nd E f k i (mB E f i))=((nJ E f k (nd E f k i (mB E f i)):Nat):Int):=if_pos hrg;have HUn:=jh (hU.hang F hif);have eL:=λy=>OP (E:=E) (f:=f) (n:=k) (i:=i) (y:=y);have eR:=λy=>OG (E:=E) (f:=f) (n:=k) (i:=i) (y:=y);have eP:=λy=>OM (E:=E) (f:=f) (n:=k) (i:=i) (y:=y);have eH:=λy=>OT (E:=E) (f:=f) (n:=k) (i:=i) (y:=y);have eZ:=λy=>OC (E:=E) (f:=f) (n:=k) (i:=i) (y:=y);have eN:=λa=>Vb (E:=E) (f:=f) (n:=k) (i:=i) (a:=a);rw[Q9] at eZ;have cA:=jN hM.tr.ru hma;have cB:=jN hM.tr.ru hmb;have HM:=jh hM;have hyk:=Hy.out;rw[hyk] at hlf hrg eL eR eP eH eZ eN;clear hU hM F hmU hmV Q9 hyk hk0;generalize wc=v0 at*;generalize bW E f i u=p at*;generalize bW E f i v=r at*;generalize mA E f i=ma at*;generalize mB E f i=mb at*;generalize nd E f k i ma=lf at*;generalize nd E f k i mb=rg at*;generalize nJ E f k lf=z1 at*;generalize nJ E f k rg=z2 at*
          have hqe:(aR E (f.getD i 0)).w=(aR E q).w:=by rw[Hq.out]
          rw[hqe] at eH;have HeL:=jh eL;have HeR:=jh eR;have HeP:=jh eP;have HeH:=jh eH;have HeZ:=jh eZ;have HeN:=jh eN;have Hz1:=jh hz1;have Hz2:=jh acQ;have HcA:=jh cA;have HcB:=jh cB;clear eL eR eP eH eZ eN hz1 acQ cA cB hqe
          go_upto_region 23 with(fail)
          go_cut [16,17] (λs16 s17 wx=>s16=.int .i64 ma∧s17=.int .i64 mb∧wx=v0)
          case first=>
           rcases Nat.lt_or_gt_of_ne hne with h |h
           ·have h1:(p:Int)<(r:Int):=om;have Hh:=jh (And.intro hA (And.intro hBm h));clear hA hBm hne h hla hlb hab hmb hma hlf hrg;go_wp2;go_meet;obtain⟨e1,e2,e3⟩:=Hh.out;exact⟨congrArg (Value.int .i64) om,congrArg (Value.int .i64) om,rfl⟩
           ·have h1:(r:Int)<(p:Int):=om;have Hh:=jh (And.intro hA (And.intro hBm h));clear hA hBm hne h hla hlb hab hmb hma hlf hrg;go_wp2;go_meet;obtain⟨e1,e2,e3⟩:=Hh.out;exact⟨congrArg (Value.int .i64) om,congrArg (Value.int .i64) om,rfl⟩
          case rest=>
           obtain⟨rfl,rfl,rfl⟩:=hcut;clear hA hBm hne hla hlb;have ha2:(0:Int)≤ma∧(ma:Int)<k:=om;have hb3:(0:Int)≤mb∧(mb:Int)<k:=om;have hl2:(0:Int)≤lf∧(lf:Int)<z:=om;have hr2:(0:Int)≤rg∧(rg:Int)<z:=om;have hy2:(0:Int)≤y∧(y:Int)<z:=om;have hlz:lf<z:=om;have hrz:rg<z:=om;have hly:lf≠y:=om;have hry:rg≠y:=om;go_wp2_with fail;replace HM:=jh HM.out.drew;have HS:wc.drew.cell? ⟨b.u,ma*2+1,none⟩=some (.int .i64 lf)∧wc.drew.cell? ⟨b.u,mb*2+1,none⟩=some (.int .i64 rg):=⟨HcA.out,HcB.out⟩;refine aj (λw'=>w'.cell? ⟨b.u,ma*2+1,none⟩=some (.int .i64 lf)∧w'.cell? ⟨b.u,mb*2+1,none⟩=some (.int .i64 rg)) (by kernel_rfl) ?_;generalize wc.drew=v1 at*;clear HcA HcB;refine tC 0 ?_;refine tC 1 ?_;refine tC 2 ?_;refine tC 3 ?_;refine tC 4 ?_;refine tC 5 ?_;refine tC 6 ?_;refine tC 7 ?_;refine tC 8 ?_;refine tC 9 ?_;refine tC 10 ?_;refine tC 11 ?_
           try simp only[sD]
           refine dD ⟨rfl,?_⟩;clear HS;go_wp2_with fail;replace HM:=jh HM.out.drew;have HS:v1.drew.cell? ⟨b.t,1,none⟩=some (.slice (some ⟨b.l,0,none⟩) z z)∧v1.drew.cell? ⟨b.t,2,none⟩=some (.slice (some ⟨b.r,0,none⟩) z z):=⟨HM.out.tr.fields.1,HM.out.tr.fields.2.1⟩;refine aj (λw'=>w'.cell? ⟨b.t,1,none⟩=some (.slice (some ⟨b.l,0,none⟩) z z)∧w'.cell? ⟨b.t,2,none⟩=some (.slice (some ⟨b.r,0,none⟩) z z)) (by kernel_rfl) ?_;generalize v1.drew=v2 at*;refine tC 0 ?_;refine tC 1 ?_;refine tC 2 ?_;refine tC 3 ?_;refine tC 4 ?_;refine tC 5 ?_;refine tC 6 ?_;refine tC 7 ?_;refine tC 8 ?_
           try simp only[sD]
           have cs:=HM.out.tr.rl.cell hyz;have fs:=HM.out.tr.rl.frozen y;refine rC 9 λK hK=>?_;replace HM:=jh (HM.out.UA y lf);go_simp;refine hK.out _ _ ⟨HM.out.tr.fields.1,HM.out.tr.fields.2.1⟩ (λHS=>?_);clear hK cs fs;generalize v2.setCell ⟨b.l,y,none⟩ (.int .i64 lf)=v3 at*;refine tC 10 ?_
           try simp only[sD]
           have cs:=HM.out.tr.rr.cell hyz;have fs:=HM.out.tr.rr.frozen y;refine rC 11 λK hK=>?_;replace HM:=jh (HM.out.Uz y rg);go_simp;refine hK.out _ _ ⟨HM.out.tr.fields.1,HM.out.tr.fields.2.1⟩ (λHS=>?_);clear hK cs fs;generalize v3.setCell ⟨b.r,y,none⟩ (.int .i64 rg)=v4 at*;refine dD ⟨rfl,?_⟩;clear HS;go_wp2_with fail;replace HM:=jh HM.out.drew;have HS:v4.drew.cell? ⟨b.t,3,none⟩=some (.slice (some ⟨b.p,0,none⟩) z z):=HM.out.tr.fields.2.2.1;refine aj (λw'=>w'.cell? ⟨b.t,3,none⟩=some (.slice (some ⟨b.p,0,none⟩) z z)) (by kernel_rfl) ?_;generalize v4.drew=v5 at*;refine tC 0 ?_;refine tC 1 ?_;refine tC 2 ?_;refine tC 3 ?_;refine tC 4 ?_;refine tC 5 ?_;refine tC 6 ?_;refine tC 7 ?_;refine tC 8 ?_
           try simp only[sD]
           have cs:=HM.out.tr.rp.cell hlz;have fs:=HM.out.tr.rp.frozen lf;refine rC 9 λK hK=>?_;replace HM:=jh (HM.out.Pn lf y);go_simp;refine hK.out _ _ HM.out.tr.fields.2.2.1 (λHS=>?_);clear hK cs fs;generalize v5.setCell ⟨b.p,lf,none⟩ (.int .i64 y)=v6 at*;refine tC 10 ?_
           try simp only[sD]
           have cs:=HM.out.tr.rp.cell hrz;have fs:=HM.out.tr.rp.frozen rg;refine rC 11 λK hK=>?_;replace HM:=jh (HM.out.Pn rg y);go_simp;refine hK.out _ _ HM.out.tr.fields.2.2.1 (λHS=>?_);clear hK cs fs;generalize v6.setCell ⟨b.p,rg,none⟩ (.int .i64 y)=v7 at*;refine dD ⟨rfl,?_⟩;clear HS;go_wp2_with fail;have hqi:(0:Int)≤q∧(q:Int)<E.length:=om;have ix2:=HEd.out.ix q Zb;replace HM:=jh HM.out.drew;have HS:v7.drew.cell? ⟨b.t,4,none⟩=some (.slice (some ⟨b.h,0,none⟩) z z)∧v7.drew.cell? ⟨(A q).block,(A q).off+2,none⟩=some (.int .i64 (aR E q).w):=⟨HM.out.tr.fields.2.2.2.1,ES.w (HEd.out.below HM.out.dO) Zb⟩;refine aj (λw'=>w'.cell? ⟨b.t,4,none⟩=some (.slice (some ⟨b.h,0,none⟩) z z)∧w'.cell? ⟨(A q).block,(A q).off+2,none⟩=some (.int .i64 (aR E q).w)) (by kernel_rfl) ?_;generalize v7.drew=v8 at*;refine tC 0 ?_;refine tC 1 ?_;refine tC 2 ?_;refine tC 3 ?_;refine tC 4 ?_;refine tC 5 ?_;refine tC 6 ?_;refine tC 7 ?_;refine tC 8 ?_
           try simp only[sD]
           have cs:=HM.out.tr.rh.cell hyz;have fs:=HM.out.tr.rh.frozen y;refine rC 9 λK hK=>?_;replace HM:=jh (HM.out.setH y (aR E q).w);go_simp;refine hK.out _ _ ⟨HM.out.tr.fields.2.2.2.1,ES.w (HEd.out.below HM.out.dO) Zb⟩ (λHS=>?_);clear hK cs fs;generalize v8.setCell ⟨b.h,y,none⟩ (.int .i64 (aR E q).w)=v9 at*;refine dD ⟨rfl,?_⟩;clear HS;clear ix2;go_wp2_with fail;have hsum:IntKind.i64.wrap ((z1:Int)+(z2:Int))=(z1:Int)+(z2:Int):=IntWalk.i64_in _ om;replace HM:=jh HM.out.drew;have HS:v9.drew.cell? ⟨b.t,5,none⟩=some (.slice (some ⟨b.s,0,none⟩) z z)∧v9.drew.cell? ⟨b.s,lf,none⟩=some (.int .i64 z1)∧v9.drew.cell? ⟨b.s,rg,none⟩=some (.int .i64 z2):=⟨HM.out.tr.fields.2.2.2.2,(HM.out.cellS hlz).trans (by rw[Hz1.out]),(HM.out.cellS hrz).trans (by rw[Hz2.out])⟩;refine aj (λw'=>w'.cell? ⟨b.t,5,none⟩=some (.slice (some ⟨b.s,0,none⟩) z z)∧w'.cell? ⟨b.s,lf,none⟩=some (.int .i64 z1)∧w'.cell? ⟨b.s,rg,none⟩=some (.int .i64 z2)) (by kernel_rfl) ?_;generalize v9.drew=va at*;refine tC 0 ?_;refine tC 1 ?_;refine tC 2 ?_;refine tC 3 ?_;refine tC 4 ?_;refine tC 5 ?_;refine tC 6 ?_;refine tC 7 ?_;refine tC 8 ?_;refine tC 9 ?_;refine tC 10 ?_;refine tC 11 ?_;refine tC 12 ?_;refine tC 13 ?_;refine tC 14 ?_
           try simp only[sD]
           have cs:=HM.out.tr.rs.cell hyz;have fs:=HM.out.tr.rs.frozen y;refine rC 15 λK hK=>?_;replace HM:=jh (HM.out.Uy y ((z1:Int)+(z2:Int)));go_simp;refine hK.out _ _ ⟨HM.out.tr.fields.2.2.2.2,(HM.out.cellS hlz).trans (by rw[IJ hly,Hz1.out]),(HM.out.cellS hrz).trans (by rw[IJ hry,Hz2.out])⟩ (λHS=>?_);clear hK cs fs;generalize va.setCell ⟨b.s,y,none⟩ (.int .i64 ((z1:Int)+(z2:Int)))=vb at*;refine dD ⟨rfl,?_⟩;clear HS;clear hsum;go_wp2_with fail;replace HM:=jh HM.out.drew;have HS:True:=trivial;refine aj (λw'=>True) (by kernel_rfl) ?_;generalize vb.drew=vc at*;refine tC 0 ?_;refine tC 1 ?_;refine tC 2 ?_;refine tC 3 ?_;refine tC 4 ?_;refine tC 5 ?_;refine tC 6 ?_;refine tC 7 ?_;refine tC 9 ?_
           try simp only[sD]
           have cs:=lD HM.out.tr.ru hmb;have fs:=HM.out.tr.ru.frozen (mb*2);refine rC 8 λK hK=>?_;replace HM:=jh (HM.out.rG mb ma);go_simp;refine hK.out _ _ trivial (λHS=>?_);clear hK cs fs;generalize vc.setCell ⟨b.u,mb*2,none⟩ (.int .i64 ma)=vd at*;refine tC 10 ?_
           try simp only[sD]
           have cs:=jN HM.out.tr.ru hma;have fs:=HM.out.tr.ru.frozen (ma*2+1);refine rC 11 λK hK=>?_;replace HM:=jh (HM.out.I5 ma y);go_simp;refine hK.out _ _ trivial (λHS=>?_);clear hK cs fs;generalize vd.setCell ⟨b.u,ma*2+1,none⟩ (.int .i64 y)=ve at*;refine dD ⟨rfl,?_⟩;clear HS
           have Tx:=jh (show ∃up,jK w1 ve b k z (yC E f k (i+1)) (uj E f k (i+1)) (stP E f k (i+1)) (gX E f k (i+1)) (wJ E f k (i+1)) up (nd E f k (i+1))∧UL k up (bW E f (i+1)) from
            ⟨_,(HM.out.congr (L':=yC E f k (i+1)) (R':=uj E f k (i+1)) (P':=stP E f k (i+1)) (H':=gX E f k (i+1)) (Z':=wJ E f k (i+1)) (λj _=>HeL.out j) (λj _=>HeR.out j) (λj _=>HeP.out j) (λj _=>HeH.out j) (λj _=>by rw[←HeZ.out j,Int.natCast_add];rfl)).BK (λ_ _=>rfl) (λj _=>HeN.out j),HUn.out⟩)
           clear HM;go_wp2;go_roundw
           case rel=>exact⟨i+1,om,by go_num,Tx⟩
           case measure=>simp only[intOf];omega
        ·obtain rfl:m=i:=om;obtain⟨up,hM,_⟩:=Tx.out;have hsl:=aeI.out;have hZ3:=HZ.out.below hM.dO hsl;have hB3:=HB.out.trans (hM.dO.mono (Nat.le_of_lt hsl));have t0:wr.cell? ⟨b.t,0,none⟩=some (.int .i64 k):=hM.tr.st.c 0;obtain⟨t1,t2,t3,t4,t5⟩:=hM.tr.fields;have z0:=hZ3.c 0;have z1:=hZ3.c 1;have z2:=hZ3.c 2;have z3:=hZ3.c 3;have z4:=hZ3.c 4;have z5:=hZ3.c 5;have fz:=λi=>hZ3.frozen i;have hset:=fun(g:Nat) (F:Nat→Value) (hg:w.heap.size≠g) (hr:Row wr g z F)=>((((((hr.setOther (a:=⟨w.heap.size,0,none⟩) hg.symm (.int .i64 k)).setOther (a:=⟨w.heap.size,1,none⟩) hg.symm (.slice (some ⟨b.l,0,none⟩) z z)).setOther (a:=⟨w.heap.size,2,none⟩) hg.symm (.slice (some ⟨b.r,0,none⟩) z z)).setOther (a:=⟨w.heap.size,3,none⟩) hg.symm (.slice (some ⟨b.p,0,none⟩) z z)).setOther (a:=⟨w.heap.size,4,none⟩) hg.symm (.slice (some ⟨b.h,0,none⟩) z z)).setOther (a:=⟨w.heap.size,5,none⟩) hg.symm (.slice (some ⟨b.s,0,none⟩) z z));have H3:=jh ((((((hZ3.set 0 (.int .i64 k)).set 1 (.slice (some ⟨b.l,0,none⟩) z z)).set 2 (.slice (some ⟨b.r,0,none⟩) z z)).set 3 (.slice (some ⟨b.p,0,none⟩) z z)).set 4 (.slice (some ⟨b.h,0,none⟩) z z)).set 5 (.slice (some ⟨b.s,0,none⟩) z z));have HB3:=jh ((((((hB3.setCell (p:=⟨w.heap.size,0,none⟩) (Nat.le_refl _) (.int .i64 k)).setCell (p:=⟨w.heap.size,1,none⟩) (Nat.le_refl _) (.slice (some ⟨b.l,0,none⟩) z z)).setCell (p:=⟨w.heap.size,2,none⟩) (Nat.le_refl _) (.slice (some ⟨b.r,0,none⟩) z z)).setCell (p:=⟨w.heap.size,3,none⟩) (Nat.le_refl _) (.slice (some ⟨b.p,0,none⟩) z z)).setCell (p:=⟨w.heap.size,4,none⟩) (Nat.le_refl _) (.slice (some ⟨b.h,0,none⟩) z z)).setCell (p:=⟨w.heap.size,5,none⟩) (Nat.le_refl _) (.slice (some ⟨b.s,0,none⟩) z z));have lo:=λg hg=>hM.lo g hg;have nl:w.heap.size≠b.l:=oC (lo b.l (by simp[fF.list]));have nr:w.heap.size≠b.r:=oC (lo b.r (by simp[fF.list]));have np:w.heap.size≠b.p:=oC (lo b.p (by simp[fF.list]));have nh:w.heap.size≠b.h:=oC (lo b.h (by simp[fF.list]));have ns:w.heap.size≠b.s:=oC (lo b.s (by simp[fF.list]));have HLo:=jh (show w.heap.size≤b.l∧w.heap.size≤b.r∧w.heap.size≤b.p∧w.heap.size≤b.h∧w.heap.size≤b.s from⟨oC (lo b.l (by simp[fF.list])),oC (lo b.r (by simp[fF.list])),oC (lo b.p (by simp[fF.list])),oC (lo b.h (by simp[fF.list])),oC (lo b.s (by simp[fF.list]))⟩);have HR:=jh (And.intro (hset _ _ nl hM.tr.rl) (And.intro (hset _ _ nr hM.tr.rr) (And.intro (hset _ _ np hM.tr.rp) (And.intro (hset _ _ nh hM.tr.rh) (hset _ _ ns hM.tr.rs)))));clear hM hZ3 hB3 hset lo nl nr np nh ns Tx HM;go_wp2_with fail;generalize (((((wr.setCell ⟨w.heap.size,0,none⟩ (.int .i64 k)).setCell ⟨w.heap.size,1,none⟩ (.slice (some ⟨b.l,0,none⟩) z z)).setCell ⟨w.heap.size,2,none⟩ (.slice (some ⟨b.r,0,none⟩) z z)).setCell ⟨w.heap.size,3,none⟩ (.slice (some ⟨b.p,0,none⟩) z z)).setCell ⟨w.heap.size,4,none⟩ (.slice (some ⟨b.h,0,none⟩) z z)).setCell ⟨w.heap.size,5,none⟩ (.slice (some ⟨b.s,0,none⟩) z z)=wz at*;have s0:=H3.out.c 0;have s1:=H3.out.c 1;have s2:=H3.out.c 2;have s3:=H3.out.c 3;have s4:=H3.out.c 4;have s5:=H3.out.c 5;refine bodyPost_ret (v:=.tuple #[.agg (lW k z b),.int .i64 0]) (by simp[results,Tryz.results109,go_sem,s0,s1,s2,s3,s4,s5,lW]) rfl ?_;obtain⟨r1,r2,r3,r4,r5⟩:=HR.out;have ah4:=Hfm.out;rw[←ah4] at r1 r2 r3 r4 r5;have hfz:=Hz.out;exact⟨HB3.out,.inr ⟨k,o,b,z,rfl,HG.out,HO.out,rfl,by rw[Hf.out];exact⟨WU.out,hkn,om,⟨r1.lt,r2.lt,r3.lt,r4.lt,r5.lt⟩,r1,r2,r3,r4,r5⟩,HLo.out⟩⟩
section
variable {w w':World} {B B' n z x i:Nat} {b:fF} {E:List Ed} {f:List Nat}
theorem qC (w:World) (n z:Nat) (b:fF) (t:TypeId):Row (w.alloc (.cells (lW n z b) t)) w.heap.size 6 (trC n z b):=
 Row.lit w _ _ (by simp[lW]) λi hi=>by
  match i,hi with
  |0,_=>rfl
  |1,_=>rfl
  |2,_=>rfl
  |3,_=>rfl
  |4,_=>rfl
  |5,_=>rfl
  |k+6,h=>omega
def cO (w:World) (g n z:Nat) (b:fF):Prop:=Row w g 6 (trC n z b)
theorem cO.c0 (h:cO w i n z b):w.cell? ⟨i,0,none⟩=some (.int .i64 (n:Nat)):=Row.cell h (i:=0) om
theorem cO.c1 (h:cO w i n z b):w.cell? ⟨i,1,none⟩=some (.slice (some ⟨b.l,0,none⟩) z z):=Row.cell h (i:=1) om
theorem cO.c2 (h:cO w i n z b):w.cell? ⟨i,2,none⟩=some (.slice (some ⟨b.r,0,none⟩) z z):=Row.cell h (i:=2) om
theorem cO.c3 (h:cO w i n z b):w.cell? ⟨i,3,none⟩=some (.slice (some ⟨b.p,0,none⟩) z z):=Row.cell h (i:=3) om
theorem cO.c4 (h:cO w i n z b):w.cell? ⟨i,4,none⟩=some (.slice (some ⟨b.h,0,none⟩) z z):=Row.cell h (i:=4) om
theorem cO.c5 (h:cO w i n z b):w.cell? ⟨i,5,none⟩=some (.slice (some ⟨b.s,0,none⟩) z z):=Row.cell h (i:=5) om
theorem OQ (h:x<n):yC E f n i x=-1:=by unfold yC;rw[if_neg om]
theorem OH (h:x<n):uj E f n i x=-1:=by unfold uj;rw[if_neg om]
theorem OU (h:x<n):gX E f n i x=0:=by unfold gX;rw[if_neg om]
theorem OD (h:x<n):wJ E f n i x=1:=by unfold wJ;rw[if_pos om,wI h];rfl
theorem FE {j:Nat} (h:j<i):yC E f n i (n+j)=((nd E f n j (mA E f j):Nat):Int):=by unfold yC;rw[if_pos om,Nat.add_sub_cancel_left]
theorem OJ {j:Nat} (h:j<i):uj E f n i (n+j)=((nd E f n j (mB E f j):Nat):Int):=by unfold uj;rw[if_pos om,Nat.add_sub_cancel_left]
theorem OV {j:Nat} (h:j<i):gX E f n i (n+j)=(aR E (f.getD j 0)).w:=by unfold gX;rw[if_pos om,Nat.add_sub_cancel_left]
theorem AL (h:x<n+i):wJ E f n i x=((nJ E f n x:Nat):Int):=if_pos h
end
theorem QG (B n z x:Nat) (b:fF) (E:List Ed) (f:List Nat) (w:World) (h:iF w B n z b E f) (hB:B≤w.heap.size) (hx:x<n):
  Calls Tryz.prog 199 #[.agg (lW n z b),.int .i64 (x:Nat)] w λe w'=>e=.returned (.bool true)∧Below w.heap.size w w':=by
 have hA:Below w.heap.size w (w.alloc (.cells (lW n z b) 74)):=(Below.refl _ _).alloc (Nat.le_refl _) _;have hT:cO (w.alloc (.cells (lW n z b) 74)) w.heap.size n z b:=qC w n z b _;have h1:=(h.mono hB).below hA;obtain⟨tv,Gu⟩:=nE (lW n z b);rw[Gu] at hA hT h1⊢;clear Gu;have hz:x<z:=oC h.pU;have hxi:(0:Int)≤x∧(x:Int)<z:=om;have HA:=jh hA;clear h hA;go_in
 go_upto_region 1 with(fail)
 generalize w.alloc (.cells tv 74)=wa at*;have c1:=hT.c1;have c2:=hT.c2;have c4:=hT.c4;have c5:=hT.c5
 have r1:wa.cell? ⟨b.l,x,none⟩=some (.int .i64 (-1)):=by rw[h1.rl.cell hz];unfold dJ;rw[OQ hx]
 have r2:wa.cell? ⟨b.r,x,none⟩=some (.int .i64 (-1)):=by rw[h1.rr.cell hz];unfold dJ;rw[OH hx]
 have r4:wa.cell? ⟨b.h,x,none⟩=some (.int .i64 0):=by rw[h1.rh.cell hz];unfold dJ;rw[OU hx]
 have r5:wa.cell? ⟨b.s,x,none⟩=some (.int .i64 1):=by rw[h1.rs.cell hz];unfold dJ;rw[OD hx]
 clear h1 hT;go_wp2;go_ret;exact⟨rfl,HA.out⟩
theorem Nh (B n z x:Nat) (b:fF) (E:List Ed) (f:List Nat) (w:World) (h:iF w B n z b E f) (hB:B≤w.heap.size) (hx:x<z):
  Calls Tryz.prog 203 #[.agg (lW n z b),.int .i64 (x:Nat)] w λe w'=>e=.returned (.bool true)∧Below w.heap.size w w':=by
 have hA:Below w.heap.size w (w.alloc (.cells (lW n z b) 74)):=(Below.refl _ _).alloc (Nat.le_refl _) _;have hT:cO (w.alloc (.cells (lW n z b) 74)) w.heap.size n z b:=qC w n z b _;have h1:=(h.mono hB).below hA;obtain⟨tv,Gu⟩:=nE (lW n z b);rw[Gu] at hA hT h1⊢;clear Gu;have hxi:(0:Int)≤x∧(x:Int)<z:=om;have HA:=jh hA;have F:=h.fo;have yQ:=h.pU;have hnl:=h.qK;clear h hA;go_in
 go_upto_region 1 with(fail)
 generalize w.alloc (.cells tv 74)=wa at*;have c1:=hT.c1;have c2:=hT.c2;have c3:=hT.c3;have r3:wa.cell? ⟨b.p,x,none⟩=some (.int .i64 (pvI n (pk E f n f.length x))):=h1.rp.cell hx
 cases hp:pk E f n f.length x with
 |none=>
  rw[hp] at r3;replace r3:wa.cell? ⟨b.p,x,none⟩=some (.int .i64 (-1)):=r3;clear h1 hT hp F yQ;go_wp2;go_ret;exact⟨rfl,HA.out⟩
 |some i=>
  rw[hp] at r3;have hil:=uX hp;have hn:=vV hp;obtain⟨y,hy⟩:=nE (n+i)
  replace r3:wa.cell? ⟨b.p,x,none⟩=some (.int .i64 y):=by rw[←hy];exact r3
  have hyz:y<z:=om
  have r1:wa.cell? ⟨b.l,y,none⟩=some (.int .i64 (nd E f n i (mA E f i):Nat)):=by rw[h1.rl.cell hyz,←hy];unfold dJ;rw[FE hil]
  have r2:wa.cell? ⟨b.r,y,none⟩=some (.int .i64 (nd E f n i (mB E f i):Nat)):=by rw[h1.rr.cell hyz,←hy];unfold dJ;rw[OJ hil]
  have hyi:(0:Int)≤y∧(y:Int)<z:=om;have hy1:((y:Int)==-1)=false:=sj;have hy2:decide ((0:Int)≤y)=true:=dP om;have hy3:decide ((y:Int)<z)=true:=dP om;have hy4:decide (y<z)=true:=dP hyz
  by_cases e:nd E f n i (mA E f i)=x
  ·have he:((nd E f n i (mA E f i):Nat):Int)==(x:Int):=by simp[e]
   have he:(((nd E f n i (mA E f i):Nat):Int)==(x:Int))=true:=he;generalize nd E f n i (mA E f i)=lf at*;generalize nd E f n i (mB E f i)=rg at*
   have he2:(lf==x)=true:=by simp[e]
   clear h1 hT hp F yQ hy hn e;go_wp2;go_ret;exact⟨rfl,HA.out⟩
  ·have e2:nd E f n i (mB E f i)=x:=by
    rcases hn with h |h
    ·exact h.symm
    ·exact absurd h.symm e
   generalize nd E f n i (mA E f i)=lf at*;generalize nd E f n i (mB E f i)=rg at*
   have he:((lf:Int)==(x:Int))=false:=by simp;omega
   have he2:(lf==x)=false:=by simp[e]
   have he3:((rg:Int)==(x:Int))=true:=by simp[e2]
   have he4:(rg==x)=true:=by simp[e2]
   clear h1 hT hp F yQ hy hn e e2;go_wp2;go_ret;exact⟨rfl,HA.out⟩
theorem LY (B n z i y g:Nat) (b:fF) (E:List Ed) (f:List Nat) (w:World) (h:iF w B n z b E f) (hB:B≤w.heap.size) (hi:i<f.length) (hy:n+i=y) (hs:∀j<i,(aR E (f.getD j 0)).w≤(aR E (f.getD i 0)).w)
  (hg:g<w.heap.size) (hl:w.cell? ⟨g,nd E f n i (mA E f i),none⟩=some (.int .i64 (mA E f i:Nat))) (hr:w.cell? ⟨g,nd E f n i (mB E f i),none⟩=some (.int .i64 (mB E f i:Nat))):
  Calls Tryz.prog 201 #[.agg (lW n z b),.slice (some ⟨g,0,none⟩) z z,.int .i64 (y:Nat)] w λe w'=>e=.returned (.bool true)∧Below w.heap.size w w':=by
 have hA:Below w.heap.size w (w.alloc (.cells (lW n z b) 74)):=(Below.refl _ _).alloc (Nat.le_refl _) _;have hT:cO (w.alloc (.cells (lW n z b) 74)) w.heap.size n z b:=qC w n z b _;have h1:=(h.mono hB).below hA;have hl:=(hA.cell (p:=⟨g,nd E f n i (mA E f i),none⟩) hg).trans hl;have hr:=(hA.cell (p:=⟨g,nd E f n i (mB E f i),none⟩) hg).trans hr;obtain⟨tv,Gu⟩:=nE (lW n z b);rw[Gu] at hA hT h1 hl hr⊢;clear Gu;have HA:=jh hA;have F:=h.fo;have yQ:=h.pU;have hz8:=h.Um;have hnl:=h.qK;have hab:=F.mlt hi;have hlf:nd E f n i (mA E f i)<n+i:=lH (F.sF hi);have hrg:nd E f n i (mB E f i)<n+i:=lH (F.wU hi);have hlr:nd E f n i (mA E f i)≠nd E f n i (mB E f i):=λe=>oC (Bc (F.sF hi) (F.wU hi) e);have hp1:pk E f n f.length (nd E f n i (mA E f i))=some i:=PL F (Nat.le_refl _) hi (.inr rfl);have hp2:pk E f n f.length (nd E f n i (mB E f i))=some i:=PL F (Nat.le_refl _) hi (.inl rfl)
 have Q9:nJ E f n y=nJ E f n (nd E f n i (mA E f i))+nJ E f n (nd E f n i (mB E f i)):=by rw[←hy];exact IY F hi
 have hn0:0<n:=oC (F.sF hi);have hs1:nJ E f n (nd E f n i (mA E f i))≤n:=AJ hn0;have hs2:nJ E f n (nd E f n i (mB E f i))≤n:=AJ hn0;have hyz:y<z:=om;have e1:wJ E f n f.length (nd E f n i (mA E f i))=((nJ E f n (nd E f n i (mA E f i)):Nat):Int):=AL om;have e2:wJ E f n f.length (nd E f n i (mB E f i))=((nJ E f n (nd E f n i (mB E f i)):Nat):Int):=AL om;have e3:wJ E f n f.length y=((nJ E f n y:Nat):Int):=AL om
 have r1:(w.alloc (.cells tv 74)).cell? ⟨b.l,y,none⟩=some (.int .i64 (nd E f n i (mA E f i):Nat)):=by rw[h1.rl.cell hyz,←hy];unfold dJ;rw[FE hi]
 have r2:(w.alloc (.cells tv 74)).cell? ⟨b.r,y,none⟩=some (.int .i64 (nd E f n i (mB E f i):Nat)):=by rw[h1.rr.cell hyz,←hy];unfold dJ;rw[OJ hi]
 have r3:(w.alloc (.cells tv 74)).cell? ⟨b.p,nd E f n i (mA E f i),none⟩=some (.int .i64 y):=by
  rw[h1.rp.cell om,←hy];unfold dJ stP;rw[hp1];rfl
 have r4:(w.alloc (.cells tv 74)).cell? ⟨b.p,nd E f n i (mB E f i),none⟩=some (.int .i64 y):=by
  rw[h1.rp.cell om,←hy];unfold dJ stP;rw[hp2];rfl
 have r5:(w.alloc (.cells tv 74)).cell? ⟨b.s,y,none⟩=some (.int .i64 ((nJ E f n (nd E f n i (mA E f i)):Nat)+(nJ E f n (nd E f n i (mB E f i)):Nat):Int)):=by
  rw[h1.rs.cell hyz];unfold dJ;rw[e3,Q9,Int.natCast_add]
 have r6:(w.alloc (.cells tv 74)).cell? ⟨b.s,nd E f n i (mA E f i),none⟩=some (.int .i64 (nJ E f n (nd E f n i (mA E f i)):Nat)):=by
  rw[h1.rs.cell om];unfold dJ;rw[e1]
 have r7:(w.alloc (.cells tv 74)).cell? ⟨b.s,nd E f n i (mB E f i),none⟩=some (.int .i64 (nJ E f n (nd E f n i (mB E f i)):Nat)):=by
  rw[h1.rs.cell om];unfold dJ;rw[e2]
 have r8:(w.alloc (.cells tv 74)).cell? ⟨b.h,y,none⟩=some (.int .i64 (aR E (f.getD i 0)).w):=by rw[h1.rh.cell hyz,←hy];unfold dJ;rw[OV hi]
 have r9:0<i→(w.alloc (.cells tv 74)).cell? ⟨b.h,y-1,none⟩=some (.int .i64 (aR E (f.getD (i-1) 0)).w):=λh0=>by
  rw[h1.rh.cell om,show y-1=n+(i-1) by omega];unfold dJ;rw[OV om]
 have Y8:0<i→(aR E (f.getD (i-1) 0)).w≤(aR E (f.getD i 0)).w:=λh0=>hs (i-1) om;clear h h1 hp1 hp2 F e1 e2 e3 Q9 hA hs yQ;generalize nd E f n i (mA E f i)=lf at*;generalize nd E f n i (mB E f i)=rg at*;generalize mA E f i=ma at*;generalize mB E f i=mb at*;generalize nJ E f n lf=z1 at*;generalize nJ E f n rg=z2 at*;generalize (aR E (f.getD i 0)).w=h8 at*;generalize (aR E (f.getD (i-1) 0)).w=h9 at*;have R:=jh (And.intro r3 (And.intro r4 (And.intro hl hr)));have R2:=jh (And.intro r5 (And.intro r6 r7));have R3:=jh (And.intro r8 (And.intro r9 Y8));have HT:=jh hT;clear r3 r4 hl hr r5 r6 r7 r8 r9 Y8 hT;have c1:=HT.out.c1;have c2:=HT.out.c2;have hyi:(0:Int)≤y∧(y:Int)<z:=om;go_in
 go_upto_region 1 with(fail)
 generalize w.alloc (.cells tv 74)=wa at*
 go_quiet (fail)
 have b1:(0:Int)≤lf∧(lf:Int)<z:=om;have b2:(0:Int)≤rg∧(rg:Int)<z:=om;have d1:decide ((lf:Int)<0)=false:=dF om;have d2:decide ((rg:Int)<0)=false:=dF om;have d3:decide ((y:Int)≤lf)=false:=dF om;have d4:decide ((y:Int)≤rg)=false:=dF om;have d5:decide (y≤lf)=false:=dF om;have d6:decide (y≤rg)=false:=dF om
 have d7:((lf:Int)==(rg:Int))=false:=by simp;omega
 have d8:(lf==rg)=false:=by simp;exact hlr
 clear r1 r2;obtain⟨W2,hW2⟩:=nE (wa.drewN nq);rw[hW2];have HA:=jh (show Below w.heap.size w W2 by rw[←hW2];exact below_drewN HA.out nq);have HT:=jh (show cO W2 w.heap.size n z b by rw[←hW2];exact Row.drewN HT.out nq)
 have R:=jh (show _∧_∧_∧_ from by
  have r:=R.out
  exact(show W2.cell? ⟨b.p,lf,none⟩=some (.int .i64 y)∧W2.cell? ⟨b.p,rg,none⟩=some (.int .i64 y)∧W2.cell? ⟨g,lf,none⟩=some (.int .i64 ma)∧W2.cell? ⟨g,rg,none⟩=some (.int .i64 mb) by rw[←hW2];exact r))
 have R2:=jh (show W2.cell? ⟨b.s,y,none⟩=some (.int .i64 (z1+(z2:Nat):Int))∧W2.cell? ⟨b.s,lf,none⟩=some (.int .i64 z1)∧W2.cell? ⟨b.s,rg,none⟩=some (.int .i64 z2) by rw[←hW2];exact R2.out);have R3:=jh (show W2.cell? ⟨b.h,y,none⟩=some (.int .i64 h8)∧(0<i→W2.cell? ⟨b.h,y-1,none⟩=some (.int .i64 h9))∧(0<i→h9≤h8) by rw[←hW2];exact R3.out);clear hW2 c1 c2;go_wp2_with fail;obtain⟨r3,r4,hl,hr⟩:=R.out;have c3:=HT.out.c3;have m1:decide ((mb:Int)≤ma)=false:=dF om;have m2:decide (mb≤ma)=false:=dF om;have m3:((y:Int) !=(y:Int))=false:=sj
 go_quiet (fail)
 clear r3 r4 hl hr c3 R;generalize hW3:W2.drewN _=W3;have HA:=jh (show Below w.heap.size w W3 by rw[←hW3];exact below_drewN HA.out _);have HT:=jh (show cO W3 w.heap.size n z b by rw[←hW3];exact Row.drewN HT.out _);have R2:=jh (show W3.cell? ⟨b.s,y,none⟩=some (.int .i64 (z1+(z2:Nat):Int))∧W3.cell? ⟨b.s,lf,none⟩=some (.int .i64 z1)∧W3.cell? ⟨b.s,rg,none⟩=some (.int .i64 z2) by rw[←hW3];exact R2.out);have R3:=jh (show W3.cell? ⟨b.h,y,none⟩=some (.int .i64 h8)∧(0<i→W3.cell? ⟨b.h,y-1,none⟩=some (.int .i64 h9))∧(0<i→h9≤h8) by rw[←hW3];exact R3.out);clear hW3;go_wp2_with fail;obtain⟨r5,r6,r7⟩:=R2.out;have c5:=HT.out.c5;have hsum:IntKind.i64.wrap ((z1:Int)+(z2:Int))=(z1:Int)+(z2:Int):=IntWalk.i64_in _ om;have m4:(((z1:Int)+(z2:Int)) !=((z1:Int)+(z2:Int)))=false:=sj
 go_quiet (fail)
 clear r5 r6 r7 c5 R2 hsum m4;generalize gT:W3.drewN _=W4;have HA:=jh (show Below w.heap.size w W4 by rw[←gT];exact below_drewN HA.out _);have HT:=jh (show cO W4 w.heap.size n z b by rw[←gT];exact Row.drewN HT.out _);have R3:=jh (show W4.cell? ⟨b.h,y,none⟩=some (.int .i64 h8)∧(0<i→W4.cell? ⟨b.h,y-1,none⟩=some (.int .i64 h9))∧(0<i→h9≤h8) by rw[←gT];exact R3.out);clear gT;go_wp2_with fail;have c0:=HT.out.c0;have c4:=HT.out.c4
 by_cases h0:0<i
 ·obtain⟨r8,r9,hw⟩:=R3.out;have r9:=r9 h0;have hw:=hw h0;obtain⟨x,hx⟩:∃x,x+1=y:=⟨y-1,om⟩;rw[show y-1=x by omega] at r9
  have k1:((y:Int)==(n:Int))=false:=by simp;omega
  have k2:(y==n)=false:=by simp;omega
  have k3:(y:Int)-1=(x:Int):=om
  have k4:IntKind.i64.wrap ((y:Int)-1)=(x:Int):=by rw[k3];exact IntWalk.i64_in _ om
  have k5:(0:Int)≤x∧(x:Int)<z:=om;have k6:decide (h9≤h8)=true:=dP hw;clear hx hw R3 h0
  go_quiet (fail)
  go_wp2;go_ret;exact⟨rfl,below_drewN HA.out _⟩
 ·have k1:((y:Int)==(n:Int))=true:=by simp;omega
  have k2:(y==n)=true:=by simp;omega
  clear R3
  go_quiet (fail)
  go_wp2;go_ret;exact⟨rfl,below_drewN HA.out _⟩
end Go.Proofs.YtpaeogglppampaaGreatDoor
