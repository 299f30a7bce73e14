/- Lemmas of the proof. Conditions: as each one states. -/
import Derived.Test.YtpaeogglppampaaGreatDoorQr
import Derived.Test.YtpaeogglppampaaGreatDoorQC
import Derived.Deep.MidRow
set_option maxRecDepth 100000
set_option maxHeartbeats 16000000
namespace Go.Proofs.YtpaeogglppampaaGreatDoor
open Go.RowKit
section
variable {w w':World} {F:bD} {E V N bg ln:Nat} {la:Int} {lv:Value} {c:Nat→Nat→Value} {U:List Nat} {ids:List Int} {TU:List Nat} {inc:Int→List Nat} {cp:Int→Nat} {M:Int→Option Value}
def sM (F:bD) (inc:Int→List Nat) (cp:Int→Nat) (x:Int):Value:=open Classical in if x∈F.ks then .slice (some ⟨F.ib x,0,none⟩) (inc x).length (cp x) else .slice none 0 0
theorem eD.Q0 (h:eD w F E V N bg la lv ln c U ids TU inc cp M) (x:Int):w.ownsRow 0 3 1 (sM F inc cp x) (inc x).length ((bH (inc x)).map (Value.int .i64)):=by
 unfold sM
 by_cases hx:x∈F.ks
 ·rw[if_pos hx];exact h.ic.ow x hx
 ·have:inc x=[]:=Decidable.byContradiction λe=>hx ((h.ic.ne x).2 e);rw[if_neg hx,this];exact World.ownsRow_nil _ _ _ _
theorem eD.acN (h:eD w F E V N bg la lv ln c U ids TU inc cp M) (x:Int):(M x).getD (.slice none 0 0)=sM F inc cp x:=by
 unfold sM;rw[h.ic.at_ x]
 by_cases hx:x∈F.ks
 ·rw[if_pos hx,if_pos hx];rfl
 ·rw[if_neg hx,if_neg hx];rfl
theorem mE {F:bD} {x:Int} {g:Nat} (hg:(sM F inc cp x).ownBlock=some g):x∈F.ks∧g=F.ib x:=by
 unfold sM at hg
 by_cases hx:x∈F.ks
 ·rw[if_pos hx] at hg;exact⟨hx,by simpa [Value.ownBlock] using hg.symm⟩
 ·rw[if_neg hx] at hg;simp[Value.ownBlock] at hg
def bD.dQ (F:bD) (x:Int) (g:Nat):bD:=open Classical in { F with ks:=if x∈F.ks then F.ks else x::F.ks,ib:=λy=>if y=x then g else F.ib y }
theorem bD.iE {F:bD} {x y:Int} {g:Nat}:y∈(F.dQ x g).ks↔y=x∨y∈F.ks:=by
 unfold bD.dQ
 by_cases hx:x∈F.ks
 ·simp only[if_pos hx];exact⟨.inr,λh=>h.elim (λe=>e▸hx) id⟩
 ·simp only[if_neg hx,List.mem_cons]
theorem eD.app (h:eD w F E V N bg la lv ln c U ids TU inc cp M) {x:Int} {g:Nat} {w1:World} (hg:w.grownBy w1 (sM F inc cp x).ownBlock) (hm:Moved w (sM F inc cp x) g) (hgl:g<w1.heap.size):
  Bo (F.aP 5) ((F.dQ x g).aP 5) w w1∧eO w1 25 .u64 F.mb M:=by
 have bo:Bo (F.aP 5) ((F.dQ x g).aP 5) w w1:=by
  refine⟨⟨hg.os,hg.tape,hg.output,hg.size,λj hj hn=>hg.block j hj λe=>hn ?_⟩,λj hj=>?_⟩
  ·obtain⟨h1,rfl⟩:=mE e.symm;exact List.mem_map.2 ⟨x,h1,rfl⟩
  ·obtain⟨y,hy,rfl⟩:=List.mem_map.1 hj
   by_cases c:y=x
   ·have e:(F.dQ x g).ib y=g:=if_pos c;rw[e]
    rcases hm with h1 |h1
    ·obtain⟨h2,rfl⟩:=mE h1;exact .inl (List.mem_map.2 ⟨x,h2,rfl⟩)
    ·exact .inr h1
   ·have e:(F.dQ x g).ib y=F.ib y:=if_neg c;rw[e];exact .inl (List.mem_map.2 ⟨y,(bD.iE.1 hy).resolve_left c,rfl⟩)
 exact⟨bo,h.ic.mp.keep ((h.rest (i:=5) bo).2 4 om _ (by simp[bD.aP]))⟩
theorem eD.aap (h:eD w F E V N bg la lv ln c U ids TU inc cp M) {x:Int} {k g cap:Nat} {w1 w2:World} (ow:w1.ownsRow 0 3 1 (.slice (some ⟨g,0,none⟩) ((inc x).length+1:Nat) cap) ((inc x).length+1) ((bH (inc x)).map (Value.int .i64)++[.int .i64 (k:Nat)])) (hg:w.grownBy w1 (sM F inc cp x).ownBlock) (hm:Moved w (sM F inc cp x) g)
  (mp:eO w2 25 .u64 F.mb (fG M x (some (.slice (some ⟨g,0,none⟩) ((inc x).length+1:Nat) cap)))) (bm:Bo [F.mb] [F.mb] w1 w2):
  eD w2 (F.dQ x g) E V N bg la lv ln c U ids TU (λy=>if y=x then inc x++[k] else inc y) (λy=>if y=x then cap else cp y) (fG M x (some (.slice (some ⟨g,0,none⟩) ((inc x).length+1:Nat) cap)))∧Bo F.bl (F.dQ x g).bl w w2:=by
 have hgl:g<w1.heap.size:=aN ow rfl;obtain⟨bo,_⟩:=h.app hg hm hgl;obtain⟨h1,h2⟩:=h.rest (i:=5) bo
 have hgg:(F.dQ x g).aP=gW F.aP 5 ((F.dQ x g).aP 5):=by
  funext j;unfold gW
  match j with
  |0 |1 |2 |3 |4 |5 |n+6=>rfl
 have tT:∀i,∀y∈(F.dQ x g).aP i,y<w1.heap.size:=λi y hy=>by
  by_cases c:i=5
  ·subst c;obtain⟨z,hz,rfl⟩:=List.mem_map.1 hy
   by_cases cz:z=x
   ·have e:(F.dQ x g).ib z=g:=if_pos cz;rw[e];exact hgl
   ·have e:(F.dQ x g).ib z=F.ib z:=if_neg cz;rw[e];have:=h.tT 5 _ (List.mem_map.2 ⟨z,(bD.iE.1 hz).resolve_left cz,rfl⟩);have:=hg.size;omega
  ·rw[hgg] at hy;unfold gW at hy;rw[if_neg c] at hy;have:=h.tT i y hy;have:=hg.size;omega
 have sep1:Sep (F.dQ x g).aP:=by rw[hgg];exact h1
 obtain⟨_,h4⟩:=sep1.turn (i:=4) tT bm;have kp:∀j,j≠4→j≠5→∀y∈F.aP j,w2.heap[y]?=w.heap[y]?:=λj h4' h5 y hy=>(h4 j h4' y (by rw[hgg];unfold gW;rw[if_neg h5];exact hy)).trans (h2 j h5 y hy);have k5:∀y∈(F.dQ x g).ks,w2.heap[(F.dQ x g).ib y]?=w1.heap[(F.dQ x g).ib y]?:=λy hy=>h4 5 om _ (List.mem_map.2 ⟨y,hy,rfl⟩);refine⟨⟨h.hr.of_block (kp 0 om om _ (by simp[bD.aP])),aG h.ow λg' hg'=>kp 3 om om g' (h.lg g' hg'),h.og,h.ar.keep (kp 1 om om),h.tb.keep (kp 2 om om),⟨mp,λy=>?_,λy hy=>?_,λy=>?_,?_,λy hy z hz e=>?_⟩,sep1,h.one⟩,?_⟩
 ·unfold fG
  by_cases c:y=x
  ·rw[if_pos c,if_pos (bD.iE.2 (.inl c)),if_pos c,if_pos c,List.length_append];have e:(F.dQ x g).ib y=g:=if_pos c;rw[e];rfl
  ·rw[if_neg c,h.ic.at_ y];simp only[bD.iE,c,false_or];have e:(F.dQ x g).ib y=F.ib y:=if_neg c;rw[e];rfl
 ·by_cases c:y=x
  ·have e:(F.dQ x g).ib y=g:=if_pos c;simp only[if_pos c];rw[e,List.length_append,jW,List.map_append]
   exact aG ow λg' hg'=>by
    have:g=g':=by simpa [Value.ownBlock] using hg'
    rw[←this,←e];exact k5 y hy
  ·have e:(F.dQ x g).ib y=F.ib y:=if_neg c;have hy':=(bD.iE.1 hy).resolve_left c;simp only[if_neg c];rw[e];refine aG (h.ic.ow y hy') λg' hg'=>?_
   have e2:F.ib y=g':=by simpa [Value.ownBlock] using hg'
   rw[←e2];have:=k5 y hy;rw[e] at this;refine this.trans (hg.block _ (h.tT 5 _ (List.mem_map.2 ⟨y,hy',rfl⟩)) λe3=>?_);obtain⟨h5,h6⟩:=mE e3.symm;exact c (h.ic.inj y hy' x h5 h6)
 ·rw[bD.iE]
  by_cases c:y=x
  ·simp[c]
  ·simp only[c,false_or];exact h.ic.ne y
 ·unfold bD.dQ
  by_cases hx:x∈F.ks
  ·simp only[if_pos hx];exact h.ic.nd
  ·simp only[if_neg hx];exact List.nodup_cons.2 ⟨hx,h.ic.nd⟩
 ·have new:∀z∈(F.dQ x g).ks,z≠x→F.ib z≠g:=λz hz cz e=>by
   have hz':=(bD.iE.1 hz).resolve_left cz
   rcases hm with h5 |h5
   ·obtain⟨h6,h7⟩:=mE h5;exact cz (h.ic.inj z hz' x h6 (e.trans h7))
   ·have:=h.tT 5 _ (List.mem_map.2 ⟨z,hz',rfl⟩);omega
  by_cases cy:y=x
  ·by_cases cz:z=x
   ·rw[cy,cz]
   ·have e1:(F.dQ x g).ib y=g:=if_pos cy;have e2:(F.dQ x g).ib z=F.ib z:=if_neg cz;rw[e1,e2] at e;exact absurd e.symm (new z hz cz)
  ·have e1:(F.dQ x g).ib y=F.ib y:=if_neg cy
   by_cases cz:z=x
   ·have e2:(F.dQ x g).ib z=g:=if_pos cz;rw[e1,e2] at e;exact absurd e (new y hy cy)
   ·have e2:(F.dQ x g).ib z=F.ib z:=if_neg cz;rw[e1,e2] at e;exact h.ic.inj y ((bD.iE.1 hy).resolve_left cy) z ((bD.iE.1 hz).resolve_left cz) e
 ·have b1:Bo F.bl (F.dQ x g).bl w w1:=by unfold bD.bl;rw[hgg];exact Bo.aP (i:=5) bo om
  have b2:Bo (F.dQ x g).bl (F.dQ x g).bl w1 w2:=by
   have:=Bo.aP (G:=(F.dQ x g).aP) (i:=4) (n:=6) bm om
   rwa [show gW (F.dQ x g).aP 4 [F.mb]=(F.dQ x g).aP from dZ] at this
  exact b1.trans b2
end
def vH:Array Value:=#[.int .i64 0,.int .u64 0,.int .u64 0,.int .u64 0,.int .i64 0,.int .i64 0,.int .i64 0]
theorem Tryz.Bv:(Tryz.prog.info? 52).map (λi=>(i.zero,i.size,i.bytes))=some (some (.agg #[.int .i64 0,.int .u64 0,.int .u64 0,.int .u64 0,.int .i64 0,.int .i64 0,.int .i64 0]),7,56):=by kernel_rfl
theorem JN:ET 45 52 7 56:=ET.of Tryz.underlying45 Tryz.Bv rfl (by decide)
theorem U8 {w:World} {base size n:Nat} {e:TypeId} {v:Value} {xs:List Value} (h:w.ownsRow base e size v n xs):∃a cap,v=.slice a n cap:=by
 rcases h.2 with⟨e,h0⟩ |⟨g,cap,cur,e,_⟩
 ·exact⟨none,0,by rw[e,h0]⟩
 ·exact⟨_,_,e⟩
section
variable {w w':World} {F:bD} {E V N bg ln:Nat} {la:Int} {lv:Value} {c:Nat→Nat→Value} {U:List Nat} {ids:List Int} {TU:List Nat} {inc:Int→List Nat} {cp:Int→Nat} {M:Int→Option Value}
theorem eD.adR (h:eD w F E V N bg la lv ln c U ids TU inc cp M) {g cap:Nat} {w1:World} (ow:w1.ownsRow 0 52 7 (.slice (some ⟨g,0,none⟩) (ln+1:Nat) cap) (ln+1) (flat c ln 7++vH.toList)) (hg:w.grownBy w1 lv.ownBlock) (hm:Moved w lv g):
  eD (w1.setCell ⟨F.b,5,none⟩ (.slice (some ⟨g,0,none⟩) (ln+1:Nat) cap)) { F with lg:=some g } E V N bg la (.slice (some ⟨g,0,none⟩) (ln+1:Nat) cap) (ln+1) (λx y=>if x=ln then vH.getD y undef else c x y) U ids TU inc cp M∧
   Bo F.bl ({ F with lg:=some g }:bD).bl w (w1.setCell ⟨F.b,5,none⟩ (.slice (some ⟨g,0,none⟩) (ln+1:Nat) cap)):=by
 refine h.ab1 ?_ rfl ⟨⟨hg.os,hg.tape,hg.output,hg.size,λj hj hn=>hg.block j hj λe=>hn (Option.mem_toList.2 (h.og.symm.trans e.symm))⟩,λj hj=>?_⟩ λx hx j hj=>?_
 ·rw[jJ,GR (g:=c) (λi hi j _=>if_neg om)]
  have e:(List.range 7).map (λy=>if ln=ln then vH.getD y undef else c ln y)=vH.toList:=by simp only[if_true];rfl
  rw[e];exact ow
 ·have:j=g:=by simpa using hj
  subst this
  rcases hm with h1 |h1
  ·exact .inl (Option.mem_toList.2 (h.og.symm.trans h1))
  ·exact .inr h1
 ·by_cases e:x=ln
  ·simp only[if_pos e]
   match j,hj with
   |0,_ |1,_ |2,_ |3,_ |4,_ |5,_ |6,_=>rfl
   |n+7,k=>exact absurd k om
  ·simp only[if_neg e];exact h.one x om j hj
theorem qj {base n cap g size:Nat} {e:TypeId}:∀(vs:List Value) (o:Nat) {w:World} {xs:List Value},w.ownsRow base e size (.slice (some ⟨g,0,none⟩) n cap) n xs→(w.setCells g o vs).ownsRow base e size (.slice (some ⟨g,0,none⟩) n cap) n (yN xs o vs)
 |[],_,_,_,h=>h
 |v::r,o,_,_,h=>qj r (o+1) (nR h (i:=o) v)
theorem rQ {g:Nat}:∀(vs:List Value) (o:Nat) {a b:World},Off [g] a b→Off [g] a (b.setCells g o vs)
 |[],_,_,_,h=>h
 |v::r,o,_,_,h=>rQ r (o+1) (h.setCell (p:=⟨g,o,none⟩) sj v)
theorem eD.setRow {g cap k:Nat} (h:eD w F E V N bg la (.slice (some ⟨g,0,none⟩) ln cap) ln c U ids TU inc cp M) (hk:k<ln) (vs:List Value) (hv:vs.length=7) (hv1:∀j<7,(vs.getD j undef).oneCell'=true):
  eD (w.setCells g (k*7) vs) F E V N bg la (.slice (some ⟨g,0,none⟩) ln cap) ln (λx y=>if x=k then vs.getD y undef else c x y) U ids TU inc cp M∧Bo F.bl F.bl w (w.setCells g (k*7) vs):=by
 have hg:g∈F.aP 3:=h.lg g rfl;have o:=rQ (g:=g) vs (k*7) (Off.refl [g] w);have bo:Bo (F.aP 3) (F.aP 3) w (w.setCells g (k*7) vs):=⟨o.mono λj hj=>.inl (by simp at hj;rw[hj];exact hg),λ_ hj=>.inl hj⟩;obtain⟨_,h2⟩:=h.rest bo;have hb:=Bo.aP (n:=6) bo om;rw[dZ] at hb;refine⟨⟨h.hr.of_block (h2 0 om _ (by simp[bD.aP])),?_,h.og,h.ar.keep (h2 1 om),h.tb.keep (h2 2 om),h.ic.keep (h2 4 om _ (by simp[bD.aP])) λx hx=>h2 5 om _ (List.mem_map.2 ⟨x,hx,rfl⟩),h.sep,λa ha j hj=>?_⟩,hb⟩
 have e:flat (λx y=>if x=k then vs.getD y undef else c x y) ln 7=yN (flat c ln 7) (k*7) vs:=by
  refine List.ext_getElem? λq=>?_;rw[vT _ _ _ _ (by rw[fD,hv];omega),hv]
  by_cases hq:q<ln*7
  ·obtain⟨x,y,hx,hy,rfl⟩:=ko hq;rw[iy hx hy,iy hx hy]
   by_cases ck:x=k
   ·subst ck;rw[if_pos rfl,if_pos om,show x*7+y-x*7=y by omega,List.getElem?_eq_getElem om,List.getD_eq_getElem?_getD,List.getElem?_eq_getElem om];rfl
   ·rw[if_neg ck,if_neg om]
  ·rw[List.getElem?_eq_none (by rw[fD];omega),if_neg om,List.getElem?_eq_none (by rw[fD];omega)]
 ·rw[e];exact qj vs _ h.ow
 ·by_cases c1:a=k
  ·simp only[if_pos c1];exact hv1 j hj
  ·simp only[if_neg c1];exact h.one a ha j hj
theorem eD.there {g cap k:Nat} (h:eD w F E V N bg la (.slice (some ⟨g,0,none⟩) ln cap) ln c U ids TU inc cp M) (hk:k<ln):w.there g (k*7) 7:=λj hj=>by
 obtain⟨h1,h2⟩:=aD h.ow (iy hk hj);exact⟨by rw[h1];rfl,h2⟩
end
theorem jD {A A':List Nat} {W W':World} {B R Z:Nat} {f g h:Nat→Value} (b:Bo A A' W W') (r:Row W B 7 f∧Row W R 4 g∧Row W Z 7 h) (n:B∉A∧R∉A∧Z∉A):
  (Row W' B 7 f∧Row W' R 4 g∧Row W' Z 7 h)∧(B∉A'∧R∉A'∧Z∉A'):=by
 have k:∀q<W.heap.size,q∉A→q∉A':=λq hq hn c=>(b.fQ q c).elim hn λe=>om;exact⟨⟨r.1.of_block (b.off.block _ r.1.lt n.1),r.2.1.of_block (b.off.block _ r.2.1.lt n.2.1),r.2.2.of_block (b.off.block _ r.2.2.lt n.2.2)⟩,k _ r.1.lt n.1,k _ r.2.1.lt n.2.1,k _ r.2.2.lt n.2.2⟩
theorem Ap.QH {w:World} {f:iL} {S N:Nat} {hm:Int→Nat} {ids:List Int} {U:List Nat} (h:Ap w f S N hm ids U) (L:List Int) (hL:∀i∈U,aJ ids i∈L):U.length≤L.length:=by
 obtain⟨iv,cl,m,ok⟩:=h;have nd:=m.ar.nd
 have:=bG (l:=U.map (aJ ids)) (r:=L) (List.pairwise_map.2 (nd.imp_of_mem fun{x y} hx hy hne e=>hne (ok.inj x hx y hy e))) λx hx=>by
  obtain⟨i,hi,rfl⟩:=List.mem_map.1 hx;exact hL i hi
 rwa [List.length_map] at this
theorem Ya (w:World):(zeroValue 62).run Tryz.prog w=.ok (.slice none 0 0) w:=by kernel_rfl
section
variable {w w':World} {F:bD} {E V N bg ln:Nat} {la:Int} {lv:Value} {c:Nat→Nat→Value} {U:List Nat} {ids:List Int} {TU:List Nat} {inc:Int→List Nat} {cp:Int→Nat} {M:Int→Option Value}
theorem eD.QB (h:eD w F E V N bg la lv ln c U ids TU inc cp M) {x:Int} (hx:(Lit.int .u64 x).wf=true):(Instr.lookup 134 (.map (some F.mb)) (.int .u64 x) false).run Tryz.prog w=.ok (sM F inc cp x) w:=by
 have:=h.ic.mp.look false (t:=134) Tryz.underlying25 Tryz.underlying134 (Ya w) hx;rw[this,←h.acN x];rfl
end
structure Ti (s s':St) (k:Nat) (r:Rc) (ex:Int):Prop where
 new:k∉s.U
 U:s'.U=k::s.U
 at_:s'.rc k=r∧s'.ex k=ex
 old:∀j,j≠k→s'.rc j=s.rc j∧s'.ex j=s.ex j
 tu:∀j∈s.TU,j∈s'.TU∧aJ s'.ids j=aJ s.ids j
 has:∀y,s'.has y↔(s.has y∨y=r.u)∨y=r.v
section
variable {w w':World} {F:bD} {E V N n:Nat} {la sq u v t x ex:Int} {lv:Value} {c c':Nat→Nat→Value} {xC sP:List Int} {Tc Nk:List Nat} {s:St} {inc:Int→List Nat} {cp:Int→Nat} {M:Int→Option Value} {k:Nat}
theorem eD.YP (h:eD w F E V N n la lv n c (k::s.U) sP Nk (λy=>if y=v then(if v=u then inc u++[k] else inc v)++[k] else if y=u then inc u++[k] else inc y) cp M) (hp:Pw N) (lim:E≤16384∧V≤4096) (ok:jA E s) (im:∀x k,k∈inc x↔k∈s.U∧((s.rc k).u=x∨(s.rc k).v=x)) (nd:∀x,(inc x).Nodup)
  (hn:n≤E) (hk:k<n) (hkE:k<E) (VT:k∉s.U) (huv:u≠v) (hlt:∀r∈s.U,r<n) (hc:c=λx' y=>if x'=k then([Value.int .i64 (k:Nat),.int .u64 sq,.int .u64 u,.int .u64 v,.int .i64 x,.int .i64 t,.int .i64 ex]:List Value).getD y undef else c' x' y) (hc':∀r∈s.U,∀j<7,c' r j=(kY s r).getD j undef)
  (p1:aav s.ids xC s.TU Tc u) (p2:aav xC sP Tc Nk v):
  ∃s' iQ,lq w F E V N n s' iQ∧Ti s s' k ⟨u,v,t,x⟩ ex:=by
 have hvu:¬v=u:=λe=>huv e.symm;refine⟨⟨k::s.U,λr=>if r=k then⟨u,v,t,x⟩ else s.rc r,λr=>if r=k then ex else s.ex r,λr=>if r=k then sq else s.sq r,Nk,sP⟩,_,h.whole hp lim hn (λr hr=>?_) ⟨List.nodup_cons.2 ⟨VT,ok.und⟩,λr hr=>?_,λr hr=>?_,?_,?_,λy=>?_⟩ (λy r=>?_) λy=>?_,⟨VT,rfl,⟨if_pos rfl,if_pos rfl⟩,λj hj=>⟨if_neg hj,if_neg hj⟩,λj hj=>?_,λy=>?_⟩⟩
 ·rcases List.mem_cons.1 hr with rfl |hr
  ·refine⟨hk,λj hj=>?_⟩;rw[hc];simp only[if_true];unfold kY;simp
  ·have hne:r≠k:=λe=>VT (e▸hr);refine⟨hlt r hr,λj hj=>?_⟩;rw[hc];simp only[if_neg hne];rw[hc' r hr j hj];unfold kY;simp only[if_neg hne]
 ·rcases List.mem_cons.1 hr with rfl |hr
  ·exact hkE
  ·exact ok.ult r hr
 ·by_cases c:r=k
  ·simp only[if_pos c];exact huv
  ·simp only[if_neg c];exact ok.ne r ((List.mem_cons.1 hr).resolve_left c)
 ·obtain⟨_,_,m,_⟩:=h.tb;exact m.ar.nd
 ·obtain⟨_,_,_,o⟩:=h.tb;exact o.inj
 ·show(∃j∈Nk,aJ sP j=y)↔_;rw[p2.mem,p1.mem];have h1:=ok.Ej y;unfold St.has at h1;rw[h1];constructor
  ·rintro((⟨r,hr,e⟩ |e) |e)
   ·exact⟨r,List.mem_cons_of_mem _ hr,by simp only[if_neg (show r≠k from λe=>VT (e▸hr))];exact e⟩
   ·exact⟨k,List.mem_cons_self ..,by simp[e]⟩
   ·exact⟨k,List.mem_cons_self ..,by simp[e]⟩
  ·rintro⟨r,hr,e⟩
   by_cases c:r=k
   ·simp only[if_pos c] at e
    rcases e with e |e
    ·exact .inl (.inr e.symm)
    ·exact .inr e.symm
   ·simp only[if_neg c] at e;exact .inl (.inl ⟨r,(List.mem_cons.1 hr).resolve_left c,e⟩)
 ·have base:∀y,r∈inc y↔r∈s.U∧((s.rc r).u=y∨(s.rc r).v=y):=λy=>im y r
  by_cases ck:r=k
  ·subst ck;simp only[if_true,List.mem_cons_self,true_and];have hni:∀y,r∉inc y:=λy hy=>VT ((im y r).1 hy).1
   by_cases cv:y=v
   ·simp only[cv,or_true,iff_true];simp
   ·by_cases cu:y=u
    ·rw[cu];simp only[if_neg huv,if_true,true_or,iff_true];simp
    ·simp only[if_neg cv,if_neg cu];exact⟨λh=>absurd h (hni y),λh=>h.elim (λe=>absurd e.symm cu) λe=>absurd e.symm cv⟩
  ·simp only[if_neg ck]
   have e1:(r∈k::s.U)↔r∈s.U:=by simp[ck]
   rw[e1,←base y]
   by_cases cv:y=v
   ·subst cv;simp[hvu,ck]
   ·by_cases cu:y=u
    ·subst cu;simp[cv,ck]
    ·simp[cv,cu]
 ·have hni:∀y,k∉inc y:=λy hy=>VT ((im y k).1 hy).1;have hsn:∀y,(inc y++[k]).Nodup:=λy=>List.nodup_append.2 ⟨nd y,sj,λa ha b hb e=>by simp at hb;subst hb;exact hni y (e▸ha)⟩
  by_cases cv:y=v
  ·simp only[if_pos cv,if_neg hvu];exact hsn v
  ·by_cases cu:y=u
   ·simp only[if_neg cv,if_pos cu];exact hsn u
   ·simp only[if_neg cv,if_neg cu];exact nd y
 ·obtain⟨a,b⟩:=p1.old j hj;obtain⟨a2,b2⟩:=p2.old j a;exact⟨a2,b2.trans b⟩
 ·show(∃j∈Nk,aJ sP j=y)↔_;rw[p2.mem,p1.mem];rfl
end
section
variable {w w':World} {F:bD} {E V N bg ln:Nat} {la:Int} {lv:Value} {c:Nat→Nat→Value} {U:List Nat} {ids:List Int} {TU:List Nat} {inc:Int→List Nat} {cp:Int→Nat} {M:Int→Option Value}
theorem eD.YC (h:eD w F E V N bg la lv ln c U ids TU inc cp M) {x:Int} {w1:World} (hx:x∈F.ks) (o:Off [F.ib x] w w1):Bo (F.aP 5) (F.aP 5) w w1∧eO w1 25 .u64 F.mb M:=by
 have bo:Bo (F.aP 5) (F.aP 5) w w1:=⟨o.mono λj hj=>.inl (by simp at hj;rw[hj];exact List.mem_map.2 ⟨x,hx,rfl⟩),λ_ hj=>.inl hj⟩;exact⟨bo,h.ic.mp.keep ((h.rest (i:=5) bo).2 4 om _ (by simp[bD.aP]))⟩
theorem eD.aiE (h:eD w F E V N bg la lv ln c U ids TU inc cp M) {x:Int} {l:List Nat} {w1 w2:World} (hx:x∈F.ks) (hl:l≠[]) (o:Off [F.ib x] w w1) (ow:w1.ownsRow 0 3 1 (.slice (some ⟨F.ib x,0,none⟩) l.length (cp x)) l.length ((bH l).map (Value.int .i64)))
  (mp:eO w2 25 .u64 F.mb (fG M x (some (.slice (some ⟨F.ib x,0,none⟩) l.length (cp x))))) (bm:Bo [F.mb] [F.mb] w1 w2):
  eD w2 F E V N bg la lv ln c U ids TU (λy=>if y=x then l else inc y) cp (fG M x (some (.slice (some ⟨F.ib x,0,none⟩) l.length (cp x))))∧Bo F.bl F.bl w w2:=by
 obtain⟨bo,_⟩:=h.YC hx o;obtain⟨h1,h2⟩:=h.rest (i:=5) bo;have tT:∀i,∀y∈F.aP i,y<w1.heap.size:=λi y hy=>oD (h.tT i y hy) o.size;obtain⟨_,h4⟩:=h.sep.turn (i:=4) tT bm;have kp:∀j,j≠4→j≠5→∀y∈F.aP j,w2.heap[y]?=w.heap[y]?:=λj h4' h5 y hy=>(h4 j h4' y hy).trans (h2 j h5 y hy);refine⟨⟨h.hr.of_block (kp 0 om om _ (by simp[bD.aP])),aG h.ow λg' hg'=>kp 3 om om g' (h.lg g' hg'),h.og,h.ar.keep (kp 1 om om),h.tb.keep (kp 2 om om),⟨mp,λy=>?_,λy hy=>?_,λy=>?_,h.ic.nd,h.ic.inj⟩,h.sep,h.one⟩,?_⟩
 ·unfold fG
  by_cases c:y=x
  ·rw[if_pos c,if_pos (by rw[c];exact hx),if_pos c,c]
  ·rw[if_neg c,h.ic.at_ y,if_neg c]
 ·by_cases c:y=x
  ·simp only[if_pos c];rw[c]
   exact aG ow λg' hg'=>by
    have:F.ib x=g':=by simpa [Value.ownBlock] using hg'
    rw[←this];exact h4 5 om _ (List.mem_map.2 ⟨x,hx,rfl⟩)
  ·simp only[if_neg c];refine aG (h.ic.ow y hy) λg' hg'=>?_
   have e2:F.ib y=g':=by simpa [Value.ownBlock] using hg'
   rw[←e2];exact(h4 5 om _ (List.mem_map.2 ⟨y,hy,rfl⟩)).trans (o.block _ (h.tT 5 _ (List.mem_map.2 ⟨y,hy,rfl⟩)) (by simp;exact λe=>c (h.ic.inj y hy x hx e)))
 ·by_cases c:y=x
  ·simp only[if_pos c];rw[c];exact⟨λ_=>hl,λ_=>hx⟩
  ·simp only[if_neg c];exact h.ic.ne y
 ·have b1:Bo F.bl F.bl w w1:=by have:=Bo.aP (n:=6) bo om;rwa [dZ] at this
  have b2:Bo F.bl F.bl w1 w2:=by
   have:=Bo.aP (G:=F.aP) (i:=4) (n:=6) bm om
   rwa [show gW F.aP 4 [F.mb]=F.aP from dZ] at this
  exact b1.trans b2
theorem eD.aiC (h:eD w F E V N bg la lv ln c U ids TU inc cp M) {x:Int} {w1 w2:World} (hx:x∈F.ks) (o:Off [F.ib x] w w1) (mp:eO w2 25 .u64 F.mb (fG M x none)) (bm:Bo [F.mb] [F.mb] w1 w2):
  eD w2 { F with ks:=F.ks.erase x } E V N bg la lv ln c U ids TU (λy=>if y=x then[] else inc y) cp (fG M x none)∧Bo F.bl ({ F with ks:=F.ks.erase x }:bD).bl w w2:=by
 obtain⟨bo,_⟩:=h.YC hx o;obtain⟨h1,h2⟩:=h.rest (i:=5) bo;have tT:∀i,∀y∈F.aP i,y<w1.heap.size:=λi y hy=>oD (h.tT i y hy) o.size;obtain⟨_,h4⟩:=h.sep.turn (i:=4) tT bm;have kp:∀j,j≠4→j≠5→∀y∈F.aP j,w2.heap[y]?=w.heap[y]?:=λj h4' h5 y hy=>(h4 j h4' y hy).trans (h2 j h5 y hy);have km:∀y,y∈F.ks.erase x↔y≠x∧y∈F.ks:=λy=>h.ic.nd.mem_erase_iff
 have sub:∀i,∀y∈({ F with ks:=F.ks.erase x }:bD).aP i,y∈F.aP i:=λi y hy=>by
  match i,hy with
  |0,hy=>exact hy
  |1,hy=>exact hy
  |2,hy=>exact hy
  |3,hy=>exact hy
  |4,hy=>exact hy
  |5,hy=>
   obtain⟨z,hz,rfl⟩:=List.mem_map.1 hy;exact List.mem_map.2 ⟨z,((km z).1 hz).2,rfl⟩
  |n+6,hy=>exact hy
 refine⟨⟨h.hr.of_block (kp 0 om om _ (by simp[bD.aP])),aG h.ow λg' hg'=>kp 3 om om g' (h.lg g' hg'),h.og,h.ar.keep (kp 1 om om),h.tb.keep (kp 2 om om),⟨mp,λy=>?_,λy hy=>?_,λy=>?_,h.ic.nd.erase x,λy hy z hz e=>h.ic.inj y ((km y).1 hy).2 z ((km z).1 hz).2 e⟩,(λi j hij y hy hy2=>h.sep i j hij y (sub i y hy) (sub j y hy2)),h.one⟩,?_⟩
 ·unfold fG
  by_cases c:y=x
  ·rw[if_pos c,if_neg (λe=>((km y).1 e).1 c)]
  ·rw[if_neg c,h.ic.at_ y];simp only[if_neg c]
   by_cases cy:y∈F.ks
   ·rw[if_pos cy,if_pos ((km y).2 ⟨c,cy⟩)]
   ·rw[if_neg cy,if_neg (λe=>cy ((km y).1 e).2)]
 ·obtain⟨c,hy⟩:=(km y).1 hy;simp only[if_neg c];refine aG (h.ic.ow y hy) λg' hg'=>?_
  have e2:F.ib y=g':=by simpa [Value.ownBlock] using hg'
  rw[←e2];exact(h4 5 om _ (List.mem_map.2 ⟨y,hy,rfl⟩)).trans (o.block _ (h.tT 5 _ (List.mem_map.2 ⟨y,hy,rfl⟩)) (by simp;exact λe=>c (h.ic.inj y hy x hx e)))
 ·rw[km]
  by_cases c:y=x
  ·simp[c]
  ·simp only[ne_eq,c,not_false_eq_true,true_and];exact h.ic.ne y
 ·have b1:Bo F.bl F.bl w w1:=by have:=Bo.aP (n:=6) bo om;rwa [dZ] at this
  have b2:Bo F.bl F.bl w1 w2:=by
   have:=Bo.aP (G:=F.aP) (i:=4) (n:=6) bm om
   rwa [show gW F.aP 4 [F.mb]=F.aP from dZ] at this
  exact(b1.trans b2).sub λj hj=>by
   obtain⟨i,hi,hx⟩:=bP.1 hj;exact bP.2 ⟨i,hi,sub i j hx⟩
end
theorem ahy (u v:Int) (w:World):(Instr.index 138 (.agg #[.int .u64 u,.int .u64 v]) (.int .i64 0)).run Tryz.prog w=.ok (.int .u64 u) w:=by kernel_rfl
theorem ahx (u v:Int) (w:World):(Instr.index 138 (.agg #[.int .u64 u,.int .u64 v]) (.int .i64 1)).run Tryz.prog w=.ok (.int .u64 v) w:=by kernel_rfl
theorem EC:∀{l:List Nat} {p:Nat} (h:p<l.length),l.Nodup→l.eraseIdx p=l.erase l[p]
 |a::l,0,_,_=>sj
 |a::l,p+1,h,hn=>by
  have hp:p<l.length:=by simpa using h
  rw[List.nodup_cons] at hn;have hne:a≠l[p]:=λe=>hn.1 (e▸List.getElem_mem hp);rw[List.eraseIdx_cons_succ,List.getElem_cons_succ,EC hp hn.2,List.erase_cons_tail (by simpa using hne)]
def qm (u v:Int) (i:Nat):Int:=if i=0 then u else v
structure aau (s s':St) (k:Nat):Prop where
 U:s'.U=s.U.erase k
 rc:s'.rc=s.rc∧s'.ex=s.ex
 tu:∀j∈s.TU,s'.has (aJ s.ids j)→j∈s'.TU∧aJ s'.ids j=aJ s.ids j
theorem Bw {u v:Int} (h:u≠v) {i j:Nat} (hi:i<2) (hj:j<i):qm u v i≠qm u v j:=by
 unfold qm;rw[if_neg om,if_pos om];exact λe=>h e.symm
structure yj (s:St) (inc:Int→List Nat) (k:Nat) (u v:Int) (i:Nat) (aZ:List Int) (pY:List Nat) (iQ:Int→List Nat):Prop where
 done:∀j<i,iQ (qm u v j)=(inc (qm u v j)).erase k
 todo:∀y,(∀j<i,y≠qm u v j)→iQ y=inc y
 has:∀y,(∃q∈pY,aJ aZ q=y)↔s.has y∧¬∃j,j<i∧y=qm u v j∧(inc y).erase k=[]
 tu:∀q∈s.TU,(∃q2∈pY,aJ aZ q2=aJ s.ids q)→q∈pY∧aJ aZ q=aJ s.ids q
section
variable {s:St} {inc:Int→List Nat} {k i:Nat} {u v:Int} {aZ sP:List Int} {pY Nk:List Nat} {iQ:Int→List Nat}
theorem yj.zero:yj s inc k u v 0 s.ids s.TU inc:=
 ⟨λ_ hj=>absurd hj (Nat.not_lt_zero _),λ_ _=>rfl,λ_=>⟨λh=>⟨h,λ⟨_,hj,_⟩=>absurd hj (Nat.not_lt_zero _)⟩,λh=>h.1⟩,λ_ hq _=>⟨hq,rfl⟩⟩
theorem yj.keep (h:yj s inc k u v i aZ pY iQ) (huv:u≠v) (hi:i<2) (hne:(inc (qm u v i)).erase k≠[]):yj s inc k u v (i+1) aZ pY (λy=>if y=qm u v i then(inc (qm u v i)).erase k else iQ y):=by
 refine⟨λj hj=>?_,λy hy=>?_,λy=>?_,h.tu⟩
 ·by_cases c:j=i
  ·rw[c];exact if_pos rfl
  ·show(if qm u v j=qm u v i then _ else _)=_;rw[if_neg (λe=>Bw huv hi (show j<i by omega) e.symm)];exact h.done j om
 ·show(if y=qm u v i then _ else _)=_;rw[if_neg (hy i om)];exact h.todo y λj hj=>hy j om
 ·rw[h.has y];constructor
  ·rintro⟨a,b⟩;refine⟨a,λ⟨j,hj,e,e2⟩=>?_⟩
   by_cases c:j=i
   ·rw[c] at e;rw[e] at e2;exact hne e2
   ·exact b ⟨j,om,e,e2⟩
  ·rintro⟨a,b⟩;exact⟨a,λ⟨j,hj,e⟩=>b ⟨j,om,e⟩⟩
theorem yj.drop (h:yj s inc k u v i aZ pY iQ) (huv:u≠v) (hi:i<2) (hne:(inc (qm u v i)).erase k=[]) (d:afx aZ sP pY Nk (qm u v i)):yj s inc k u v (i+1) sP Nk (λy=>if y=qm u v i then[] else iQ y):=by
 refine⟨λj hj=>?_,λy hy=>?_,λy=>?_,λq hq hh=>?_⟩
 ·by_cases c:j=i
  ·rw[c,hne];exact if_pos rfl
  ·show(if qm u v j=qm u v i then _ else _)=_;rw[if_neg (λe=>Bw huv hi (show j<i by omega) e.symm)];exact h.done j om
 ·show(if y=qm u v i then _ else _)=_;rw[if_neg (hy i om)];exact h.todo y λj hj=>hy j om
 ·rw[d.mem y,h.has y];constructor
  ·rintro⟨⟨a,b⟩,c⟩;refine⟨a,λ⟨j,hj,e,e2⟩=>?_⟩
   by_cases cj:j=i
   ·rw[cj] at e;exact c e
   ·exact b ⟨j,om,e,e2⟩
  ·rintro⟨a,b⟩;exact⟨⟨a,λ⟨j,hj,e⟩=>b ⟨j,om,e⟩⟩,λe=>b ⟨i,om,e,by rw[e];exact hne⟩⟩
 ·obtain⟨h1,h2⟩:=(d.mem _).1 hh;obtain⟨a,b⟩:=h.tu q hq h1;obtain⟨a2,b2⟩:=d.old q a (by rw[b];exact h2);exact⟨a2,b2.trans b⟩
end
section
variable {w w':World} {F:bD} {E V N bg:Nat} {s:St} {inc:Int→List Nat} {k:Nat}
theorem eD.Yu {la:Int} {lv:Value} {c:Nat→Nat→Value} {aZ:List Int} {pY:List Nat} {iQ:Int→List Nat} {cp:Int→Nat} {M:Int→Option Value} {F':bD} (h:eD w F' E V N bg la lv bg c (s.U.erase k) aZ pY iQ cp M) (hp:Pw N) (lim:E≤16384∧V≤4096) (ok:jA E s) (im:∀x k,k∈inc x↔k∈s.U∧((s.rc k).u=x∨(s.rc k).v=x)) (nd:∀x,(inc x).Nodup)
  (hb:bg≤E) (hk:k∈s.U) (El:∀r∈s.U,r<bg∧(r≠k→∀j<7,c r j=(kY s r).getD j undef)) (hr:yj s inc k (s.rc k).u (s.rc k).v 2 aZ pY iQ):∃s',lq w F' E V N bg s' iQ∧aau s s' k:=by
 have hme:∀r,r∈s.U.erase k↔r≠k∧r∈s.U:=λr=>ok.und.mem_erase_iff
 have hinc:∀y r,r∈iQ y↔r∈inc y∧r≠k:=λy r=>by
  by_cases c:∀j<2,y≠qm (s.rc k).u (s.rc k).v j
  ·rw[hr.todo y c];refine⟨λh2=>⟨h2,λe=>?_⟩,λh2=>h2.1⟩;subst e
   rcases((im y r).1 h2).2 with e |e
   ·exact c 0 om e.symm
   ·exact c 1 om e.symm
  ·have:∃j,j<2∧y=qm (s.rc k).u (s.rc k).v j:=Classical.byContradiction λhn=>c λj hj e=>hn ⟨j,hj,e⟩;obtain⟨j,hj,rfl⟩:=this;rw[hr.done j hj,(nd _).mem_erase_iff];exact⟨λh=>⟨h.2,h.1⟩,λh=>⟨h.2,h.1⟩⟩
 refine⟨⟨s.U.erase k,s.rc,s.ex,s.sq,pY,aZ⟩,h.whole hp lim hb (λr hr=>?_) ⟨ok.und.erase k,λr hr=>ok.ult r ((hme r).1 hr).2,λr hr=>ok.ne r ((hme r).1 hr).2,?_,?_,λy=>?_⟩ (λy r=>?_) λy=>?_,⟨rfl,⟨rfl,rfl⟩,λq hq hh=>hr.tu q hq hh⟩⟩
 ·obtain⟨a,b⟩:=(hme r).1 hr;exact⟨(El r b).1,(El r b).2 a⟩
 ·obtain⟨_,_,m,_⟩:=h.tb;exact m.ar.nd
 ·obtain⟨_,_,_,o⟩:=h.tb;exact o.inj
 ·show(∃q∈pY,aJ aZ q=y)↔_;rw[hr.has y];have h1:=ok.Ej y;rw[h1];constructor
  ·rintro⟨⟨r,a,b⟩,d⟩
   by_cases ck:r=k
   ·subst ck
    have hyi:∃j,j<2∧y=qm (s.rc r).u (s.rc r).v j:=by
     rcases b with b |b
     ·exact⟨0,om,b.symm⟩
     ·exact⟨1,om,b.symm⟩
    obtain⟨j,hj,e⟩:=hyi;have hne:(inc y).erase r≠[]:=λe2=>d ⟨j,hj,e,e2⟩;obtain⟨r2,h2⟩:=List.exists_mem_of_ne_nil _ hne;obtain⟨a2,b2⟩:=(nd y).mem_erase_iff.1 h2;obtain⟨a3,b3⟩:=(im y r2).1 b2;exact⟨r2,(hme r2).2 ⟨a2,a3⟩,b3⟩
   ·exact⟨r,(hme r).2 ⟨ck,a⟩,b⟩
  ·rintro⟨r,a,b⟩;obtain⟨a1,a2⟩:=(hme r).1 a;refine⟨⟨r,a2,b⟩,λ⟨j,hj,e,e2⟩=>?_⟩;have:=(nd y).mem_erase_iff.2 ⟨a1,(im y r).2 ⟨a2,b⟩⟩;rw[e2] at this;cases this
 ·show r∈iQ y↔r∈s.U.erase k∧_;rw[hinc,im,hme];exact⟨λ⟨⟨a,b⟩,d⟩=>⟨⟨d,a⟩,b⟩,λ⟨⟨d,a⟩,b⟩=>⟨⟨a,b⟩,d⟩⟩
 ·by_cases c:∀j<2,y≠qm (s.rc k).u (s.rc k).v j
  ·rw[hr.todo y c];exact nd y
  ·have:∃j,j<2∧y=qm (s.rc k).u (s.rc k).v j:=Classical.byContradiction λhn=>c λj hj e=>hn ⟨j,hj,e⟩;obtain⟨j,hj,rfl⟩:=this;rw[hr.done j hj];exact(nd _).erase k
theorem Dh (h:lq w F E V N bg s inc) (hk:k∈s.U) (hw:∀r∈s.U,(Lit.int .u64 (s.rc r).u).wf=true∧(Lit.int .u64 (s.rc r).v).wf=true):
  Calls Tryz.prog 22 #[.pointer (some ⟨F.b,0,none⟩),.int .i64 (k:Nat)] w λe w'=>(∃v,e=.returned v)∧∃F' s' iQ,lq w' F' E V N bg s' iQ∧F'.b=F.b∧Bo F.bl F'.bl w w'∧aau s s' k:=by
 obtain⟨W1,hW1⟩:∃W,w.alloc (.cells #[.int .i64 0,.int .u64 0,.int .u64 0,.int .u64 0,.int .i64 0,.int .i64 0,.int .i64 0] 52)=W:=⟨_,rfl⟩
 have o1:Off [] w W1:=by rw[←hW1];exact(Off.refl _ _).alloc _
 have h1:=h.off o1
 have hz1:Row W1 w.heap.size 7 (λi=>vH.getD i undef):=by
  rw[←hW1];exact Row.lit (n:=7) (f:=λi=>vH.getD i undef) w vH 52 (Nat.le_refl _) lC
 have HV:=jh (iP h1);obtain⟨la,lv,c,cp,M,p1,Cq,El⟩:=h1.parts;have c3:=p1.c3;have HA:=jh (Am p1.ar (oC h1.lim) hk);rw[←hW1] at HV c3;have HW1:=jh hW1;have O1:=jh o1;have H1:=jh h1;have HZ1:=jh hz1;have P1:=jh p1;have HB:=jh (And.intro Cq (And.intro El (And.intro hk hw)));have oJ:=jh h.lt;have bk:(0:Int)≤k∧(k:Int)≤16384:=oD (h.ok.ult k hk) h.lim;clear hW1 o1 h1 hz1 p1 h Cq El hw;go_in;go_wp2_with fail;apply mO HV;rintro e w1 ⟨rfl,hw1⟩;rw[HW1.out] at hw1;subst hw1;rw[HW1.out] at c3;go_wp2_with fail;apply mO HA;rintro e w2 ⟨rfl,a2,b2⟩;obtain⟨p2,CF⟩:=P1.out.Dk a2 rfl b2;have p2':eD w2 F E V N bg la lv bg c (s.U.erase k) s.ids s.TU inc cp M:=p2;have aak:Bo F.bl F.bl w1 w2:=CF
 obtain⟨g7,cap,hlv⟩:∃g cap,lv=.slice (some ⟨g,0,none⟩) bg cap:=by
  rcases p2'.ow.2 with⟨_,e⟩ |⟨g,cap,cur,e,_⟩
  ·have:=(HB.out.2.1 k hk).1;omega
  ·exact⟨g,cap,e⟩
 subst hlv;obtain⟨hkb,hck⟩:=HB.out.2.1 k hk;obtain⟨u,hu⟩:=nE ((s.rc k).u);obtain⟨v,hv⟩:=nE ((s.rc k).v);obtain⟨x,hx⟩:=nE ((s.rc k).w);obtain⟨t,ht⟩:=nE ((s.rc k).t);obtain⟨ex,hex⟩:=nE (s.ex k);obtain⟨sq,hsq⟩:=nE (s.sq k)
 have hlv:kY s k=[.int .i64 k,.int .u64 sq,.int .u64 u,.int .u64 v,.int .i64 x,.int .i64 t,.int .i64 ex]:=by unfold kY;rw[hu,hv,hx,ht,hex,hsq]
 have hra:w2.rangeAt g7 (k*7) [.int .i64 k,.int .u64 sq,.int .u64 u,.int .u64 v,.int .i64 x,.int .i64 t,.int .i64 ex]:=λj y hj=>by
  have hj7:j<7:=(List.getElem?_eq_some_iff.1 hj).1;rw[(aD p2'.ow (iy hkb hj7)).1,hck j hj7,hlv,List.getD_eq_getElem?_getD,hj];rfl
 obtain⟨W3,hW3⟩:∃W,w2.alloc (.cells #[.int .i64 k,.int .u64 sq,.int .u64 u,.int .u64 v,.int .i64 x,.int .i64 t,.int .i64 ex] 52)=W:=⟨_,rfl⟩
 have o3:Off [] w2 W3:=by rw[←hW3];exact(Off.refl _ _).alloc _
 have p3:=p2'.off o3
 have hr3:Row W3 w2.heap.size 7 (λi=>(#[Value.int .i64 k,.int .u64 sq,.int .u64 u,.int .u64 v,.int .i64 x,.int .i64 t,.int .i64 ex]:Array Value).getD i undef):=by
  rw[←hW3];exact Row.lit _ _ _ (Nat.le_refl _) lC
 obtain⟨W4,gT⟩:=nE (W3.setCells g7 (k*7) [.int .i64 0,.int .u64 0,.int .u64 0,.int .u64 0,.int .i64 0,.int .i64 0,.int .i64 0]);obtain⟨p4,Cz⟩:=p3.setRow hkb [.int .i64 0,.int .u64 0,.int .u64 0,.int .u64 0,.int .i64 0,.int .i64 0,.int .i64 0] rfl (λj hj=>by match j,hj with |0,_ |1,_ |2,_ |3,_ |4,_ |5,_ |6,_=>rfl |n+7,k=>exact absurd k om);rw[gT] at p4 Cz;obtain⟨B,hB⟩:=nE w2.heap.size;rw[hB] at hr3;have hz2:=HZ1.out.of_block (w':=w2) (aak.off.block _ HZ1.out.lt λc=>Nat.lt_irrefl _ (oJ.out _ c));have hz3:=hz2.of_block (o3.block _ hz2.lt sj)
 have ZH:B∉F.bl:=λc=>by rw[←hB] at c;obtain⟨i,_,hi⟩:=bP.1 c;have:=p2'.tT i _ hi;omega
 have Rm:w.heap.size∉F.bl:=λc=>Nat.lt_irrefl _ (oJ.out _ c);obtain⟨⟨rB,_,rZ⟩,_⟩:=jD Cz ⟨hr3,(show Row W3 B 4 (λi=>(#[Value.int .i64 k,.int .u64 sq,.int .u64 u,.int .u64 v,.int .i64 x,.int .i64 t,.int .i64 ex]:Array Value).getD i undef) from⟨_,_,hr3.choose_spec.choose_spec.1,λi hi=>hr3.choose_spec.choose_spec.2 i om⟩),hz3⟩ ⟨ZH,ZH,Rm⟩;have c5:w2.cell? ⟨F.b,5,none⟩=some (.slice (some ⟨g7,0,none⟩) bg cap):=p2'.c5;have e5:W3.cell? ⟨F.b,5,none⟩=some (.slice (some ⟨g7,0,none⟩) bg cap):=p3.c5;rw[←hW3] at e5;have hth:W3.there g7 (k*7) 7:=p3.there hkb;rw[←hW3] at hth gT;have b2:W4.cell? ⟨B,2,none⟩=some (.int .u64 u):=rB.c 2;have b3:W4.cell? ⟨B,3,none⟩=some (.int .u64 v):=rB.c 3
 have VU:(Tryz.prog.info? 52).map (·.size)=some 7:=by kernel_rfl
 have bkb:(k:Int)<bg:=om;have HRA:=jh hra;have HTH:=jh hth;have J8:=jh gT;have P4:=jh p4;have HBw:=jh hB;have BB:=jh ((((Bo.aX (A:=F.bl) O1.out).trans aak).trans (Bo.aX o3)).trans Cz);have RR:=jh (And.intro rB rZ);have NB:=jh (And.intro ZH Rm);have EY:=jh (And.intro hu (And.intro hv (And.intro hx (And.intro ht (And.intro hex hsq)))));clear hra hth gT p4 hB Cz rB rZ ZH Rm hr3 hz2 hz3 o3 p3 hW3 p2 p2' CF aak a2 c3 hlv hck hkb hu hv hx ht hex hsq HA HV
 go_wp2_with (first |(refine wpList_load_mid rfl 52 (.tmp 31) rfl g7 (k*7) rfl [.int .i64 k,.int .u64 sq,.int .u64 u,.int .u64 v,.int .i64 x,.int .i64 t,.int .i64 ex] _ HRA.out Tryz.underlying52 rfl VU ?_) |(refine wpList_store_mid rfl 52 (.tmp 39) (.tmp 38) rfl g7 (k*7) #[.int .i64 0,.int .u64 0,.int .u64 0,.int .u64 0,.int .i64 0,.int .i64 0,.int .i64 0] rfl rfl HTH.out VU (by simp[Value.oneCell']) ?_;rw[J8.out,HBw.out]))
 have Uh:=jh (show u≠v from by have:=H1.out.ok.ne k hk;rw[EY.out.1,EY.out.2.1] at this;exact this)
 have XQ:=jh (show ∀i,(Lit.int .u64 (qm u v i)).wf=true from λi=>by
  have:=HB.out.2.2.2 k hk;rw[EY.out.1,EY.out.2.1] at this;unfold qm;split
  ·exact this.1
  ·exact this.2)
 have HIK:=jh (show ∀i,k∈inc (qm u v i) from λi=>(H1.out.im _ k).2 ⟨hk,by
  rw[EY.out.1,EY.out.2.1];unfold qm;split
  ·exact .inl rfl
  ·exact .inr rfl⟩)
 clear b2 b3 c5 e5
 go_loopg [47] 2 (λM0 iv wr=>∃(i:Nat) (F':bD) (aZ:List Int) (pY:List Nat) (iQ:Int→List Nat) (cp':Int→Nat) (M':Int→Option Value),M0+i=2∧iv=.int .i64 i∧Hid (eD wr F' E V N bg la (.slice (some ⟨g7,0,none⟩) bg cap) bg (λx' y=>if x'=k then([Value.int .i64 0,.int .u64 0,.int .u64 0,.int .u64 0,.int .i64 0,.int .i64 0,.int .i64 0]:List Value).getD y undef else c x' y) (s.U.erase k) aZ pY iQ cp' M')∧Hid (F'.b=F.b)∧Hid (Bo F.bl F'.bl w wr)∧Hid (Row wr B 7 (λi=>(#[Value.int .i64 k,.int .u64 sq,.int .u64 u,.int .u64 v,.int .i64 x,.int .i64 t,.int .i64 ex]:Array Value).getD i undef)∧Row wr w.heap.size 7 (λi=>vH.getD i undef))∧Hid (B∉F'.bl∧w.heap.size∉F'.bl)∧Hid (yj s inc k u v i aZ pY iQ))
 case atStart=>exact⟨0,F,_,_,_,_,_,rfl,rfl,P4,jh rfl,BB,RR,NB,jh yj.zero⟩
 case round=>
  clear P4 BB RR NB;obtain⟨i,F',aZ,pY,iQ,cp',M',hM,rfl,P4,tY,BB,RR,NB,HR⟩:=hrel
  by_cases hi:i<2
  ·have d0:decide ((i:Int)<2)=true:=dP om;have bi:(0:Int)≤i∧(i:Int)<2:=om;obtain⟨i1,hi1⟩:=nE (i+1);have wi:(i:Int)+1=(i1:Int):=om;have bi1:(0:Int)≤i1∧(i1:Int)≤2:=om;obtain⟨y,hy⟩:=nE (qm u v i)
   have ixq:∀w,(Instr.index 138 (.agg #[.int .u64 u,.int .u64 v]) (.int .i64 i)).run Tryz.prog w=.ok (.int .u64 y) w:=λW=>by
    have:i=0∨i=1:=om
    rcases this with rfl |rfl
    ·have h0:y=u:=hy.symm;rw[h0];exact ahy u v W
    ·have h0:y=v:=hy.symm;rw[h0];exact ahx u v W
   have hwf:(Lit.int .u64 y).wf=true:=by rw[←hy];exact XQ.out i
   have hinc:iQ y=inc y:=HR.out.todo y λj hj e=>Bw Uh.out hi hj (hy.trans e)
   have hky:k∈inc y:=by rw[←hy];exact HIK.out i
   have hyk:y∈F'.ks:=(P4.out.ic.ne y).2 (by rw[hinc];exact List.ne_nil_of_mem hky);obtain⟨l,hl⟩:=nE (inc y);have hlk:=P4.out.QB hwf;unfold sM at hlk;rw[if_pos hyk,hinc,hl] at hlk;have how:=P4.out.ic.ow y hyk;rw[hinc,hl] at how;rw[hl] at hky
   have hln:∀q∈l,q<E:=λq hq=>by rw[←hl] at hq;exact H1.out.ok.ult q ((H1.out.im y q).1 hq).1
   have hnd:l.Nodup:=by rw[←hl];exact H1.out.nd y
   have hll:l.length≤16384:=by
    have h1:=bG (r:=List.range E) hnd λq hq=>List.mem_range.2 (hln q hq);rw[List.length_range] at h1;have:=H1.out.lim.1;omega
   have c6:wr.cell? ⟨F.b,6,none⟩=some (.map (some F'.mb)):=by rw[←tY.out];exact P4.out.c6
   have HIX:=jh (FH how hky om (λq hq=>oD (hln q hq) H1.out.lim.1));obtain⟨n,hn⟩:=nE l.length;rw[hn] at hlk HIX;have HL:=jh (And.intro hl (And.intro hnd (And.intro hll (And.intro hky (And.intro hyk (And.intro how (And.intro hn (And.intro hinc hy))))))));have HW:=jh hwf;have HI1:=jh hi1;have HI:=jh hi;clear hl hnd hll hky hyk how hn hinc hy hwf hi1 hln;go_wp2_with fail;apply mO HIX;rintro e w' ⟨p,rfl,hp,hpk,rfl⟩
   have hpl:p<l.length:=by rw[HL.out.2.2.2.2.2.2.1];exact hp
   have bp:(0:Int)≤p∧(p:Int)≤16384:=oC HL.out.2.2.1;have d1:decide ((0:Int)≤p)=true:=dP om;have d2:decide ((p:Int)≥0)=true:=dP om;obtain⟨p1,hp1⟩:=nE (p+1);have wp1:(p:Int)+1=(p1:Int):=om;have bp1:(0:Int)≤p1∧(p1:Int)≤16385:=om;have HD:=Dl HL.out.2.2.2.2.2.1 hpl hp1.symm
   have her:l.eraseIdx p=l.erase k:=by
    have h1:l[p]=k:=by rw[List.getD_eq_getElem?_getD,List.getElem?_eq_getElem hpl] at hpk;exact hpk
    rw[←h1];exact EC hpl HL.out.2.1
   rw[her,HL.out.2.2.2.2.2.2.1] at HD;have HD:=jh HD;obtain⟨l',hl'⟩:=nE (l.erase k);rw[hl'] at HD;have HL':=jh hl';clear hp hpl hpk hp1 her hl' hlk ixq;go_wp2_with fail;apply mO HD;rintro e w5 ⟨rfl,ow5,o5⟩;obtain⟨b5,Xn⟩:=P4.out.YC HL.out.2.2.2.2.1 o5
   have c6:w5.cell? ⟨F.b,6,none⟩=some (.map (some F'.mb)):=by
    rw[←tY.out];exact(World.cell?_of_block ((P4.out.rest (i:=5) b5).2 0 om _ (by simp[bD.aP]))).trans P4.out.c6
   have OW5:=jh ow5;have O5:=jh o5;have MP5:=jh Xn;clear ow5 o5 Xn b5 HD
   by_cases hne:l'=[]
   ·subst hne;obtain⟨w6,hdel,DN,pG⟩:=MP5.out.del (t:=134) Tryz.underlying25 Tryz.underlying134 HW.out 0;obtain⟨p6,b6⟩:=P4.out.aiC HL.out.2.2.2.2.1 O5.out DN pG;obtain⟨F6,hF6⟩:∃F6,({ F' with ks:=F'.ks.erase y }:bD)=F6:=⟨_,rfl⟩;rw[hF6] at p6 b6
    have ZF:F6.b=F.b:=by rw[←hF6];exact tY.out
    have c4:w6.cell? ⟨F.b,4,none⟩=some (.pointer (some ⟨F6.tb.h,0,none⟩)):=by rw[←ZF];exact p6.c4
    obtain⟨⟨rB6,_,rZ6⟩,nb6⟩:=jD b6 ⟨RR.out.1,(show Row w' B 4 (λi=>(#[Value.int .i64 k,.int .u64 sq,.int .u64 u,.int .u64 v,.int .i64 x,.int .i64 t,.int .i64 ex]:Array Value).getD i undef) from⟨_,_,RR.out.1.choose_spec.choose_spec.1,λi hi=>RR.out.1.choose_spec.choose_spec.2 i om⟩),RR.out.2⟩ ⟨NB.out.1,NB.out.1,NB.out.2⟩;have hxx:∃q∈pY,aJ aZ q=y:=(HR.out.has y).2 ⟨(H1.out.ok.Ej y).2 ⟨k,hk,((H1.out.im y k).1 (by rw[HL.out.1];exact HL.out.2.2.2.1)).2⟩,λ⟨j,hj,e,_⟩=>Bw Uh.out HI.out hj (HL.out.2.2.2.2.2.2.2.2.trans e)⟩;have HT:=jh (Ow p6.tb H1.out.pw (oC H1.out.lim) y hxx);have P6:=jh p6;have B6:=jh b6;have HF6:=jh ZF;have RR6:=jh (And.intro rB6 rZ6);have NB6:=jh nb6;clear p6 b6 hF6 ZF rB6 rZ6 nb6 hxx DN pG;go_wp2_with fail;apply mO HT;rintro e w7 ⟨rfl,aoe,TU7,t7,d7,o7⟩;obtain⟨p7,b7⟩:=P6.out.Pk t7 rfl ⟨o7,λ_ hj=>.inl hj⟩;obtain⟨⟨rB7,_,rZ7⟩,nb7⟩:=jD b7 ⟨RR6.out.1,(show Row w6 B 4 (λi=>(#[Value.int .i64 k,.int .u64 sq,.int .u64 u,.int .u64 v,.int .i64 x,.int .i64 t,.int .i64 ex]:Array Value).getD i undef) from⟨_,_,RR6.out.1.choose_spec.choose_spec.1,λi hi=>RR6.out.1.choose_spec.choose_spec.2 i om⟩),RR6.out.2⟩ NB6.out;have hR7:=HR.out.drop Uh.out HI.out (by rw[HL.out.2.2.2.2.2.2.2.2,HL.out.1];exact HL'.out) (by rw[HL.out.2.2.2.2.2.2.2.2];exact d7);rw[HI1.out,HL.out.2.2.2.2.2.2.2.2] at hR7;have P7:=jh p7;have B7:=jh ((BB.out.trans B6.out).trans b7);have RR7:=jh (And.intro rB7 rZ7);have NB7:=jh (And.intro nb7.1 nb7.2.2);have HR7:=jh hR7;clear p7 b7 rB7 rZ7 nb7 hR7 t7 d7 o7;go_wp2
    go_roundg (2-i1)
    case measure=>have:=HI1.out;have:=HI.out;omega
    case rel=>exact⟨i1,_,_,_,_,_,_,oD HI1.out HI.out,rfl,P7,HF6,B7,RR7,NB7,HR7⟩
   ·obtain⟨m,hm⟩:=nE l'.length
    have hm0:0<m:=by rw[←hm];exact List.length_pos_iff.2 hne
    have hml:m≤16384:=by
     have h1:l'.length≤l.length:=by rw[←HL'.out];exact List.length_erase_le ..
     have:=HL.out.2.2.1;omega
    have d3:decide ((0:Int)<m)=true:=dP om;have d4:decide (0<m)=true:=dP hm0;have bm:(0:Int)<m∧(m:Int)≤16384:=om
    have xw:(∀q z,M' q=some z→q∈pY.map (aJ aZ))∧(pY.map (aJ aZ)).length<maxLen:=by
     refine⟨λq z hq=>?_,?_⟩
     ·have hk2:q∈F'.ks:=by
       by_cases c:q∈F'.ks
       ·exact c
       ·have:=P4.out.ic.at_ q;rw[if_neg c,hq] at this;cases this
      have h2:=(P4.out.ic.ne q).1 hk2
      have h3:inc q≠[]∧¬∃j,j<i∧q=qm u v j∧(inc q).erase k=[]:=by
       by_cases c:∀j<i,q≠qm u v j
       ·rw[HR.out.todo q c] at h2;exact⟨h2,λ⟨j,hj,e,_⟩=>c j hj e⟩
       ·obtain⟨j,hj,e⟩:∃j,j<i∧q=qm u v j:=Classical.byContradiction λhn=>c λj hj e=>hn ⟨j,hj,e⟩;rw[e,HR.out.done j hj,←e] at h2;exact⟨λe2=>h2 (by rw[e2];rfl),λ⟨_,_,_,e3⟩=>h2 e3⟩
      obtain⟨r,hr⟩:=List.exists_mem_of_ne_nil _ h3.1;obtain⟨a,b⟩:=(H1.out.im q r).1 hr;obtain⟨i2,hi2,e2⟩:=(HR.out.has q).2 ⟨(H1.out.ok.Ej q).2 ⟨r,a,b⟩,h3.2⟩;exact List.mem_map.2 ⟨i2,hi2,e2⟩
     ·rw[List.length_map];obtain⟨_,_,mm,ok⟩:=P4.out.tb;have h1:=bG (r:=List.range aZ.length) mm.ar.nd λx hx=>List.mem_range.2 (ok.lt x hx);rw[List.length_range] at h1;have:=ok.le;have:=H1.out.lim.2;unfold maxLen;omega
    obtain⟨w6,hup,DN,pG⟩:=MP5.out.upd (t:=134) Tryz.underlying25 Tryz.underlying134 HW.out xw.1 xw.2 (.slice (some ⟨F'.ib y,0,none⟩) l'.length (cp' y));obtain⟨p6,b6⟩:=P4.out.aiE HL.out.2.2.2.2.1 hne O5.out OW5.out DN pG;obtain⟨⟨rB6,_,rZ6⟩,nb6⟩:=jD b6 ⟨RR.out.1,(show Row w' B 4 (λi=>(#[Value.int .i64 k,.int .u64 sq,.int .u64 u,.int .u64 v,.int .i64 x,.int .i64 t,.int .i64 ex]:Array Value).getD i undef) from⟨_,_,RR.out.1.choose_spec.choose_spec.1,λi hi=>RR.out.1.choose_spec.choose_spec.2 i om⟩),RR.out.2⟩ ⟨NB.out.1,NB.out.1,NB.out.2⟩;have Zx:=HR.out.keep Uh.out HI.out (by rw[HL.out.2.2.2.2.2.2.2.2,HL.out.1,HL'.out];exact hne);rw[HI1.out,HL.out.2.2.2.2.2.2.2.2,HL.out.1,HL'.out] at Zx;have P6:=jh p6;have B6:=jh (BB.out.trans b6);have RR6:=jh (And.intro rB6 rZ6);have NB6:=jh (And.intro nb6.1 nb6.2.2);have HR6:=jh Zx;rw[hm] at hup⊢;clear p6 b6 rB6 rZ6 nb6 Zx DN pG xw hne hm hm0 hml;go_wp2
    go_roundg (2-i1)
    case measure=>have:=HI1.out;have:=HI.out;omega
    case rel=>exact⟨i1,_,_,_,_,_,_,oD HI1.out HI.out,rfl,P6,tY,B6,RR6,NB6,HR6⟩
  ·have d0:decide ((i:Int)<2)=false:=dF om;have hi2:i=2:=om;subst hi2;obtain⟨rB,rZ⟩:=RR.out;obtain⟨Z,hZ⟩:=nE w.heap.size;rw[hZ] at rZ;have q0:wr.cell? ⟨B,0,none⟩=some (.int .i64 k):=rB.c 0;have q1:wr.cell? ⟨B,1,none⟩=some (.int .u64 sq):=rB.c 1;have q2:wr.cell? ⟨B,2,none⟩=some (.int .u64 u):=rB.c 2;have q3:wr.cell? ⟨B,3,none⟩=some (.int .u64 v):=rB.c 3;have q4:wr.cell? ⟨B,4,none⟩=some (.int .i64 x):=rB.c 4;have q5:wr.cell? ⟨B,5,none⟩=some (.int .i64 t):=rB.c 5;have q6:wr.cell? ⟨B,6,none⟩=some (.int .i64 ex):=rB.c 6;have z0:wr.cell? ⟨Z,0,none⟩=some (.int .i64 0):=rZ.c 0;have z1:wr.cell? ⟨Z,1,none⟩=some (.int .u64 0):=rZ.c 1;have z2:wr.cell? ⟨Z,2,none⟩=some (.int .u64 0):=rZ.c 2;have z3:wr.cell? ⟨Z,3,none⟩=some (.int .u64 0):=rZ.c 3;have z4:wr.cell? ⟨Z,4,none⟩=some (.int .i64 0):=rZ.c 4;have z5:wr.cell? ⟨Z,5,none⟩=some (.int .i64 0):=rZ.c 5;have z6:wr.cell? ⟨Z,6,none⟩=some (.int .i64 0):=rZ.c 6;have y0:=rZ.frozen 0;have y1:=rZ.frozen 1;have y2:=rZ.frozen 2;have y3:=rZ.frozen 3;have y4:=rZ.frozen 4;have y5:=rZ.frozen 5;have y6:=rZ.frozen 6;have hr2:=HR.out;rw[←EY.out.1,←EY.out.2.1] at hr2;obtain⟨s',h15,ir⟩:=P4.out.Yu H1.out.pw H1.out.lim H1.out.ok H1.out.im H1.out.nd HB.out.1 hk (λr hr=>⟨(HB.out.2.1 r hr).1,λhne j hj=>by simp only[if_neg hne];exact(HB.out.2.1 r hr).2 j hj⟩) hr2;have H15:=jh h15;have IR:=jh ir;have RZ:=jh rZ;have HZ:=jh hZ;clear h15 ir hr2 rB rZ;go_wp2_with fail;obtain⟨Wf,hWf⟩:=nE ((((((((wr.setCell ⟨Z,0,none⟩ (.int .i64 k)).setCell ⟨Z,1,none⟩ (.int .u64 sq)).setCell ⟨Z,2,none⟩ (.int .u64 u)).setCell ⟨Z,3,none⟩ (.int .u64 v)).setCell ⟨Z,4,none⟩ (.int .i64 x)).setCell ⟨Z,5,none⟩ (.int .i64 t)).setCell ⟨Z,6,none⟩ (.int .i64 ex)));rw[hWf];clear z0 z1 z2 z3 z4 z5 z6 y0 y1 y2 y3 y4 y5 y6 q0 q1 q2 q3 q4 q5 q6
   have CQ:Row Wf Z 7 (λi=>(#[Value.int .i64 k,.int .u64 sq,.int .u64 u,.int .u64 v,.int .i64 x,.int .i64 t,.int .i64 ex]:Array Value).getD i undef):=by
    rw[←hWf];refine(((((((RZ.out.set 0 _).set 1 _).set 2 _).set 3 _).set 4 _).set 5 _).set 6 _).congr λi hi=>?_
    match i,hi with
    |0,_ |1,_ |2,_ |3,_ |4,_ |5,_ |6,_=>rfl
    |k+7,e=>exact absurd e om
   have oZ:Off [Z] wr Wf:=by
    rw[←hWf];exact(((((((Off.refl [Z] wr).setCell (p:=⟨Z,0,none⟩) sj _).setCell (p:=⟨Z,1,none⟩) sj _).setCell (p:=⟨Z,2,none⟩) sj _).setCell (p:=⟨Z,3,none⟩) sj _).setCell (p:=⟨Z,4,none⟩) sj _).setCell (p:=⟨Z,5,none⟩) sj _).setCell (p:=⟨Z,6,none⟩) sj _
   have s0:Wf.cell? ⟨Z,0,none⟩=some (.int .i64 k):=CQ.c 0;have s1:Wf.cell? ⟨Z,1,none⟩=some (.int .u64 sq):=CQ.c 1;have s2:Wf.cell? ⟨Z,2,none⟩=some (.int .u64 u):=CQ.c 2;have s3:Wf.cell? ⟨Z,3,none⟩=some (.int .u64 v):=CQ.c 3;have s4:Wf.cell? ⟨Z,4,none⟩=some (.int .i64 x):=CQ.c 4;have s5:Wf.cell? ⟨Z,5,none⟩=some (.int .i64 t):=CQ.c 5;have s6:Wf.cell? ⟨Z,6,none⟩=some (.int .i64 ex):=CQ.c 6;clear hWf CQ;refine bodyPost_ret (v:=.tuple #[.agg #[.int .i64 k,.int .u64 sq,.int .u64 u,.int .u64 v,.int .i64 x,.int .i64 t,.int .i64 ex],.int .i64 0]) (by simp[results,Tryz.results22,go_sem,hZ,s0,s1,s2,s3,s4,s5,s6]) rfl ?_
   have Rm:Z∉F'.bl:=by rw[←HZ.out];exact NB.out.2
   exact⟨⟨_,rfl⟩,F',s',iQ,H15.out.keep λj hj=>oZ.block j (H15.out.lt j hj) (by simp;exact λe=>Rm (e▸hj)),tY.out,⟨BB.out.off.trans oZ λj hj=>.inr (by simp at hj;rw[hj,←HZ.out];omega),BB.out.fQ⟩,IR.out⟩
end
end Go.Proofs.YtpaeogglppampaaGreatDoor
