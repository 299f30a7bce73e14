/- Lemmas of the proof. Conditions: as each one states. -/
import Derived.Test.YtpaeogglppampaaGreatQe
import Derived.Test.YtpaeogglppampaaGreatQq
import Derived.Lib.SlicesCompact
set_option maxRecDepth 100000
set_option maxHeartbeats 16000000
namespace Go.Proofs.YtpaeogglppampaaGreat
open Go.RowKit
section
open Go.Lib
def gV (E:List Ed) (θ:Int):Nat→Nat:=bT E ((List.range E.length).filter (GU E θ))
def lbB (E:List Ed) (θ:Int):Nat→Nat:=bT E ((List.range E.length).filter (ltW E θ))
theorem Wm {E:List Ed} {θ:Int} {i:Nat}:GU E θ i=true↔(aO E i).w≤θ:=by unfold GU;simp
def mrg (n:Nat) (E:List Ed) (w:Int):Bool:=decide (iL n (gV E w)≠iL n (lbB E w))
structure aiB (n:Nat) (E:List Ed) (l:List Int):Prop where
 up:l.Pairwise (·<·)
 wt:∀x∈l,∃i,i<E.length∧(aO E i).w=x
 at_:∀i<E.length,((aO E i).w∈l↔mrg n E (aO E i).w=true)
def ws (E:List Ed) (f:List Nat):List Int:=f.map λi=>(aO E i).w
section
variable {n:Nat} {E:List Ed} {o:List Nat}
theorem JV (ho:dO E o) (θ:Int):bR E (aM E o) (YI (aM E o) (GU E θ))=gV E θ:=Ws ho xB
theorem abA (ho:dO E o) {j:Nat} (hj:j<(aM E o).length):(aM E o).getD j 0<E.length:=by
 have h1:(aM E o).getD j 0∈aM E o:=by
  rw[List.getD_eq_getElem?_getD,List.getElem?_eq_getElem hj];exact List.getElem_mem _
 exact ho.mem.1 ((kM E o).mem h1)
end
end
def aR (S:List Int) (p:Nat):Int:=S.getD p 0
structure yK (S:List Int) (l:List Rc) (E:List Ed):Prop where
 up:S.Pairwise (·<·)
 len:E.length=l.length
 ed:∀i<l.length,∃a b:Nat,a<S.length∧b<S.length∧aO E i=⟨a,b,(l.getD i qU).w⟩∧aR S a=(l.getD i qU).u∧aR S b=(l.getD i qU).v
 all:∀x,x∈S↔∃r∈l,r.u=x∨r.v=x
theorem pK {S:List Int} (h:S.Pairwise (·<·)) {p q:Nat} (hpq:p<q) (hq:q<S.length):aR S p<aR S q:=by
 unfold aR;rw[List.getD_eq_getElem?_getD,List.getD_eq_getElem?_getD,List.getElem?_eq_getElem hq,List.getElem?_eq_getElem om];exact List.pairwise_iff_getElem.1 h p q om hq hpq
theorem oz {S:List Int} (h:S.Pairwise (·<·)) {p q:Nat} (hp:p<S.length) (hq:q<S.length) (e:aR S p=aR S q):p=q:=by
 rcases Nat.lt_trichotomy p q with k |k |k
 ·have:=pK h k hq;omega
 ·exact k
 ·have:=pK h k hp;omega
theorem Ry {S:List Int} {p:Nat} (hp:p<S.length):aR S p∈S:=by
 unfold aR;rw[List.getD_eq_getElem?_getD,List.getElem?_eq_getElem hp];exact List.getElem_mem hp
theorem Ke {S:List Int} {x:Int} (h:x∈S):∃p,p<S.length∧aR S p=x:=by
 obtain⟨p,hp,e⟩:=List.mem_iff_getElem.1 h;exact⟨p,hp,by unfold aR;rw[List.getD_eq_getElem?_getD,List.getElem?_eq_getElem hp];exact e⟩
def bL (l:List Rc) (θ:Int):List Rc:=l.filter λr=>decide (r.w≤θ)
section
variable {S:List Int} {l:List Rc} {E:List Ed}
theorem yK.pair (h:yK S l E) {i:Nat} (hi:i<l.length):(gP E i).1<S.length∧(gP E i).2<S.length∧aR S (gP E i).1=(l.getD i qU).u∧aR S (gP E i).2=(l.getD i qU).v∧(aO E i).w=(l.getD i qU).w:=by
 obtain⟨a,b,h1,h2,h3,h4,h5⟩:=h.ed i hi;unfold gP;rw[h3];exact⟨h1,h2,h4,h5,rfl⟩
theorem ER {l:List Rc} {i:Nat} (h:i<l.length):l.getD i qU∈l:=by
 rw[List.getD_eq_getElem?_getD,List.getElem?_eq_getElem h];exact List.getElem_mem h
theorem yK.cn (h:yK S l E) {P:Nat→Bool} {Q:Rc→Bool} (hPQ:∀i<l.length,P i=Q (l.getD i qU)) {p q:Nat} (hp:p<S.length) (hq:q<S.length):
  bT E ((List.range E.length).filter P) p=bT E ((List.range E.length).filter P) q↔dK (RL (l.filter Q)) (aR S p) (aR S q):=by
 unfold bT;rw[wE]
 have hm:∀x,x∈((List.range E.length).filter P).map (gP E)↔∃i,i<l.length∧Q (l.getD i qU)=true∧gP E i=x:=λx=>by
  rw[List.mem_map];constructor
  ·rintro⟨i,hi,rfl⟩;obtain⟨h1,h2⟩:=List.mem_filter.1 hi
   have h3:i<l.length:=by rw[←h.len];exact List.mem_range.1 h1
   exact⟨i,h3,by rw[←hPQ i h3];exact h2,rfl⟩
  ·rintro⟨i,hi,h2,rfl⟩;exact⟨i,List.mem_filter.2 ⟨List.mem_range.2 (by rw[h.len];exact hi),by rw[hPQ i hi];exact h2⟩,rfl⟩
 constructor
 ·intro k
  have key:∀{b:Nat},Cn (((List.range E.length).filter P).map (gP E)) p b→dK (RL (l.filter Q)) (aR S p) (aR S b):=by
   intro b k
   induction k with
   |refl=>exact .refl
   |step _ e ih=>
    rcases e with e |e
    ·obtain⟨i,hi,hQ,e2⟩:=(hm _).1 e;obtain⟨_,_,h3,h4,_⟩:=h.pair hi;rw[e2] at h3 h4;exact .step ih ⟨l.getD i qU,List.mem_filter.2 ⟨ER hi,hQ⟩,.inl ⟨h3.symm,h4.symm⟩⟩
    ·obtain⟨i,hi,hQ,e2⟩:=(hm _).1 e;obtain⟨_,_,h3,h4,_⟩:=h.pair hi;rw[e2] at h3 h4;exact .step ih ⟨l.getD i qU,List.mem_filter.2 ⟨ER hi,hQ⟩,.inr ⟨h3.symm,h4.symm⟩⟩
  exact key k
 ·intro k
  have key:∀{y:Int},dK (RL (l.filter Q)) (aR S p) y→∃b,b<S.length∧aR S b=y∧Cn (((List.range E.length).filter P).map (gP E)) p b:=by
   intro y k
   induction k with
   |refl=>exact⟨p,hp,rfl,.refl p⟩
   |step _ e ih=>
    obtain⟨b,hb,hby,hc⟩:=ih;obtain⟨r,hr,e⟩:=e;obtain⟨hr1,hr2⟩:=List.mem_filter.1 hr;obtain⟨i,hi,rfl⟩:=List.mem_iff_getElem.1 hr1
    have hgi:l.getD i qU=l[i]:=by rw[List.getD_eq_getElem?_getD,List.getElem?_eq_getElem hi];rfl
    obtain⟨h1,h2,h3,h4,_⟩:=h.pair hi;rw[hgi] at h3 h4;have hin:=(hm (gP E i)).2 ⟨i,hi,by rw[hgi];exact hr2,rfl⟩
    rcases e with⟨e1,e2⟩ |⟨e1,e2⟩
    ·have hb2:b=(gP E i).1:=oz h.up hb h1 (by rw[hby,h3,e1]);refine⟨(gP E i).2,h2,by rw[h4,e2],.step hc (.inl ?_)⟩;rw[hb2];exact hin
    ·have hb2:b=(gP E i).2:=oz h.up hb h2 (by rw[hby,h4,e2]);refine⟨(gP E i).1,h1,by rw[h3,e1],.step hc (.inr ?_)⟩;rw[hb2];exact hin
  obtain⟨b,hb,e,hc⟩:=key k;have:=oz h.up hb hq e;rw[←this];exact hc
theorem yK.light (h:yK S l E) (θ:Int) {p q:Nat} (hp:p<S.length) (hq:q<S.length):gV E θ p=gV E θ q↔dK (RL (bL l θ)) (aR S p) (aR S q):=
 h.cn (λi hi=>by
  unfold GU
  rw[(h.pair hi).2.2.2.2]) hp hq
theorem yK.part (h:yK S l E) (θ:Int) {p:Nat} (hp:p<S.length):
  (fP (bL l θ) (aR S p)).length=bO S.length (gV E θ) p∧xu (fP (bL l θ) (aR S p))=aR S (gV E θ p)∧fP (bL l θ) (aR S p)≠[]:=by
 obtain⟨h1,h2⟩:=wQ (bL l θ) (aR S p);have hK:dR (gV E θ):=pI E _;have hlp:gV E θ p<S.length:=Nat.lt_of_le_of_lt (hK.le p) hp
 have hin:∀y,dK (RL (bL l θ)) (aR S p) y→∃q,q<S.length∧aR S q=y:=by
  intro y k
  induction k with
  |refl=>exact⟨p,hp,rfl⟩
  |step _ e _=>
   obtain⟨r,hr,e⟩:=e;have hr1:=(List.mem_filter.1 hr).1
   rcases e with⟨_,rfl⟩ |⟨rfl,_⟩
   ·exact Ke ((h.all _).2 ⟨r,hr1,.inr rfl⟩)
   ·exact Ke ((h.all _).2 ⟨r,hr1,.inl rfl⟩)
 have hm:∀y,y∈fP (bL l θ) (aR S p)↔y∈((List.range S.length).filter λj=>decide (gV E θ j=gV E θ p)).map (aR S):=λy=>by
  rw[h2,List.mem_map];constructor
  ·intro k;obtain⟨q,hq,e⟩:=hin y k;refine⟨q,List.mem_filter.2 ⟨List.mem_range.2 hq,decide_eq_true ?_⟩,e⟩;rw[←e] at k;exact((h.light θ hp hq).2 k).symm
  ·rintro⟨q,hq,rfl⟩;obtain⟨q1,q2⟩:=List.mem_filter.1 hq;exact(h.light θ hp (List.mem_range.1 q1)).1 (of_decide_eq_true q2).symm
 have hnd:(((List.range S.length).filter λj=>decide (gV E θ j=gV E θ p)).map (aR S)).Nodup:=by
  refine List.pairwise_map.2 ((List.nodup_range.filter _).imp_of_mem fun{x y} hx hy hxy e=>hxy ?_);exact oz h.up (List.mem_range.1 (List.mem_filter.1 hx).1) (List.mem_range.1 (List.mem_filter.1 hy).1) e
 have hne:fP (bL l θ) (aR S p)≠[]:=λe=>by
  have:=(h2 (aR S p)).2 .refl;rw[e] at this;simp at this
 refine⟨?_,?_,hne⟩
 ·have hp2:=(List.perm_ext_iff_of_nodup h1 hnd).2 hm;rw[hp2.length_eq,List.length_map];rfl
 ·obtain⟨k1,k2⟩:=BG hne;have h3:aR S (gV E θ p)∈fP (bL l θ) (aR S p):=(hm _).2 (List.mem_map.2 ⟨_,List.mem_filter.2 ⟨List.mem_range.2 hlp,dP (hK.idem p)⟩,rfl⟩);have h4:=k2 _ h3;obtain⟨q,hq,e⟩:=List.mem_map.1 ((hm _).1 k1);obtain⟨q1,q2⟩:=List.mem_filter.1 hq
  have h5:gV E θ p≤q:=by have:=hK.le q;rw[of_decide_eq_true q2] at this;exact this
  rcases Nat.lt_or_ge (gV E θ p) q with c |c
  ·have:=pK h.up c (List.mem_range.1 q1);omega
  ·have:q=gV E θ p:=om;rw[←e,this]
theorem yK.ids (h:yK S l E):(gW l).length=S.length∧∀x,x∈gW l↔x∈S:=by
 obtain⟨h1,h2⟩:=wF l
 have hm:∀x,x∈gW l↔x∈S:=λx=>by rw[h2,h.all]
 exact⟨((List.perm_ext_iff_of_nodup h1 (h.up.imp λk e=>om)).2 hm).length_eq,hm⟩
end
theorem uf:∀{l:List Int},l.Pairwise (·≤·)→l.Nodup→l.Pairwise (·<·)
 |[],_,_=>List.Pairwise.nil
 |a::l,h,n=>by
  obtain⟨h1,h2⟩:=List.pairwise_cons.1 h;obtain⟨n1,n2⟩:=List.nodup_cons.1 n;refine List.pairwise_cons.2 ⟨λb hb=>?_,uf h2 n2⟩;have:=h1 b hb;have:a≠b:=λe=>n1 (e▸hb);omega
theorem u6 (rc:Nat→Rc) {K:List Nat} {i:Nat} (h:i<K.length):(K.map rc).getD i qU=rc (K.getD i 0):=by
 rw[List.getD_eq_getElem?_getD,List.getD_eq_getElem?_getD,List.getElem?_map,List.getElem?_eq_getElem h];rfl
theorem yK.of {EE:Nat} {s:St} {S:List Int} {K:List Nat} {E:List Ed} (ok:jD EE s) (hp:S.Perm (s.TU.map (aJ s.ids))) (hs:S.Pairwise (·≤·)) (hK:K.Perm s.U) (hl:E.length=K.length)
  (he:∀i<K.length,∃a b:Nat,a<S.length∧b<S.length∧aO E i=⟨a,b,(s.rc (K.getD i 0)).w⟩∧aR S a=(s.rc (K.getD i 0)).u∧aR S b=(s.rc (K.getD i 0)).v):yK S (K.map s.rc) E:=by
 refine⟨uf hs (hp.nodup_iff.2 ok.J9),by rw[hl,List.length_map],λi hi=>?_,λx=>?_⟩
 ·rw[List.length_map] at hi;rw[u6 _ hi];exact he i hi
 ·rw[hp.mem_iff,St.dU,ok.CS];constructor
  ·rintro⟨k,hk,e⟩;exact⟨s.rc k,List.mem_map.2 ⟨k,hK.mem_iff.2 hk,rfl⟩,e⟩
  ·rintro⟨r,hr,e⟩;obtain⟨k,hk,rfl⟩:=List.mem_map.1 hr;exact⟨k,hK.mem_iff.1 hk,e⟩
theorem yK.place {EE:Nat} {s:St} {S:List Int} {k:Nat} (ok:jD EE s) (hp:S.Perm (s.TU.map (aJ s.ids))) (hk:k∈s.U):(s.rc k).u∈S∧(s.rc k).v∈S:=
 ⟨hp.mem_iff.2 (St.dU.2 ((ok.CS _).2 ⟨k,hk,.inl rfl⟩)),hp.mem_iff.2 (St.dU.2 ((ok.CS _).2 ⟨k,hk,.inr rfl⟩))⟩
theorem Mv {l m:List Int} (h:∀x,x∈l↔x∈m):xu l=xu m:=by
 cases l with
 |nil=>
  cases m with
  |nil=>rfl
  |cons b m=>exact absurd ((h b).2 sj) sj
 |cons a l=>
  cases m with
  |nil=>exact absurd ((h a).1 sj) sj
  |cons b m=>
   obtain⟨h1,h2⟩:=BG (l:=a::l) sj;obtain⟨h3,h4⟩:=BG (l:=b::m) sj;have:=h2 _ ((h _).2 h3);have:=h4 _ ((h _).1 h1);omega
theorem KH {l m:List Rc} (h:∀r∈l,r∈m) {x y:Int} (k:dK (RL l) x y):dK (RL m) x y:=
 k.mono λ_ _ ⟨r,hr,e⟩=>⟨r,h r hr,e⟩
theorem GR {l m:List Rc} (h:∀r,r∈l↔r∈m) (θ:Int):∀r,r∈bL l θ↔r∈bL m θ:=λr=>by
 unfold bL;rw[List.mem_filter,List.mem_filter,h]
theorem Gn {l m:List Rc} (h:∀r,r∈l↔r∈m) (x:Int):(fP l x).length=(fP m x).length∧xu (fP l x)=xu (fP m x):=by
 obtain⟨a1,a2⟩:=wQ l x;obtain⟨b1,b2⟩:=wQ m x
 have hm:∀y,y∈fP l x↔y∈fP m x:=λy=>by
  rw[a2,b2];exact⟨KH λr=>(h r).1,KH λr=>(h r).2⟩
 exact⟨((List.perm_ext_iff_of_nodup a1 b1).2 hm).length_eq,Mv hm⟩
theorem MS {l m:List Rc} (h:∀r,r∈l↔r∈m):(gW l).length=(gW m).length∧∀x,x∈gW l↔x∈gW m:=by
 obtain⟨a1,a2⟩:=wF l;obtain⟨b1,b2⟩:=wF m
 have hm:∀y,y∈gW l↔y∈gW m:=λy=>by
  rw[a2,b2];exact⟨λ⟨r,h1,h2⟩=>⟨r,(h r).1 h1,h2⟩,λ⟨r,h1,h2⟩=>⟨r,(h r).2 h1,h2⟩⟩
 exact⟨((List.perm_ext_iff_of_nodup a1 b1).2 hm).length_eq,hm⟩
theorem QS {rc:Nat→Rc} {K K':List Nat} (h:∀k,k∈K↔k∈K'):∀r,r∈K.map rc↔r∈K'.map rc:=λr=>by
 rw[List.mem_map,List.mem_map];exact⟨λ⟨k,a,b⟩=>⟨k,(h k).1 a,b⟩,λ⟨k,a,b⟩=>⟨k,(h k).2 a,b⟩⟩
structure TkR (s s':St) (t:Int):Prop where
 U:∀k,k∈s'.U↔k∈s.U∧t<s.ex k
 rc:s'.rc=s.rc
 ex:s'.ex=s.ex
theorem NQ {E V:Nat} {s1 s2:St} {u v:Int} (h1:jD E s1) (h2:jD E s2) (hm:∀k,k∈s1.U↔k∈s2.U) (hrc:s2.rc=s1.rc):gQ E V s1 u v=gQ E V s2 u v:=
 NN h1 h2 ((List.perm_ext_iff_of_nodup h2.und h1.und).2 λk=>(hm k).symm).length_eq λx=>by
  rw[h1.CS,h2.CS,hrc];exact⟨λ⟨k,a,b⟩=>⟨k,(hm k).2 a,b⟩,λ⟨k,a,b⟩=>⟨k,(hm k).1 a,b⟩⟩
theorem TkR.mono {E V:Nat} {s s':St} {t u v:Int} (a:TkR s s' t) (h:jD E s) (h':jD E s') (k:gQ E V s u v=0):gQ E V s' u v=0:=
 NP h' (bH h'.und λx hx=>((a.U x).1 hx).1) (λx hx=>by
  obtain⟨k,h1,h2⟩:=(h'.CS x).1 hx
  exact(h.CS x).2 ⟨k,((a.U k).1 h1).1,by rw[a.rc] at h2;exact h2⟩) k
end Go.Proofs.YtpaeogglppampaaGreat
