/- Lemmas of the proof. Conditions: as each one states. -/
import Derived.Test.YtpaeogglppampaaGreatDoorQq
import Derived.Lib.SlicesCompact
set_option maxRecDepth 100000
set_option maxHeartbeats 16000000
namespace Go.Proofs.YtpaeogglppampaaGreatDoor
open Go.RowKit
section
open Go.Lib
def gQ (E:List Ed) (θ:Int):Nat→Nat:=bR E ((List.range E.length).filter (NI E θ))
def lbB (E:List Ed) (θ:Int):Nat→Nat:=bR E ((List.range E.length).filter (ltW E θ))
def mrg (n:Nat) (E:List Ed) (w:Int):Bool:=decide (iV n (gQ E w)≠iV n (lbB E w))
structure agA (n:Nat) (E:List Ed) (l:List Int):Prop where
 up:l.Pairwise (·<·)
 wt:∀x∈l,∃i,i<E.length∧(aR E i).w=x
 at_:∀i<E.length,((aR E i).w∈l↔mrg n E (aR E i).w=true)
def ws (E:List Ed) (f:List Nat):List Int:=f.map λi=>(aR E i).w
section
variable {n:Nat} {E:List Ed} {o:List Nat}
theorem Jv (ho:bO E o) (θ:Int):bW E (aH E o) (YO (aH E o) (NI E θ))=gQ E θ:=Vr ho DZ
theorem Rz (ho:bO E o) {j:Nat} (hj:j<(aH E o).length):(aH E o).getD j 0<E.length:=by
 have h1:(aH E o).getD j 0∈aH E o:=by
  rw[List.getD_eq_getElem?_getD,List.getElem?_eq_getElem hj];exact List.getElem_mem _
 exact ho.mem.1 ((kK E o).mem h1)
end
end
def aQ (S:List Int) (p:Nat):Int:=S.getD p 0
structure yt (S:List Int) (l:List Rc) (E:List Ed):Prop where
 up:S.Pairwise (·<·)
 len:E.length=l.length
 ed:∀i<l.length,∃a b:Nat,a<S.length∧b<S.length∧aR E i=⟨a,b,(l.getD i Fh).w⟩∧aQ S a=(l.getD i Fh).u∧aQ S b=(l.getD i Fh).v
 all:∀x,x∈S↔∃r∈l,r.u=x∨r.v=x
theorem sQ {S:List Int} (h:S.Pairwise (·<·)) {p q:Nat} (hpq:p<q) (hq:q<S.length):aQ S p<aQ S q:=by
 unfold aQ;rw[List.getD_eq_getElem?_getD,List.getD_eq_getElem?_getD,List.getElem?_eq_getElem hq,List.getElem?_eq_getElem om];exact List.pairwise_iff_getElem.1 h p q om hq hpq
theorem jY {S:List Int} (h:S.Pairwise (·<·)) {p q:Nat} (hp:p<S.length) (hq:q<S.length) (e:aQ S p=aQ S q):p=q:=by
 rcases Nat.lt_trichotomy p q with k |k |k
 ·have:=sQ h k hq;omega
 ·exact k
 ·have:=sQ h k hp;omega
theorem JF {S:List Int} {x:Int} (h:x∈S):∃p,p<S.length∧aQ S p=x:=by
 obtain⟨p,hp,e⟩:=List.mem_iff_getElem.1 h;exact⟨p,hp,by unfold aQ;rw[List.getD_eq_getElem?_getD,List.getElem?_eq_getElem hp];exact e⟩
def jV (l:List Rc) (θ:Int):List Rc:=l.filter λr=>decide (r.w≤θ)
section
variable {S:List Int} {l:List Rc} {E:List Ed}
theorem yt.pair (h:yt S l E) {i:Nat} (hi:i<l.length):(gJ E i).1<S.length∧(gJ E i).2<S.length∧aQ S (gJ E i).1=(l.getD i Fh).u∧aQ S (gJ E i).2=(l.getD i Fh).v∧(aR E i).w=(l.getD i Fh).w:=by
 obtain⟨a,b,h1,h2,h3,h4,h5⟩:=h.ed i hi;unfold gJ;rw[h3];exact⟨h1,h2,h4,h5,rfl⟩
theorem Ev {l:List Rc} {i:Nat} (h:i<l.length):l.getD i Fh∈l:=by
 rw[List.getD_eq_getElem?_getD,List.getElem?_eq_getElem h];exact List.getElem_mem h
theorem yt.cn (h:yt S l E) {P:Nat→Bool} {Q:Rc→Bool} (hPQ:∀i<l.length,P i=Q (l.getD i Fh)) {p q:Nat} (hp:p<S.length) (hq:q<S.length):
  bR E ((List.range E.length).filter P) p=bR E ((List.range E.length).filter P) q↔cZ (RL (l.filter Q)) (aQ S p) (aQ S q):=by
 unfold bR;rw[wB]
 have hm:∀x,x∈((List.range E.length).filter P).map (gJ E)↔∃i,i<l.length∧Q (l.getD i Fh)=true∧gJ E i=x:=λx=>by
  rw[List.mem_map];constructor
  ·rintro⟨i,hi,rfl⟩;obtain⟨h1,h2⟩:=List.mem_filter.1 hi
   have h3:i<l.length:=by rw[←h.len];exact List.mem_range.1 h1
   exact⟨i,h3,by rw[←hPQ i h3];exact h2,rfl⟩
  ·rintro⟨i,hi,h2,rfl⟩;exact⟨i,List.mem_filter.2 ⟨List.mem_range.2 (by rw[h.len];exact hi),by rw[hPQ i hi];exact h2⟩,rfl⟩
 constructor
 ·intro k
  have key:∀{b:Nat},Cn (((List.range E.length).filter P).map (gJ E)) p b→cZ (RL (l.filter Q)) (aQ S p) (aQ S b):=by
   intro b k
   induction k with
   |refl=>exact .refl
   |step _ e ih=>
    rcases e with e |e
    ·obtain⟨i,hi,hQ,e2⟩:=(hm _).1 e;obtain⟨_,_,h3,h4,_⟩:=h.pair hi;rw[e2] at h3 h4;exact .step ih ⟨l.getD i Fh,List.mem_filter.2 ⟨Ev hi,hQ⟩,.inl ⟨h3.symm,h4.symm⟩⟩
    ·obtain⟨i,hi,hQ,e2⟩:=(hm _).1 e;obtain⟨_,_,h3,h4,_⟩:=h.pair hi;rw[e2] at h3 h4;exact .step ih ⟨l.getD i Fh,List.mem_filter.2 ⟨Ev hi,hQ⟩,.inr ⟨h3.symm,h4.symm⟩⟩
  exact key k
 ·intro k
  have key:∀{y:Int},cZ (RL (l.filter Q)) (aQ S p) y→∃b,b<S.length∧aQ S b=y∧Cn (((List.range E.length).filter P).map (gJ E)) p b:=by
   intro y k
   induction k with
   |refl=>exact⟨p,hp,rfl,.refl p⟩
   |step _ e ih=>
    obtain⟨b,hb,hby,hc⟩:=ih;obtain⟨r,hr,e⟩:=e;obtain⟨hr1,hr2⟩:=List.mem_filter.1 hr;obtain⟨i,hi,rfl⟩:=List.mem_iff_getElem.1 hr1
    have hgi:l.getD i Fh=l[i]:=by rw[List.getD_eq_getElem?_getD,List.getElem?_eq_getElem hi];rfl
    obtain⟨h1,h2,h3,h4,_⟩:=h.pair hi;rw[hgi] at h3 h4;have hin:=(hm (gJ E i)).2 ⟨i,hi,by rw[hgi];exact hr2,rfl⟩
    rcases e with⟨e1,e2⟩ |⟨e1,e2⟩
    ·have hb2:b=(gJ E i).1:=jY h.up hb h1 (by rw[hby,h3,e1]);refine⟨(gJ E i).2,h2,by rw[h4,e2],.step hc (.inl ?_)⟩;rw[hb2];exact hin
    ·have hb2:b=(gJ E i).2:=jY h.up hb h2 (by rw[hby,h4,e2]);refine⟨(gJ E i).1,h1,by rw[h3,e1],.step hc (.inr ?_)⟩;rw[hb2];exact hin
  obtain⟨b,hb,e,hc⟩:=key k;have:=jY h.up hb hq e;rw[←this];exact hc
theorem yt.light (h:yt S l E) (θ:Int) {p q:Nat} (hp:p<S.length) (hq:q<S.length):gQ E θ p=gQ E θ q↔cZ (RL (jV l θ)) (aQ S p) (aQ S q):=
 h.cn (λi hi=>by
  unfold NI
  rw[(h.pair hi).2.2.2.2]) hp hq
theorem yt.part (h:yt S l E) (θ:Int) {p:Nat} (hp:p<S.length):
  (mY (jV l θ) (aQ S p)).length=dU S.length (gQ E θ) p∧Qz (mY (jV l θ) (aQ S p))=aQ S (gQ E θ p)∧mY (jV l θ) (aQ S p)≠[]:=by
 obtain⟨h1,h2⟩:=PG (jV l θ) (aQ S p);have hK:gP (gQ E θ):=vZ E _;have hlp:gQ E θ p<S.length:=Nat.lt_of_le_of_lt (hK.le p) hp
 have hin:∀y,cZ (RL (jV l θ)) (aQ S p) y→∃q,q<S.length∧aQ S q=y:=by
  intro y k
  induction k with
  |refl=>exact⟨p,hp,rfl⟩
  |step _ e _=>
   obtain⟨r,hr,e⟩:=e;have hr1:=(List.mem_filter.1 hr).1
   rcases e with⟨_,rfl⟩ |⟨rfl,_⟩
   ·exact JF ((h.all _).2 ⟨r,hr1,.inr rfl⟩)
   ·exact JF ((h.all _).2 ⟨r,hr1,.inl rfl⟩)
 have hm:∀y,y∈mY (jV l θ) (aQ S p)↔y∈((List.range S.length).filter λj=>decide (gQ E θ j=gQ E θ p)).map (aQ S):=λy=>by
  rw[h2,List.mem_map];constructor
  ·intro k;obtain⟨q,hq,e⟩:=hin y k;refine⟨q,List.mem_filter.2 ⟨List.mem_range.2 hq,decide_eq_true ?_⟩,e⟩;rw[←e] at k;exact((h.light θ hp hq).2 k).symm
  ·rintro⟨q,hq,rfl⟩;obtain⟨q1,q2⟩:=List.mem_filter.1 hq;exact(h.light θ hp (List.mem_range.1 q1)).1 (of_decide_eq_true q2).symm
 have hnd:(((List.range S.length).filter λj=>decide (gQ E θ j=gQ E θ p)).map (aQ S)).Nodup:=by
  refine List.pairwise_map.2 ((List.nodup_range.filter _).imp_of_mem fun{x y} hx hy hxy e=>hxy ?_);exact jY h.up (List.mem_range.1 (List.mem_filter.1 hx).1) (List.mem_range.1 (List.mem_filter.1 hy).1) e
 have hne:mY (jV l θ) (aQ S p)≠[]:=λe=>by
  have:=(h2 (aQ S p)).2 .refl;rw[e] at this;simp at this
 refine⟨?_,?_,hne⟩
 ·have hp2:=(List.perm_ext_iff_of_nodup h1 hnd).2 hm;rw[hp2.length_eq,List.length_map];rfl
 ·obtain⟨k1,k2⟩:=Vi hne;have h3:aQ S (gQ E θ p)∈mY (jV l θ) (aQ S p):=(hm _).2 (List.mem_map.2 ⟨_,List.mem_filter.2 ⟨List.mem_range.2 hlp,dP (hK.idem p)⟩,rfl⟩);have h4:=k2 _ h3;obtain⟨q,hq,e⟩:=List.mem_map.1 ((hm _).1 k1);obtain⟨q1,q2⟩:=List.mem_filter.1 hq
  have h5:gQ E θ p≤q:=by have:=hK.le q;rw[of_decide_eq_true q2] at this;exact this
  rcases Nat.lt_or_ge (gQ E θ p) q with c |c
  ·have:=sQ h.up c (List.mem_range.1 q1);omega
  ·have:q=gQ E θ p:=om;rw[←e,this]
end
theorem uh:∀{l:List Int},l.Pairwise (·≤·)→l.Nodup→l.Pairwise (·<·)
 |[],_,_=>List.Pairwise.nil
 |a::l,h,n=>by
  obtain⟨h1,h2⟩:=List.pairwise_cons.1 h;obtain⟨n1,n2⟩:=List.nodup_cons.1 n;refine List.pairwise_cons.2 ⟨λb hb=>?_,uh h2 n2⟩;have:=h1 b hb;have:a≠b:=λe=>n1 (e▸hb);omega
theorem Ew (rc:Nat→Rc) {K:List Nat} {i:Nat} (h:i<K.length):(K.map rc).getD i Fh=rc (K.getD i 0):=by
 rw[List.getD_eq_getElem?_getD,List.getD_eq_getElem?_getD,List.getElem?_map,List.getElem?_eq_getElem h];rfl
theorem yt.of {EE:Nat} {s:St} {S:List Int} {K:List Nat} {E:List Ed} (ok:jA EE s) (hp:S.Perm (s.TU.map (aJ s.ids))) (hs:S.Pairwise (·≤·)) (hK:K.Perm s.U) (hl:E.length=K.length)
  (he:∀i<K.length,∃a b:Nat,a<S.length∧b<S.length∧aR E i=⟨a,b,(s.rc (K.getD i 0)).w⟩∧aQ S a=(s.rc (K.getD i 0)).u∧aQ S b=(s.rc (K.getD i 0)).v):yt S (K.map s.rc) E:=by
 refine⟨uh hs (hp.nodup_iff.2 ok.JD),by rw[hl,List.length_map],λi hi=>?_,λx=>?_⟩
 ·rw[List.length_map] at hi;rw[Ew _ hi];exact he i hi
 ·rw[hp.mem_iff,St.fu,ok.Ej];constructor
  ·rintro⟨k,hk,e⟩;exact⟨s.rc k,List.mem_map.2 ⟨k,hK.mem_iff.2 hk,rfl⟩,e⟩
  ·rintro⟨r,hr,e⟩;obtain⟨k,hk,rfl⟩:=List.mem_map.1 hr;exact⟨k,hK.mem_iff.1 hk,e⟩
theorem yt.place {EE:Nat} {s:St} {S:List Int} {k:Nat} (ok:jA EE s) (hp:S.Perm (s.TU.map (aJ s.ids))) (hk:k∈s.U):(s.rc k).u∈S∧(s.rc k).v∈S:=
 ⟨hp.mem_iff.2 (St.fu.2 ((ok.Ej _).2 ⟨k,hk,.inl rfl⟩)),hp.mem_iff.2 (St.fu.2 ((ok.Ej _).2 ⟨k,hk,.inr rfl⟩))⟩
structure TkR (s s':St) (t:Int):Prop where
 U:∀k,k∈s'.U↔k∈s.U∧t<s.ex k
 rc:s'.rc=s.rc
 ex:s'.ex=s.ex
theorem Na {E V:Nat} {s1 s2:St} {u v:Int} (h1:jA E s1) (h2:jA E s2) (hm:∀k,k∈s1.U↔k∈s2.U) (hrc:s2.rc=s1.rc):gK E V s1 u v=gK E V s2 u v:=
 M7 h1 h2 ((List.perm_ext_iff_of_nodup h2.und h1.und).2 λk=>(hm k).symm).length_eq λx=>by
  rw[h1.Ej,h2.Ej,hrc];exact⟨λ⟨k,a,b⟩=>⟨k,(hm k).2 a,b⟩,λ⟨k,a,b⟩=>⟨k,(hm k).1 a,b⟩⟩
theorem TkR.mono {E V:Nat} {s s':St} {t u v:Int} (a:TkR s s' t) (h:jA E s) (h':jA E s') (k:gK E V s u v=0):gK E V s' u v=0:=
 M9 h' (bG h'.und λx hx=>((a.U x).1 hx).1) (λx hx=>by
  obtain⟨k,h1,h2⟩:=(h'.Ej x).1 hx
  exact(h.Ej x).2 ⟨k,((a.U k).1 h1).1,by rw[a.rc] at h2;exact h2⟩) k
end Go.Proofs.YtpaeogglppampaaGreatDoor
