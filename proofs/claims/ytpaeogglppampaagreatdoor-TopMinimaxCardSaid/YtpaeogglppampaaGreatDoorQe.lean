/- Lemmas of the proof. Conditions: as each one states. -/
import Derived.Test.YtpaeogglppampaaGreatDoorQd
set_option maxRecDepth 100000
set_option maxHeartbeats 16000000
namespace Go.Proofs.YtpaeogglppampaaGreatDoor
open Go.RowKit
structure St where
 U:List Nat
 rc:Nat→Rc
 ex:Nat→Int
 sq:Nat→Int
 TU:List Nat
 ids:List Int
def St.has (s:St) (x:Int):Prop:=∃i∈s.TU,aJ s.ids i=x
structure jA (E:Nat) (s:St):Prop where
 und:s.U.Nodup
 ult:∀k∈s.U,k<E
 ne:∀k∈s.U,(s.rc k).u≠(s.rc k).v
 tnd:s.TU.Nodup
 tin:∀i∈s.TU,∀j∈s.TU,aJ s.ids i=aJ s.ids j→i=j
 Ej:∀x,s.has x↔∃k∈s.U,(s.rc k).u=x∨(s.rc k).v=x
theorem bG {α:Type} [DecidableEq α]:∀{l r:List α},l.Nodup→(∀x∈l,x∈r)→l.length≤r.length
 |[],_,_,_=>Nat.zero_le _
 |a::l,r,h,hs=>by
  rw[List.nodup_cons] at h;have h1:a∈r:=hs a (List.mem_cons_self ..);have h2:l.length≤(r.erase a).length:=bG h.2 λx hx=>(List.mem_erase_of_ne (λc=>h.1 (by rw[←c];exact hx))).2 (hs x (List.mem_cons_of_mem _ hx));rw[List.length_erase_of_mem h1] at h2;have:=List.length_pos_of_mem h1;simp only[List.length_cons];omega
theorem jA.JD {E:Nat} {s:St} (h:jA E s):(s.TU.map (aJ s.ids)).Nodup:=
 List.pairwise_map.2 (h.tnd.imp_of_mem fun{x y} hx hy hne e=>hne (h.tin x hx y hy e))
theorem St.fu {s:St} {x:Int}:x∈s.TU.map (aJ s.ids)↔s.has x:=by
 unfold St.has;rw[List.mem_map]
theorem jA.tle {E:Nat} {s s':St} (h:jA E s) (hs:∀x,s.has x→s'.has x):s.TU.length≤s'.TU.length:=by
 have:=bG h.JD (r:=s'.TU.map (aJ s'.ids)) λx hx=>St.fu.2 (hs x (St.fu.1 hx));simpa using this
noncomputable def St.hasB (s:St) (x:Int):Bool:=open Classical in decide (s.has x)
theorem St.mF {s:St} {x:Int} (h:s.has x):s.hasB x=true:=by classical exact dP h
theorem St.iw {s:St} {x:Int} (h:¬s.has x):s.hasB x=false:=by classical exact dF h
def bN:Bool→Nat
 |true=>0
 |false=>1
noncomputable def gK (E V:Nat) (s:St) (u v:Int):Int:=if u=v then 9 else if E≤s.U.length then 12 else if V<s.TU.length+bN (s.hasB u)+bN (s.hasB v) then 11 else 0
theorem BQ {E V:Nat} {s:St} {u v:Int} (h:gK E V s u v=0):u≠v∧s.U.length<E∧s.TU.length+bN (s.hasB u)+bN (s.hasB v)≤V:=by
 unfold gK at h
 by_cases c1:u=v
 ·rw[if_pos c1] at h;omega
 ·rw[if_neg c1] at h
  by_cases c2:E≤s.U.length
  ·rw[if_pos c2] at h;omega
  ·rw[if_neg c2] at h
   by_cases c3:V<s.TU.length+bN (s.hasB u)+bN (s.hasB v)
   ·rw[if_pos c3] at h;omega
   ·exact⟨c1,om,om⟩
theorem M9 {E V:Nat} {s s':St} {u v:Int} (h':jA E s') (hU:s'.U.length≤s.U.length) (hs:∀x,s'.has x→s.has x) (k:gK E V s u v=0):gK E V s' u v=0:=by
 obtain⟨k1,k2,k3⟩:=BQ k;unfold gK;rw[if_neg k1,if_neg om,if_neg]
 have key:∀X:List Int,X.Nodup→(∀x∈X,¬s'.has x)→(∀x∈X,s.has x)→s'.TU.length+X.length≤s.TU.length:=λX hX hn hh=>by
  have:=bG (l:=s'.TU.map (aJ s'.ids)++X) (r:=s.TU.map (aJ s.ids)) (List.nodup_append.2 ⟨h'.JD,hX,λa ha b hb e=>hn b hb (e▸St.fu.1 ha)⟩) λx hx=>
   (List.mem_append.1 hx).elim (λe=>St.fu.2 (hs x (St.fu.1 e))) λe=>St.fu.2 (hh x e)
  simpa using this
 have k0:=key [] List.nodup_nil sj sj
 have B:∀b:Bool,bN b≤1:=λb=>by cases b<;>decide
 have b1:=B (s'.hasB u);have b2:=B (s'.hasB v)
 have hu:bN (s'.hasB u)=bN (s.hasB u)∨s.has u∧¬s'.has u∧bN (s'.hasB u)=1∧bN (s.hasB u)=0:=by
  by_cases a:s'.has u
  ·rw[St.mF a,St.mF (hs _ a)];exact .inl rfl
  ·by_cases b:s.has u
   ·rw[St.iw a,St.mF b];exact .inr ⟨b,a,rfl,rfl⟩
   ·rw[St.iw a,St.iw b];exact .inl rfl
 have hv:bN (s'.hasB v)=bN (s.hasB v)∨s.has v∧¬s'.has v∧bN (s'.hasB v)=1∧bN (s.hasB v)=0:=by
  by_cases a:s'.has v
  ·rw[St.mF a,St.mF (hs _ a)];exact .inl rfl
  ·by_cases b:s.has v
   ·rw[St.iw a,St.mF b];exact .inr ⟨b,a,rfl,rfl⟩
   ·rw[St.iw a,St.iw b];exact .inl rfl
 simp only[List.length_nil,Nat.add_zero] at k0
 rcases hu with hu |⟨u1,u2,u3,u4⟩<;>rcases hv with hv |⟨v1,v2,v3,v4⟩
 ·omega
 ·have:=key [v] sj (by simp[v2]) (by simp[v1]);simp only[List.length_cons,List.length_nil] at this;omega
 ·have:=key [u] sj (by simp[u2]) (by simp[u1]);simp only[List.length_cons,List.length_nil] at this;omega
 ·have:=key [u,v] (by simp[k1]) (by simp[u2,v2]) (by simp[u1,v1]);simp only[List.length_cons,List.length_nil] at this;omega
theorem M7 {E V:Nat} {s s':St} {u v:Int} (h:jA E s) (h':jA E s') (hU:s'.U.length=s.U.length) (hs:∀x,s'.has x↔s.has x):gK E V s u v=gK E V s' u v:=by
 have t1:=h'.tle λx=>(hs x).1;have t2:=h.tle λx=>(hs x).2;have t:s'.TU.length=s.TU.length:=om
 have e:∀x,s'.hasB x=s.hasB x:=λx=>by
  by_cases a:s.has x
  ·rw[St.mF a,St.mF ((hs x).2 a)]
  ·rw[St.iw a,St.iw λb=>a ((hs x).1 b)]
 unfold gK;rw[hU,t,e,e]
def vQ (ex:Nat→Int) (now:Int):List Nat→List Nat→Prop
 |U,[]=>∀k∈U,now<ex k
 |U,x::xs=>(x∈U∧ex x≤now∧∀k∈U,k=x∨(ex x<ex k∨ex x=ex k∧x<k))∧vQ ex now (U.erase x) xs
theorem vQ.mem {ex:Nat→Int} {now:Int}:∀{xs U:List Nat},U.Nodup→vQ ex now U xs→∀k,k∈xs.foldl List.erase U↔k∈U∧now<ex k
 |[],U,_,h,k=>⟨λhk=>⟨hk,h k hk⟩,λhk=>hk.1⟩
 |x::xs,U,hn,⟨⟨h1,h2,h3⟩,h4⟩,k=>by
  rw[List.foldl_cons,vQ.mem (hn.erase x) h4 k,hn.mem_erase_iff];constructor
  ·rintro⟨⟨_,b⟩,c⟩;exact⟨b,c⟩
  ·rintro⟨b,c⟩;exact⟨⟨λe=>by rw[e] at c;omega,b⟩,c⟩
theorem kM:∀{xs U:List Nat},U.Nodup→(xs.foldl List.erase U).Nodup
 |[],_,h=>h
 |x::xs,_,h=>by rw[List.foldl_cons];exact kM (h.erase x)
structure y7 (E V:Nat) (s:St) (f:Fs):Prop where
 st:jA E s
 fo:gM E V f
 lv:∀k,f.lv k=true↔k∈s.U
 fx:∀k∈s.U,f.x k=s.ex k
 fa:∀k∈s.U,f.a k∈s.TU∧aJ s.ids (f.a k)=(s.rc k).u
 fb:∀k∈s.U,f.b k∈s.TU∧aJ s.ids (f.b k)=(s.rc k).v
theorem Gg {s:St} {r:Rc}:r∈s.U.map s.rc↔∃k∈s.U,s.rc k=r:=List.mem_map
theorem y7.conn {E V:Nat} {s:St} {f:Fs} (h:y7 E V s f) {a b:Nat} (ha:a∈s.TU) (hb:b∈s.TU):Ct f (λk=>f.lv k=true) a b↔cZ (RL (s.U.map s.rc)) (aJ s.ids a) (aJ s.ids b):=by
 constructor
 ·intro k;have:=cZ.clo (C:=λy=>y∈s.TU∧cZ (RL (s.U.map s.rc)) (aJ s.ids a) (aJ s.ids y)) (λy z e hy=>?_) k ⟨ha,.refl⟩
  ·exact this.2
  ·obtain⟨x,hx,e⟩:=e;have hU:=(h.lv x).1 hx;obtain⟨a1,a2⟩:=h.fa x hU;obtain⟨b1,b2⟩:=h.fb x hU
   rcases e with⟨e1,e2⟩ |⟨e1,e2⟩
   ·rw[e2] at b1 b2;rw[e1] at a2;exact⟨b1,.step hy.2 ⟨_,Gg.2 ⟨x,hU,rfl⟩,.inl ⟨a2.symm,b2.symm⟩⟩⟩
   ·rw[e1] at a1 a2;rw[e2] at b2;exact⟨a1,.step hy.2 ⟨_,Gg.2 ⟨x,hU,rfl⟩,.inr ⟨a2.symm,b2.symm⟩⟩⟩
 ·intro k;have:=cZ.clo (C:=λx=>∃i∈s.TU,aJ s.ids i=x∧Ct f (λk=>f.lv k=true) a i) (λy z e hy=>?_) k ⟨a,ha,rfl,.refl⟩
  ·obtain⟨i,h1,h2,h3⟩:=this
   rwa [h.st.tin i h1 b hb h2] at h3
  ·obtain⟨i,h1,h2,h3⟩:=hy;obtain⟨r,hr,e⟩:=e;obtain⟨x,hU,rfl⟩:=Gg.1 hr;obtain⟨a1,a2⟩:=h.fa x hU;obtain⟨b1,b2⟩:=h.fb x hU
   rcases e with⟨e1,e2⟩ |⟨e1,e2⟩
   ·have:f.a x=i:=h.st.tin _ a1 i h1 (by rw[a2,e1,h2]);exact⟨f.b x,b1,b2.trans e2,.step h3 ⟨x,(h.lv x).2 hU,.inl ⟨this,rfl⟩⟩⟩
   ·have:f.b x=i:=h.st.tin _ b1 i h1 (by rw[b2,e2,h2]);exact⟨f.a x,a1,a2.trans e1,.step h3 ⟨x,(h.lv x).2 hU,.inr ⟨rfl,this⟩⟩⟩
def NI (E:List Ed) (θ:Int) (i:Nat):Bool:=decide ((aR E i).w≤θ)
end Go.Proofs.YtpaeogglppampaaGreatDoor
