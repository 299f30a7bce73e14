/- Lemmas of the proof. Conditions: as each one states. -/
import Derived.Test.YtpaeogglppampaaGreatQd
set_option maxRecDepth 100000
set_option maxHeartbeats 16000000
namespace Go.Proofs.YtpaeogglppampaaGreat
open Go.RowKit
structure St where
 U:List Nat
 rc:Nat→Rc
 ex:Nat→Int
 sq:Nat→Int
 TU:List Nat
 ids:List Int
def St.has (s:St) (x:Int):Prop:=∃i∈s.TU,aJ s.ids i=x
structure jD (E:Nat) (s:St):Prop where
 und:s.U.Nodup
 ult:∀k∈s.U,k<E
 ne:∀k∈s.U,(s.rc k).u≠(s.rc k).v
 tnd:s.TU.Nodup
 tin:∀i∈s.TU,∀j∈s.TU,aJ s.ids i=aJ s.ids j→i=j
 CS:∀x,s.has x↔∃k∈s.U,(s.rc k).u=x∨(s.rc k).v=x
theorem bH {α:Type} [DecidableEq α]:∀{l r:List α},l.Nodup→(∀x∈l,x∈r)→l.length≤r.length
 |[],_,_,_=>Nat.zero_le _
 |a::l,r,h,hs=>by
  rw[List.nodup_cons] at h;have h1:a∈r:=hs a (List.mem_cons_self ..);have h2:l.length≤(r.erase a).length:=bH h.2 λx hx=>(List.mem_erase_of_ne (λc=>h.1 (by rw[←c];exact hx))).2 (hs x (List.mem_cons_of_mem _ hx));rw[List.length_erase_of_mem h1] at h2;have:=List.length_pos_of_mem h1;simp only[List.length_cons];omega
theorem jD.J9 {E:Nat} {s:St} (h:jD E s):(s.TU.map (aJ s.ids)).Nodup:=
 List.pairwise_map.2 (h.tnd.imp_of_mem fun{x y} hx hy hne e=>hne (h.tin x hx y hy e))
theorem St.dU {s:St} {x:Int}:x∈s.TU.map (aJ s.ids)↔s.has x:=by
 unfold St.has;rw[List.mem_map]
theorem jD.tle {E:Nat} {s s':St} (h:jD E s) (hs:∀x,s.has x→s'.has x):s.TU.length≤s'.TU.length:=by
 have:=bH h.J9 (r:=s'.TU.map (aJ s'.ids)) λx hx=>St.dU.2 (hs x (St.dU.1 hx));simpa using this
noncomputable def St.hasB (s:St) (x:Int):Bool:=open Classical in decide (s.has x)
theorem St.mG {s:St} {x:Int} (h:s.has x):s.hasB x=true:=by classical exact dP h
theorem St.iF {s:St} {x:Int} (h:¬s.has x):s.hasB x=false:=by classical exact dF h
def bN:Bool→Nat
 |true=>0
 |false=>1
noncomputable def gQ (E V:Nat) (s:St) (u v:Int):Int:=if u=v then 9 else if E≤s.U.length then 12 else if V<s.TU.length+bN (s.hasB u)+bN (s.hasB v) then 11 else 0
theorem Co {E V:Nat} {s:St} {u v:Int} (h:gQ E V s u v=0):u≠v∧s.U.length<E∧s.TU.length+bN (s.hasB u)+bN (s.hasB v)≤V:=by
 unfold gQ at h
 by_cases c1:u=v
 ·rw[if_pos c1] at h;omega
 ·rw[if_neg c1] at h
  by_cases c2:E≤s.U.length
  ·rw[if_pos c2] at h;omega
  ·rw[if_neg c2] at h
   by_cases c3:V<s.TU.length+bN (s.hasB u)+bN (s.hasB v)
   ·rw[if_pos c3] at h;omega
   ·exact⟨c1,om,om⟩
theorem NP {E V:Nat} {s s':St} {u v:Int} (h':jD E s') (hU:s'.U.length≤s.U.length) (hs:∀x,s'.has x→s.has x) (k:gQ E V s u v=0):gQ E V s' u v=0:=by
 obtain⟨k1,k2,k3⟩:=Co k;unfold gQ;rw[if_neg k1,if_neg om,if_neg]
 have key:∀X:List Int,X.Nodup→(∀x∈X,¬s'.has x)→(∀x∈X,s.has x)→s'.TU.length+X.length≤s.TU.length:=λX hX hn hh=>by
  have:=bH (l:=s'.TU.map (aJ s'.ids)++X) (r:=s.TU.map (aJ s.ids)) (List.nodup_append.2 ⟨h'.J9,hX,λa ha b hb e=>hn b hb (e▸St.dU.1 ha)⟩) λx hx=>
   (List.mem_append.1 hx).elim (λe=>St.dU.2 (hs x (St.dU.1 e))) λe=>St.dU.2 (hh x e)
  simpa using this
 have k0:=key [] List.nodup_nil sj sj
 have B:∀b:Bool,bN b≤1:=λb=>by cases b<;>decide
 have b1:=B (s'.hasB u);have b2:=B (s'.hasB v)
 have hu:bN (s'.hasB u)=bN (s.hasB u)∨s.has u∧¬s'.has u∧bN (s'.hasB u)=1∧bN (s.hasB u)=0:=by
  by_cases a:s'.has u
  ·rw[St.mG a,St.mG (hs _ a)];exact .inl rfl
  ·by_cases b:s.has u
   ·rw[St.iF a,St.mG b];exact .inr ⟨b,a,rfl,rfl⟩
   ·rw[St.iF a,St.iF b];exact .inl rfl
 have hv:bN (s'.hasB v)=bN (s.hasB v)∨s.has v∧¬s'.has v∧bN (s'.hasB v)=1∧bN (s.hasB v)=0:=by
  by_cases a:s'.has v
  ·rw[St.mG a,St.mG (hs _ a)];exact .inl rfl
  ·by_cases b:s.has v
   ·rw[St.iF a,St.mG b];exact .inr ⟨b,a,rfl,rfl⟩
   ·rw[St.iF a,St.iF b];exact .inl rfl
 simp only[List.length_nil,Nat.add_zero] at k0
 rcases hu with hu |⟨u1,u2,u3,u4⟩<;>rcases hv with hv |⟨v1,v2,v3,v4⟩
 ·omega
 ·have:=key [v] sj (by simp[v2]) (by simp[v1]);simp only[List.length_cons,List.length_nil] at this;omega
 ·have:=key [u] sj (by simp[u2]) (by simp[u1]);simp only[List.length_cons,List.length_nil] at this;omega
 ·have:=key [u,v] (by simp[k1]) (by simp[u2,v2]) (by simp[u1,v1]);simp only[List.length_cons,List.length_nil] at this;omega
theorem NN {E V:Nat} {s s':St} {u v:Int} (h:jD E s) (h':jD E s') (hU:s'.U.length=s.U.length) (hs:∀x,s'.has x↔s.has x):gQ E V s u v=gQ E V s' u v:=by
 have t1:=h'.tle λx=>(hs x).1;have t2:=h.tle λx=>(hs x).2;have t:s'.TU.length=s.TU.length:=om
 have e:∀x,s'.hasB x=s.hasB x:=λx=>by
  by_cases a:s.has x
  ·rw[St.mG a,St.mG ((hs x).2 a)]
  ·rw[St.iF a,St.iF λb=>a ((hs x).1 b)]
 unfold gQ;rw[hU,t,e,e]
def vS (ex:Nat→Int) (now:Int):List Nat→List Nat→Prop
 |U,[]=>∀k∈U,now<ex k
 |U,x::xs=>(x∈U∧ex x≤now∧∀k∈U,k=x∨(ex x<ex k∨ex x=ex k∧x<k))∧vS ex now (U.erase x) xs
theorem vS.mem {ex:Nat→Int} {now:Int}:∀{xs U:List Nat},U.Nodup→vS ex now U xs→∀k,k∈xs.foldl List.erase U↔k∈U∧now<ex k
 |[],U,_,h,k=>⟨λhk=>⟨hk,h k hk⟩,λhk=>hk.1⟩
 |x::xs,U,hn,⟨⟨h1,h2,h3⟩,h4⟩,k=>by
  rw[List.foldl_cons,vS.mem (hn.erase x) h4 k,hn.mem_erase_iff];constructor
  ·rintro⟨⟨_,b⟩,c⟩;exact⟨b,c⟩
  ·rintro⟨b,c⟩;exact⟨⟨λe=>by rw[e] at c;omega,b⟩,c⟩
theorem kN:∀{xs U:List Nat},U.Nodup→(xs.foldl List.erase U).Nodup
 |[],_,h=>h
 |x::xs,_,h=>by rw[List.foldl_cons];exact kN (h.erase x)
structure Fy (E V:Nat) (s:St) (f:Fs):Prop where
 st:jD E s
 fo:iH E V f
 lv:∀k,f.lv k=true↔k∈s.U
 fx:∀k∈s.U,f.x k=s.ex k
 fa:∀k∈s.U,f.a k∈s.TU∧aJ s.ids (f.a k)=(s.rc k).u
 fb:∀k∈s.U,f.b k∈s.TU∧aJ s.ids (f.b k)=(s.rc k).v
end Go.Proofs.YtpaeogglppampaaGreat
