/- Lemmas of the proof. Conditions: as each one states. -/
import Derived.Test.YtpaeogglppampaaGreatDoorQa
import Derived.OrdersHeld
import Derived.Deep.RegionHeld
import Derived.OrdersIn
import Derived.RangeFuncNested
import Derived.Test.YtpaeogglppampaaGreatDoorRows
import Derived.RegionTactic
set_option maxRecDepth 100000
set_option maxHeartbeats 16000000
namespace Go.Proofs.YtpaeogglppampaaGreatDoor
open Go.RowKit
section
variable {P:Program} {ops:Array Oper} {l n:Nat} {md:Region.Mode}
def aK (K:Act→World→Prop):Exit→Act→World→Prop:=λe a w=>e=.normal∧K a w
theorem aK.panic {K:Act→World→Prop} {c:List PanicEntry} {a:Act} {w:World} (h:aK K (.panic c) a w):False:=by cases h.1
theorem DJ (K:Act→World→Prop):¬LetsOut (aK K):=λ⟨_,_,h,_⟩=>by cases h
theorem FV {o:Oper} {a:Act} {w:World} {K X:Act→World→Prop} (hd:∀c,o.op≠.defer c) (h:Oper.wp P o a w K (aK X)):Oper.wpIn (Fence.wide.inRound l) n P o a w K (aK X):=by
 refine⟨λ_ _=>trivial,?_⟩;rw[Oper.semAt_eq _ _ _ hd];unfold Oper.wp at h;generalize (execOp a.eval o).run P w=r at*
 cases r with
 |ok x w'=>
  cases x<;>simp only[Oper.upon] at h<;>simp only[Oper.uponIn]
  case value v=>exact h
  case skip=>exact h
  case defer d=>exact h
  case enter f args=>exact⟨λhh=>absurd hh (by simp[Fence.wide]),CallsIn.inRound l (callsIn_wide.2 h)⟩
  case row r args=>
   refine⟨λhh=>absurd hh (by simp[Fence.wide]),λc cs _=>?_⟩;obtain⟨v,w',hr,s⟩:=h c cs;exact⟨v,w',hr,stepsIn_wide.2 s⟩
 |halt x w'=>cases x<;>simp only[Oper.upon] at h<;>simp only[Oper.uponIn]<;>exact h
def Ba (ops:Array Oper):Bool:=ops.all λo=>match o.op with |.defer _=>false |_=>true
theorem Ga (h:Ba ops=true) {i:Nat} {o:Oper} (ho:ops[i]?=some o):∀c,o.op≠.defer c:=by
 intro c hc;have:=Array.all_eq_true_iff_forall_mem.1 h o (Array.mem_of_getElem? ho);simp[hc] at this
theorem pI {X:Act→World→Prop} (hn:Ba ops=true):∀(fuel:Nat) (listed:Array Bool) (a:Act) (w:World),wpAny P md ops (aK X) fuel listed a w→wpAnyIn (Fence.wide.inRound l) n P md ops (aK X) fuel listed a w
 |0,_,_,_,h=>h
 |fuel+1,listed,a,w,h=>⟨h.1,λi hi=>by
  have h1:=h.2 i hi;unfold wpOp at h1;unfold wpOpIn
  cases ho:ops[i]? with
  |none=>simp only[ho] at h1⊢;exact pI hn fuel _ a w h1
  |some o=>
   simp only[ho] at h1⊢
   by_cases hw:Region.wanted o (yielded ops a.tmps)=true
   ·rw[if_pos hw] at h1⊢
    rcases h1 with h1 |⟨_,h1⟩
    ·exact Oper.wpIn_mono (λa' w' h'=>pI hn fuel _ a' w' h') (FV (Ga hn ho) h1)
    ·exact absurd h1 (DJ X)
   ·rw[if_neg hw] at h1⊢
    exact⟨λ_ _=>trivial,pI hn fuel _ _ w h1⟩⟩
theorem take_at {Q:Exit→Act→World→Prop} {S:World→Prop} {i d:Nat} {oi:Oper} {v:Value} {fuel:Nat} {listed:Array Bool} {tmps:Array Value} {ds:List Deferred} {w:World} (hi:ops[i]?=some oi) (hd:oi.dst=some d)
  (hs:Region.noSelect ops=true) (hf:Region.free md ops listed i=true) (hr:(Region.ready md ops listed).contains i=true)
  (hQ:∀c a a' w,Q (.panic c) a w→Q (.panic c) a' w) (hw:Region.wanted oi (yielded ops tmps)=true) (hy:∀w,S w→(execOp (Act.eval { tmps:=tmps,defers:=ds }) oi).run P w=.ok (.value v) w) (hS:S w)
  (h:wpAnyH P md ops Q S fuel (listed.setIfInBounds i true) { tmps:=tmps.setIfInBounds d v,defers:=ds } w):wpAnyH P md ops Q S (fuel+1) listed { tmps:=tmps,defers:=ds } w:=
 wpAnyH_take hi hs hf hr (λc a w=>hQ c _ _ w) (.inl ⟨hw,hy⟩) hS (by rw[hd];exact h)
theorem aK.any {K:Act→World→Prop} {c:List PanicEntry} {a a':Act} {w:World} (h:aK K (.panic c) a w):aK K (.panic c) a' w:=h.panic.elim
theorem rO {Q:Exit→Act→World→Prop} {id:Nat} {a:Act} {w:World} (S:World→Prop) (hm:P.follows .mixedOrders=true) (hn:Ba ops=true)
  (h:wpAnyH P .any ops (aK λa w=>Q .normal a w) S ops.size (Array.replicate ops.size false) a w.drew):(Code.region id ops true).wpIn (Fence.wide.inRound l) n P Q a w:=by
 refine wpIn_mono (wpIn_region_any hm (pI hn _ _ _ _ (wpAny_of_held _ _ _ _ h))) ?_;rintro e a w ⟨rfl,h⟩;exact h
theorem aj {Q:Exit→Act→World→Prop} {id:Nat} {a:Act} {w:World} (S:World→Prop) (hm:P.follows .mixedOrders=true)
  (h:wpAnyH P .any ops (aK λa w=>Q .normal a w) S ops.size (Array.replicate ops.size false) a w.drew):(Code.region id ops true).wp P Q a w:=by
 refine wp_mono (wp_region_held hm h) ?_;rintro e a w ⟨rfl,h⟩;exact h
end
section
variable {P:Program} {md:Region.Mode} {ops:Array Oper}
theorem tC (i:Nat) {d:Nat} {K:Act→World→Prop} {S:World→Prop} {oi:Oper} {v:Value} {fuel:Nat} {listed:Array Bool} {tmps:Array Value} {ds:List Deferred} {w:World}
  (h:wpAnyH P md ops (aK K) S fuel (listed.setIfInBounds i true) { tmps:=tmps.setIfInBounds d v,defers:=ds } w)
  (hS:S w:=by exact HS) (hi:ops[i]?=some oi:=by exact rfl) (hd:oi.dst=some d:=by exact rfl)
  (hs:Region.noSelect ops=true:=by kernel_rfl) (hf:Region.free md ops listed i=true:=by kernel_rfl) (hr:(Region.ready md ops listed).contains i=true:=by kernel_rfl)
  (hw:Region.wanted oi (yielded ops tmps)=true:=by(try simp only[sD]);exact rfl) (hy:∀w,S w→(execOp (Act.eval { tmps:=tmps,defers:=ds }) oi).run P w=.ok (.value v) w:=by intro w' hSw;(try simp only[sD]);(try dsimp only at hSw);go_simp;try (with_reducible rfl)):
  wpAnyH P md ops (aK K) S (fuel+1) listed { tmps:=tmps,defers:=ds } w:=
 take_at hi hd hs hf hr (λ_ _ _ _=>aK.any) hw hy hS h
theorem sC (i:Nat) {d:Nat} {K:Act→World→Prop} {S:World→Prop} {oi:Oper} {fuel:Nat} {listed:Array Bool} {tmps:Array Value} {ds:List Deferred} {w:World}
  (h:wpAnyH P md ops (aK K) S fuel (listed.setIfInBounds i true) { tmps:=tmps.setIfInBounds d undef,defers:=ds } w)
  (hS:S w:=by exact HS) (hi:ops[i]?=some oi:=by exact rfl) (hd:oi.dst=some d:=by exact rfl)
  (hs:Region.noSelect ops=true:=by kernel_rfl) (hf:Region.free md ops listed i=true:=by kernel_rfl) (hr:(Region.ready md ops listed).contains i=true:=by kernel_rfl)
  (hw:Region.wanted oi (yielded ops tmps)=false:=by(try simp only[sD]);exact rfl):
  wpAnyH P md ops (aK K) S (fuel+1) listed { tmps:=tmps,defers:=ds } w:=
 wpAnyH_take hi hs hf hr (λ_ _ _ h=>aK.any h) (.inr ⟨hw,rfl⟩) hS (by rw[hd];exact h)
theorem wl {Q:Exit→Act→World→Prop} {S:World→Prop} {fuel:Nat} {l l':Array Bool} {a:Act} {w:World} (h:wpAnyH P md ops Q S fuel l a w) (e:l'=l:=by kernel_rfl):wpAnyH P md ops Q S fuel l' a w:=e▸h
theorem Py {Q:Exit→Act→World→Prop} {S:World→Prop} (rs:List Nat) {fuel:Nat} {listed:Array Bool} {a:Act} {w:World} (h:AllReadyH P md ops Q S fuel listed a w rs) (hr:Region.ready md ops listed=rs:=by kernel_rfl) (hne:rs≠[]:=by simp):wpAnyH P md ops Q S (fuel+1) listed a w:=wpAnyH_ready hr hne h
theorem rC {Q:Exit→Act→World→Prop} {S:World→Prop} (i:Nat) {fuel:Nat} {listed:Array Bool} {a:Act} {w:World} {o:Oper}
  (h:∀K':Act→World→Prop,Shut (∀a w,S w→(S w→wpAnyH P md ops Q S fuel (listed.setIfInBounds i true) a w)→K' a w)→if Region.wanted o (yielded ops a.tmps)=true then Oper.wp P o a w K' Q else K' (a.put o.dst undef) w)
  (ho:ops[i]?=some o:=by exact rfl) (hr:Region.ready md ops listed=[i]:=by kernel_rfl):wpAnyH P md ops Q S (fuel+1) listed a w:=wpAnyH_ready hr sj (AllReadyH.cons ho h AllReadyH.nil)
theorem dD {K:Act→World→Prop} {S:World→Prop} {fuel:Nat} {listed:Array Bool} {a:Act} {w:World} (h:aK K .normal a w) (hr:Region.ready md ops listed=[]:=by kernel_rfl):wpAnyH P md ops (aK K) S fuel listed a w:=wpAnyH_done hr h _
end
theorem tw {P G:Prop} (k:P→G) (t:P):G:=k t
theorem tw2 {α β:Type} (C:α→β→Prop) {Q:α→β→Prop} {G:Prop} (k:(∀a b,C a b→Q a b)→G) (t:∀a b,C a b→Q a b):G:=k t
theorem tw6 {a b c d e f:Type} (C:a→b→c→d→e→f→Prop) {Q:a→b→c→d→e→f→Prop} {G:Prop} (k:(∀u v x y z t,C u v x y z t→Q u v x y z t)→G) (t:∀u v x y z t,C u v x y z t→Q u v x y z t):G:=k t
theorem uT {α:Type} {P:List α→Prop} (h0:P []) (h1:∀l a,P l→P (l++[a])) (l:List α):P l:=by
 have key:∀(n:Nat) (l:List α),l.length=n→P l:=by
  intro n
  induction n with
  |zero=>intro l hl;rw[List.eq_nil_of_length_eq_zero hl];exact h0
  |succ n ih=>
   intro l hl
   have hne:l≠[]:=λe=>by rw[e] at hl;cases hl
   rw[←List.dropLast_concat_getLast hne];exact h1 _ _ (ih _ (by rw[List.length_dropLast];omega))
 exact key _ l rfl
structure Mk where
 i:Nat
 d:Nat
 obj:Obj
 val:Nat→Value
def zL (L:Array Bool) (D:List Nat):Array Bool:=D.foldl (λL i=>L.setIfInBounds i true) L
def AF (blk:Nat→Nat) (T:Array Value) (D:List Mk):Array Value:=D.foldl (λT m=>T.setIfInBounds m.d (m.val (blk m.i))) T
def zx:List Nat→List (List Nat)
 |[]=>[[]]
 |x::t=>zx t++(zx t).map (x::·)
theorem nZ (p:Nat→Bool):∀l:List Nat,l.filter p∈zx l
 |[]=>by simp[zx]
 |x::t=>by
  have:=nZ p t;unfold zx
  by_cases h:p x=true
  ·rw[List.filter_cons_of_pos h,List.mem_append];exact .inr (List.mem_map_of_mem this)
  ·rw[List.filter_cons_of_neg h,List.mem_append];exact .inl this
def ab8 (md:Region.Mode) (ops:Array Oper) (L:Array Bool) (idx:List Nat) (stops:List (List Nat)):Bool:=
 (zx idx).all λs=>stops.contains s||(s.length !=idx.length&&(!(Region.ready md ops (zL L s)).isEmpty&&(Region.ready md ops (zL L s)).all λj=>idx.contains j&&!s.contains j))
theorem QA (L:Array Bool) (D:List Nat) (k:Nat):(zL L D)[k]?=if k∈D then(if k<L.size then some true else none) else L[k]?:=by
 induction D using uT with
 |h0=>simp[zL]
 |h1 D i ih=>
  have hsz:∀D:List Nat,(zL L D).size=L.size:=λD=>by
   induction D using uT with
   |h0=>rfl
   |h1 D i ih=>unfold zL at*;rw[List.foldl_append,List.foldl_cons,List.foldl_nil,Array.size_setIfInBounds];exact ih
  have e:zL L (D++[i])=(zL L D).setIfInBounds i true:=by unfold zL;rw[List.foldl_append,List.foldl_cons,List.foldl_nil]
  rw[e,Array.getElem?_setIfInBounds,ih,hsz]
  by_cases h:i=k
  ·subst h;simp
  ·have h2:¬k=i:=λc=>h c.symm;simp[h,h2]
theorem DX {L:Array Bool} {D D':List Nat} (h:∀k,k∈D↔k∈D'):zL L D=zL L D':=by
 refine Array.ext_getElem? λk=>?_;rw[QA,QA]
 by_cases c:k∈D
 ·rw[if_pos c,if_pos ((h k).1 c)]
 ·rw[if_neg c,if_neg (λe=>c ((h k).2 e))]
theorem Ot (blk:Nat→Nat) (T:Array Value) (D:List Mk):(AF blk T D).size=T.size:=by
 induction D using uT with
 |h0=>rfl
 |h1 D m ih=>unfold AF at*;rw[List.foldl_append,List.foldl_cons,List.foldl_nil,Array.size_setIfInBounds];exact ih
theorem nO (blk:Nat→Nat) (T:Array Value) (D:List Mk) (m:Mk):AF blk T (D++[m])=(AF blk T D).setIfInBounds m.d (m.val (blk m.i)):=by
 unfold AF;rw[List.foldl_append,List.foldl_cons,List.foldl_nil]
theorem Az (blk:Nat→Nat) (T:Array Value) (D:List Mk) (k:Nat) (h:∀m∈D,m.d≠k):(AF blk T D)[k]?=T[k]?:=by
 induction D using uT with
 |h0=>rfl
 |h1 D m ih=>
  rw[nO,Array.getElem?_setIfInBounds,if_neg (h m sj)];exact ih λx hx=>h x (by simp[hx])
theorem Ou (blk:Nat→Nat) (T:Array Value) (D:List Mk) (hn:(D.map (·.d)).Nodup) (m:Mk) (hm:m∈D):(AF blk T D)[m.d]?=if m.d<T.size then some (m.val (blk m.i)) else none:=by
 induction D using uT with
 |h0=>cases hm
 |h1 D x ih=>
  rw[List.map_append,List.nodup_append] at hn;rw[nO,Array.getElem?_setIfInBounds,Ot]
  rcases List.mem_append.1 hm with h |h
  ·have hne:x.d≠m.d:=λc=>hn.2.2 m.d (List.mem_map_of_mem h) x.d sj c.symm;rw[if_neg hne];exact ih hn.1 h
  ·obtain rfl:m=x:=by simpa using h
   rw[if_pos rfl]
theorem C9 {blk ad5:Nat→Nat} {T:Array Value} {D D':List Mk} (hn:(D.map (·.d)).Nodup) (hn':(D'.map (·.d)).Nodup) (h:∀m,m∈D↔m∈D') (hb:∀m∈D,blk m.i=ad5 m.i):AF blk T D=AF ad5 T D':=by
 refine Array.ext_getElem? λk=>?_
 by_cases c:∃m,m∈D∧m.d=k
 ·obtain⟨m,hm,rfl⟩:=c;rw[Ou _ _ _ hn m hm,Ou _ _ _ hn' m ((h m).1 hm),hb m hm]
 ·rw[Az _ _ _ _ (λm hm e=>c ⟨m,hm,e⟩),Az _ _ _ _ (λm hm e=>c ⟨m,(h m).2 hm,e⟩)]
theorem rT {α β:Type} {f:α→β} {l:List α} (h:(l.map f).Nodup):l.Nodup:=by
 rw[List.Nodup,List.pairwise_map] at h;exact h.imp λhab e=>hab (by rw[e])
theorem acL {ql:List Mk} (hI:(ql.map (·.i)).Nodup) {a b:Mk} (ha:a∈ql) (hb:b∈ql) (e:a.i=b.i):a=b:=by
 obtain⟨i,hi,rfl⟩:=List.mem_iff_getElem.1 ha;obtain⟨j,hj,rfl⟩:=List.mem_iff_getElem.1 hb;have hp:=List.pairwise_map.1 hI;rw[List.pairwise_iff_getElem] at hp
 rcases Nat.lt_trichotomy i j with c |c |c
 ·exact absurd e (hp i j hi hj c)
 ·subst c;rfl
 ·exact absurd e.symm (hp j i hj hi c)
theorem nT {ql D:List Mk} (hn:(D.map (·.i)).Nodup) (hsub:∀m∈D,m∈ql) (hD:(ql.map (·.d)).Nodup):(D.map (·.d)).Nodup:=by
 have h0:=rT hn;rw[List.Nodup,List.pairwise_map];refine List.Pairwise.imp_of_mem ?_ h0;intro a b ha hb hab e;have hp:=List.pairwise_map.1 hD;obtain⟨i,hi,rfl⟩:=List.mem_iff_getElem.1 (hsub a ha);obtain⟨j,hj,rfl⟩:=List.mem_iff_getElem.1 (hsub b hb);rw[List.pairwise_iff_getElem] at hp
 rcases Nat.lt_trichotomy i j with c |c |c
 ·exact hp i j hi hj c e
 ·subst c;exact hab rfl
 ·exact hp j i hj hi c e.symm
structure Laid (w0 w:World) (D:List Mk) (blk:Nat→Nat):Prop where
 dO:Below w0.heap.size w0 w
 at_:∀m∈D,w0.heap.size≤blk m.i∧w.heap[blk m.i]?=some m.obj
 ne:∀m m',m∈D→m'∈D→m.i≠m'.i→blk m.i≠blk m'.i
theorem Laid.step {w0 w:World} {D:List Mk} {blk:Nat→Nat} (h:Laid w0 w D blk) (m:Mk) (hm:∀x∈D,x.i≠m.i):Laid w0 (w.alloc m.obj) (D++[m]) (λi=>if i=m.i then w.heap.size else blk i):=by
 have hlt:∀x∈D,blk x.i<w.heap.size:=λx hx=>(Array.getElem?_eq_some_iff.1 (h.at_ x hx).2).1;refine⟨h.dO.alloc h.dO.size _,λx hx=>?_,λx y hx hy hne=>?_⟩
 ·rcases List.mem_append.1 hx with hx |hx
  ·rw[if_neg (hm x hx)];exact⟨(h.at_ x hx).1,(Below.heap_alloc w _ _ (hlt x hx)).trans (h.at_ x hx).2⟩
  ·obtain rfl:x=m:=by simpa using hx
   rw[if_pos rfl];exact⟨h.dO.size,heap_alloc_new w _⟩
 ·rcases List.mem_append.1 hx with hx1 |hx1<;>rcases List.mem_append.1 hy with hy1 |hy1
  ·rw[if_neg (hm x hx1),if_neg (hm y hy1)];exact h.ne x y hx1 hy1 hne
  ·have e:y=m:=by simpa using hy1
   rw[if_neg (hm x hx1),e,if_pos rfl];have:=hlt x hx1;omega
  ·have e:x=m:=by simpa using hx1
   rw[if_neg (hm y hy1),e,if_pos rfl];have:=hlt y hy1;omega
  ·have e:x=m:=by simpa using hx1
   have e':y=m:=by simpa using hy1
   exact absurd (by rw[e,e']) hne
section
variable {P:Program} {md:Region.Mode} {ops:Array Oper} {Q:Exit→Act→World→Prop} {S:World→Prop}
theorem Lr (ql:List Mk) (stops:List (List Nat)) (L:Array Bool) (T:Array Value) (ds:List Deferred) (w0:World) (fuel:Nat) (hI:(ql.map (·.i)).Nodup) (hD:(ql.map (·.d)).Nodup) (hrd:ab8 md ops L (ql.map (·.i)) stops=true)
  (hop:∀m∈ql,∀(T':Array Value) (w:World) (K:Act→World→Prop),(∀k,(∀x∈ql,x.d≠k)→T'[k]?=T[k]?)→K { tmps:=T'.setIfInBounds m.d (m.val w.heap.size),defers:=ds } (w.alloc m.obj)→wpOp P ops Q m.i K { tmps:=T',defers:=ds } w)
  (hS:∀w o,S w→S (w.alloc o)) (hS0:S w0)
  (h:∀s∈stops,∀(blk:Nat→Nat) (w:World),Laid w0 w (ql.filter λm=>s.contains m.i) blk→S w→wpAnyH P md ops Q S (fuel+(ql.length-s.length)) (zL L s) { tmps:=AF blk T (ql.filter λm=>s.contains m.i),defers:=ds } w):
  wpAnyH P md ops Q S (fuel+ql.length) L { tmps:=T,defers:=ds } w0:=by
 have key:∀(r:Nat) (D:List Mk) (blk:Nat→Nat) (w:World),(D.map (·.i)).Nodup→(∀m∈D,m∈ql)→D.length+r=ql.length→Laid w0 w D blk→S w→wpAnyH P md ops Q S (fuel+r) (zL L (D.map (·.i))) { tmps:=AF blk T D,defers:=ds } w:=by
  intro r
  induction r with
  |zero=>
   intro D blk w hn hsub hlen hl hw;have hck:=List.all_eq_true.1 hrd _ (nZ (λi=>(D.map (·.i)).contains i) (ql.map (·.i)))
   have hmem:∀m∈ql,m∈D:=λm hm=>by
    refine Classical.byContradiction λc=>?_;have h1:(m::D).Nodup:=List.nodup_cons.2 ⟨c,rT hn⟩
    have h2:=List.Nodup.length_le_of_subset (l₂:=ql) h1 (λx hx=>by
     rcases List.mem_cons.1 hx with rfl |hx
     ·exact hm
     ·exact hsub x hx)
    simp at h2;omega
   have hall:(ql.map (·.i)).filter (λi=>(D.map (·.i)).contains i)=ql.map (·.i):=List.filter_eq_self.2 λi hi=>by
    obtain⟨m,hm,rfl⟩:=List.mem_map.1 hi;rw[List.contains_iff_mem];exact List.mem_map_of_mem (hmem m hm)
   rw[hall] at hck;rw[Bool.or_eq_true] at hck;have hst:=hck.resolve_right (λc=>by rw[Bool.and_eq_true] at c;simp at c)
   have hf:ql.filter (λm=>(ql.map (·.i)).contains m.i)=ql:=List.filter_eq_self.2 λm hm=>by
    rw[List.contains_iff_mem];exact List.mem_map_of_mem hm
   have hnd:(D.map (·.d)).Nodup:=nT hn hsub hD;have hg:=h _ (List.contains_iff_mem.1 hst) blk w (by rw[hf];exact⟨hl.dO,λm hm=>hl.at_ m (hmem m hm),λm m' hm hm'=>hl.ne m m' (hmem m hm) (hmem m' hm')⟩) hw;rw[hf,List.length_map,Nat.sub_self] at hg
   rw[DX (D':=ql.map (·.i)) (λk=>by
    simp only[List.mem_map]
    exact⟨λ⟨m,hm,e⟩=>⟨m,hsub m hm,e⟩,λ⟨m,hm,e⟩=>⟨m,hmem m hm,e⟩⟩),C9 hnd hD (λm=>⟨hsub m,hmem m⟩) (λ_ _=>rfl)]
   exact hg
  |succ r ih=>
   intro D blk w hn hsub hlen hl hw;have hck:=List.all_eq_true.1 hrd _ (nZ (λi=>(D.map (·.i)).contains i) (ql.map (·.i)));obtain⟨s,hs⟩:∃s,(ql.map (·.i)).filter (λi=>(D.map (·.i)).contains i)=s:=⟨_,rfl⟩;rw[hs] at hck
   have hsm:∀k,k∈s↔k∈D.map (·.i):=λk=>by
    rw[←hs,List.mem_filter];simp only[List.contains_iff_mem];refine⟨λh=>h.2,λh=>⟨?_,h⟩⟩;obtain⟨m,hm,rfl⟩:=List.mem_map.1 h;exact List.mem_map_of_mem (hsub m hm)
   have hsl:s.length=D.length:=by
    have hsn:s.Nodup:=by rw[←hs];exact List.Pairwise.filter _ hI
    have h1:=List.Nodup.length_le_of_subset (l₂:=D.map (·.i)) hsn (λx hx=>(hsm x).1 hx);have h2:=List.Nodup.length_le_of_subset (l₂:=s) hn (λx hx=>(hsm x).2 hx);rw[List.length_map] at h1 h2;omega
   have hsame:zL L s=zL L (D.map (·.i)):=DX hsm;rw[Bool.or_eq_true] at hck
   by_cases hst:stops.contains s=true
   ·have hfm:∀m,m∈D↔m∈ql.filter (λm=>s.contains m.i):=λm=>by
     rw[List.mem_filter,List.contains_iff_mem,hsm];refine⟨λhm=>⟨hsub m hm,List.mem_map_of_mem hm⟩,λ⟨hm,hi⟩=>?_⟩;obtain⟨x,hx,e⟩:=List.mem_map.1 hi;have:=acL hI (hsub x hx) hm e;rw[←this];exact hx
    have hg:=h s (List.contains_iff_mem.1 hst) blk w ⟨hl.dO,λm hm=>hl.at_ m ((hfm m).2 hm),λm m' hm hm'=>hl.ne m m' ((hfm m).2 hm) ((hfm m').2 hm')⟩ hw;rw[hsl,show ql.length-D.length=r+1 by omega,hsame] at hg;rw[C9 (nT hn hsub hD) (nT (List.Pairwise.sublist (List.Sublist.map _ List.filter_sublist) hI) (λm hm=>(List.mem_filter.1 hm).1) hD) hfm (λ_ _=>rfl)];exact hg
   ·have hck:=hck.resolve_left hst;rw[Bool.and_eq_true,Bool.and_eq_true,List.all_eq_true] at hck;obtain⟨_,hne,hall⟩:=hck;rw[hsame] at hne hall;refine wpAnyH_all rfl (λc=>by rw[c] at hne;simp at hne) λi hi=>?_;have h3:=hall i hi;rw[Bool.and_eq_true] at h3;obtain⟨m,hm,rfl⟩:=List.mem_map.1 (List.contains_iff_mem.1 h3.1)
    have hmi:∀x∈D,x.i≠m.i:=λx hx c=>by
     have h4:s.contains m.i=true:=by
      rw[List.contains_iff_mem,hsm,←c];exact List.mem_map_of_mem hx
     have h5:=h3.2;rw[h4] at h5;cases h5
    refine hop m hm _ w _ (λk hk=>Az _ _ _ _ (λx hx=>hk x (hsub x hx))) ⟨hS _ _ hw,?_⟩
    have h6:=ih (D++[m]) (λi=>if i=m.i then w.heap.size else blk i) (w.alloc m.obj) (by
     rw[List.map_append,List.nodup_append]
     exact⟨hn,sj,λa ha b hb=>by
      obtain⟨x,hx,rfl⟩:=List.mem_map.1 ha
      obtain rfl:b=m.i:=by simpa using hb
      exact hmi x hx⟩) (λx hx=>by
     rcases List.mem_append.1 hx with hx |hx
     ·exact hsub x hx
     ·obtain rfl:x=m:=by simpa using hx
      exact hm) (by simp;omega) (hl.step m hmi) (hS _ _ hw)
    rw[nO,if_pos rfl,List.map_append] at h6
    have e1:zL L (D.map (·.i)++[m].map (·.i))=(zL L (D.map (·.i))).setIfInBounds m.i true:=by
     unfold zL;rw[List.foldl_append];rfl
    have e2:AF (λi=>if i=m.i then w.heap.size else blk i) T D=AF blk T D:=by
     have:∀(D:List Mk),(∀x∈D,x.i≠m.i)→AF (λi=>if i=m.i then w.heap.size else blk i) T D=AF blk T D:=by
      intro D
      induction D using uT with
      |h0=>intro _;rfl
      |h1 D x ih2=>
       intro hx;rw[nO,nO,ih2 (λy hy=>hx y (by simp[hy])),if_neg (hx x sj)]
     exact this D hmi
    rw[e1,e2] at h6;exact h6
 exact key ql.length [] (λ_=>0) w0 sj (λm hm=>by cases hm) sj ⟨Below.refl _ _,λm hm=>(by cases hm),λm m' hm=>(by cases hm)⟩ hS0
theorem DC {o:Oper} {i d:Nat} {obj:Obj} {v:Value} {T:Array Value} {ds:List Deferred} {w:World} {K:Act→World→Prop} (ho:ops[i]?=some o) (hg:o.guard=none) (hd:o.dst=some d)
  (hr:(execOp (Act.eval { tmps:=T,defers:=ds }) o).run P w=.ok (.value v) (w.alloc obj)) (hK:K { tmps:=T.setIfInBounds d v,defers:=ds } (w.alloc obj)):wpOp P ops Q i K { tmps:=T,defers:=ds } w:=by
 refine wpOp_step ho λK' hK'=>?_
 have hw:Region.wanted o (yielded ops T)=true:=by simp[Region.wanted,hg]
 rw[if_pos hw];unfold Oper.wp;rw[hr];simp only[Oper.upon,hd,Act.put];exact hK' _ _ hK
theorem jR {o:Oper} {i d t:Nat} {x y:Operand} {obj:Obj} {v:Value} {T:Array Value} {ds:List Deferred} {w:World} {K:Act→World→Prop} (ho:ops[i]?=some o) (hg:o.guard=none) (hd:o.dst=some d) (hx:o.op=.makeSlice t x y)
  (hr:(Instr.makeSlice t (Act.eval { tmps:=T,defers:=ds } x) (Act.eval { tmps:=T,defers:=ds } y)).run P w=.ok v (w.alloc obj)) (hK:K { tmps:=T.setIfInBounds d v,defers:=ds } (w.alloc obj)):wpOp P ops Q i K { tmps:=T,defers:=ds } w:=by
 refine DC ho hg hd ?_ hK;unfold execOp;rw[hx];simp only[Sem.run_bind,hr,Sem.run_pure]
 rfl
theorem Qc {o:Oper} {i d t:Nat} {obj:Obj} {v:Value} {T:Array Value} {ds:List Deferred} {w:World} {K:Act→World→Prop} (ho:ops[i]?=some o) (hg:o.guard=none) (hd:o.dst=some d) (hx:o.op=.alloc t)
  (hr:(Instr.alloc t true (.tuple #[])).run P w=.ok v (w.alloc obj)) (hK:K { tmps:=T.setIfInBounds d v,defers:=ds } (w.alloc obj)):wpOp P ops Q i K { tmps:=T,defers:=ds } w:=by
 refine DC ho hg hd ?_ hK;unfold execOp;rw[hx];simp only[Sem.run_bind,hr,Sem.run_pure]
 rfl
end
end Go.Proofs.YtpaeogglppampaaGreatDoor
