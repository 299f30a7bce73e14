/- Lemmas of the proof. Conditions: as each one states. -/
import Derived.Test.YtpaeogglppampaaGreatDoorQj
import Derived.RangeFuncOwn
import Derived.RangeFuncBox
import Derived.Deep.RegionHeld
set_option maxRecDepth 100000
set_option maxHeartbeats 16000000
namespace Go.Proofs.YtpaeogglppampaaGreatDoor
open Go.RowKit
structure OwnRows {α:Type} (st e:TypeId) (size:Nat) (enc:α→List Value) (base eb n:Nat) (R:Nat→List α) (w:World):Prop where
 lo:base≤eb
 ne:st≠e
 ex:∃V:Nat→Value,w.rowIs eb st n V∧(∀i<n,w.ownsRow base e size (V i) (R i).length ((R i).flatMap enc))∧∀i j g,i<n→j<n→i≠j→(V i).ownBlock=some g→(V j).ownBlock≠some g
theorem lX {P:Program} {ops:Array Oper} {o:Oper} {a:Act} {K:Act→World→Prop} {Q:Exit→Act→World→Prop} {X:Prop} {w0:World} {t e:TypeId} {size bytes:Nat} (hP:P=Tryz.prog) (E:ET t e size bytes) (hgd:o.guard=none) (s x:Operand)
  (ho:o.op=.call { callee:=.builtin .append,args:=#[s,x],argTypes:=#[t,t] }) (base:Nat) (v:Value) (n:Nat) (xs:List Value) (hown:w0.ownsRow base e size v n xs) (hs:a.eval s=v)
  (news:Array Value) (N:Nat) (hx:a.eval x=.slice (some ⟨N,0,none⟩) 1 1) (hN:w0.heap.size=N) (hsz:news.size=size) (h1:∀u∈news.toList,u.oneCell'=true)
  (hn:(n+1)*bytes≤140737488355328) (hm:n+1≤9223372036854775807) (hbase:base≤w0.heap.size)
  (h:∀(g cap:Nat) (w1:World),w1.ownsRow base e size (.slice (some ⟨g,0,none⟩) (n+1:Nat) cap) (n+1) (xs++news.toList)→w0.grownBy w1 v.ownBlock→Moved w0 v g→
   K (a.put o.dst (.slice (some ⟨g,0,none⟩) (n+1:Nat) cap)) w1):
  if Region.wanted o (yielded ops a.tmps)=true then Oper.wp P o a (w0.alloc (.cells news e)) K Q else X:=by
 subst hP
 have hw:Region.wanted o (yielded ops a.tmps)=true:=by simp[Region.wanted,hgd]
 rw[if_pos hw];subst hN;obtain⟨i,z,hi,hz,h2,h3,h4⟩:=E.info
 obtain⟨v',w',hr,k2,k3,k4,k5⟩:=run_append_own_at (P:=Tryz.prog) (w0.alloc (.cells news e)) base t o.type e i z size bytes E.ht hi hz h2 h3 h4 E.pos v n xs (hown.alloc _) ⟨w0.heap.size,0,none⟩ 1 1 news.toList (by simp[hsz]) (by
  intro j u hu;rw[kV,Nat.zero_add];have:=heap_alloc_new w0 (.cells news e);simp only[World.cell?,this,Option.isSome_none,Bool.false_eq_true,if_false]
  rw[Array.getElem?_toList] at hu;exact hu) h1 (by unfold maxLen;omega) hn (by simp;omega)
 unfold Oper.wp execOp;simp only[ho,resolve,invoke,builtin,Sem.run_bind,Sem.run_pure,Result.andThen_ok,List.map_toArray,List.map_cons,List.map_nil,hs,hx,hr]
 rcases k2.2 with⟨_,h0⟩ |⟨g,cap,cur,rfl,r⟩
 ·omega
 ·refine h g cap w' k2 (iR k3) ?_
  rcases k5 with hv |hv
  ·exact .inl hv.symm
  ·right
   simp only[Value.ownBlock,Option.some.injEq,World.size_alloc] at hv;omega
def bH (l:List Nat):List Int:=l.map fun(x:Nat)=>(x:Int)
theorem LX (l:List Nat):(bH l).length=l.length:=by simp[bH]
theorem jW (l:List Nat) (i:Nat):bH (l++[i])=bH l++[(i:Int)]:=by simp[bH]
theorem lM {l:List Nat} {i:Nat}:nth (bH l) i=((l.getD i 0:Nat):Int):=by
 unfold nth bH;rw[List.getD_eq_getElem?_getD,List.getD_eq_getElem?_getD,List.getElem?_map]
 cases l[i]?<;>rfl
def iG (base:Nat) (v:Value) (l:List Nat) (w:World):Prop:=w.ownsRow base 3 1 v l.length ((bH l).map (Value.int .i64))
theorem jM {l:List Nat} {k:Nat} (h:k<l.length):l.take (k+1)=l.take k++[l.getD k 0]:=by
 rw[List.take_succ_eq_append_getElem h];simp[List.getD,h]
theorem jf {w:World} {base:Nat} {v:Value} {l:List Nat} (h:iG base v l w):∃a cap A,v=.slice a l.length cap∧Rd 62 1 w w.heap.size (.slice a l.length cap) l.length (nums .i64 (bH l)) A:=by
 have h1:w.ownsRow base 3 1 v l.length (flat (nums .i64 (bH l)) l.length 1):=by
  have:=Mr .i64 (bH l);rw[LX] at this;rw[this];exact h
 obtain⟨a,cap,A,rfl,h2⟩:=Rd.own Cw h1;exact⟨a,cap,A,rfl,h2⟩
theorem AZ {w:World} {base n cap g i:Nat} {e:TypeId} {xs:List Value} (h:w.ownsRow base e 1 (.slice (some ⟨g,0,none⟩) n cap) n xs) (u:Value):(w.setCell ⟨g,i,none⟩ u).ownsRow base e 1 (.slice (some ⟨g,0,none⟩) n cap) n (xs.set i u):=by
 refine⟨by rw[List.length_set];exact h.1,?_⟩
 rcases h.2 with⟨h0,_⟩ |⟨g',cap',cur,h1,hb,hg,hn,hm,hs,ht⟩
 ·cases h0
 ·cases h1;refine .inr ⟨g,cap,cur.setIfInBounds i u,rfl,hb,?_,hn,hm,by simpa using hs,?_⟩
  ·simp[World.setCell,Array.getElem?_modify,hg]
  ·rw[Array.toList_setIfInBounds,List.take_set,ht]
theorem lG {w:World} {base n cap g i:Nat} {e:TypeId} {xs:List Value} {u:Value} (h:w.ownsRow base e 1 (.slice (some ⟨g,0,none⟩) n cap) n xs) (hu:xs[i]?=some u):w.cell? ⟨g,i,none⟩=some u∧w.frozen? ⟨g,i,none⟩=false:=by
 have hi:i<n:=oD ((List.getElem?_eq_some_iff.1 hu).1) h.1;have r:=Row.owned h;refine⟨?_,r.frozen i⟩;rw[r.cell hi];simp[List.getD,hu]
theorem sK {l:List Nat} {i:Nat} (h:i<l.length):((bH l).map (Value.int .i64))[i]?=some (.int .i64 ((l.getD i 0:Nat):Int)):=by
 simp[bH,List.getD,h]
end Go.Proofs.YtpaeogglppampaaGreatDoor
