/- Lemmas of the proof. Conditions: as each one states. -/
import Derived.Test.YtpaeogglppampaaGreatDoorQg
import Derived.Test.YtpaeogglppampaaGreatDoorQl
import Derived.OwnWalkIn
import Derived.Maps.OwnIn
import Derived.TacticsInMore
set_option maxRecDepth 100000
set_option maxHeartbeats 16000000
namespace Go.Proofs.YtpaeogglppampaaGreatDoor
open Go.RowKit
theorem UR {F:Fence} {nF:Nat} {ops:Array Oper} {rest:List Oper} {o:Oper} {a:Act} {Q:Exit→Act→World→Prop} {w0:World} {t e:TypeId} {size bytes:Nat} (E:ET t e size bytes) (hgd:o.guard=none) (s x:Operand)
  (ho:o.op=.call { callee:=.builtin .append,args:=#[s,x],argTypes:=#[t,t] }) (base:Nat) (v:Value) (n:Nat) (xs:List Value) (hown:w0.ownsRow base e size v n xs) (hs:a.eval s=v)
  (news:Array Value) (N:Nat) (hx:a.eval x=.slice (some ⟨N,0,none⟩) 1 1) (hN:w0.heap.size=N) (hsz:news.size=size) (h1:∀u∈news.toList,u.oneCell'=true)
  (hn:(n+1)*bytes≤140737488355328) (hm:n+1≤9223372036854775807) (hbase:base≤w0.heap.size)
  (h:∀(g cap:Nat) (w1:World),w1.ownsRow base e size (.slice (some ⟨g,0,none⟩) (n+1:Nat) cap) (n+1) (xs++news.toList)→w0.grownBy w1 v.ownBlock→Moved w0 v g→
   wpListIn F nF Tryz.prog ops Q rest (a.put o.dst (.slice (some ⟨g,0,none⟩) (n+1:Nat) cap)) w1):wpListIn F nF Tryz.prog ops Q (o::rest) a (w0.alloc (.cells news e)):=by
 subst hN;obtain⟨i,z,hi,hz,h2,h3,h4⟩:=E.info;refine wpListIn_append_own_at _ hgd s x t ho base e i z size bytes E.ht hi hz h2 h3 h4 E.pos v n xs hs (hown.alloc _) ⟨w0.heap.size,0,none⟩ 1 1 news.toList hx (by simp[hsz]) ?_ h1 (by unfold maxLen;omega) hn (by simp;omega) ?_
 ·intro j u hu;rw[kV,Nat.zero_add];have:=heap_alloc_new w0 (.cells news e);simp only[World.cell?,this,Option.isSome_none,Bool.false_eq_true,if_false];rw[Array.getElem?_toList] at hu;exact hu
 ·intro v' w1 hown' hg _ hv
  rcases hown'.2 with⟨_,h0⟩ |⟨g,cap,cur,rfl,r⟩
  ·omega
  ·refine h g cap w1 hown' (iR hg) ?_
   rcases hv with hv |hv
   ·exact .inl hv.symm
   ·right
    simp only[Value.ownBlock,Option.some.injEq,World.size_alloc] at hv;omega
end Go.Proofs.YtpaeogglppampaaGreatDoor
