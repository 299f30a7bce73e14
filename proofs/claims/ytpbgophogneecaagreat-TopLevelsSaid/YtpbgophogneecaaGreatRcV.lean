/- The walk of Leaves of package recon. Conditions: the tree was made by Build; the node is one of a component at a threshold. -/
import Derived.Test.YtpbgophogneecaaGreatRcW
namespace Go.Proofs.YtpbgophogneecaaGreat
open Go.RowKit Go.Shelf
attribute [local go_sem] Oper.semAt_some

theorem Tryz.infoB : (Tryz.prog.info? 4).map (fun i => (i.zero, i.size, i.bytes)) = some (some (.bool false), 1, 1) := by kernel_rfl
/-- one element is appended to a row that the call owns, inside a fence -/
theorem pushIn {F : Fence} {nF : Nat} {ops : Array Oper} {rest : List Oper} {o : Oper} {a : Act} {Q : Exit → Act → World → Prop} {w0 : World} {t e : TypeId} {size bytes : Nat} (E : ET t e size bytes) (hgd : o.guard = none) (s x : Operand)
    (ho : o.op = .call { callee := .builtin .append, args := #[s, x], argTypes := #[t, t] }) (base : Nat) (v : Value) (n : Nat) (xs : List Value) (hown : w0.ownsRow base e size v n xs) (hs : a.eval s = v)
    (news : Array Value) (N : Nat) (hx : a.eval x = .slice (some ⟨N, 0, none⟩) 1 1) (hN : w0.heap.size = N) (hsz : news.size = size) (h1 : ∀ u ∈ news.toList, u.oneCell' = true)
    (hn : (n + 1) * bytes ≤ 140737488355328) (hm : n + 1 ≤ 9223372036854775807) (hbase : base ≤ w0.heap.size)
    (h : ∀ (g cap : Nat) (w1 : World), w1.ownsRow base e size (.slice (some ⟨g, 0, none⟩) (n + 1 : Nat) cap) (n + 1) (xs ++ news.toList) → (w0.alloc (.cells news e)).grownBy w1 v.ownBlock →
      wpListIn F nF Tryz.prog ops Q rest (a.put o.dst (.slice (some ⟨g, 0, none⟩) (n + 1 : Nat) cap)) w1) : wpListIn F nF Tryz.prog ops Q (o :: rest) a (w0.alloc (.cells news e)) := by
  subst hN
  obtain ⟨i, z, hi, hz, h2, h3, h4⟩ := E.info
  refine wpListIn_append_own _ hgd s x t ho base e i z size bytes E.ht hi hz h2 h3 h4 E.pos v n xs hs (hown.alloc _) ⟨w0.heap.size, 0, none⟩ 1 1 news.toList hx (by simp [hsz]) ?_ h1 (by unfold maxLen; omega) hn (by simp; omega) ?_
  · intro j u hu
    rw [add_mk, Nat.zero_add]
    have := heap_alloc_new w0 (.cells news e)
    simp only [World.cell?, this, Option.isSome_none, Bool.false_eq_true, if_false]
    rw [Array.getElem?_toList] at hu; exact hu
  · intro v' w1 hown' hg _
    obtain ⟨g, cap, rfl⟩ := ownsRow_succ hown'
    exact h g cap w1 hown' hg
/-- what lies below a node, when the nodes from c on have been treated -/
def blD (E : List Ed) (f : List Nat) (n k a c y : Nat) : Value := .bool (if c ≤ y then blT E f n k a y else decide (y = nd E f n k a))
section
variable {E : List Ed} {f : List Nat} {n k a x y : Nat}
theorem blD_zero : blD E f n k a 0 y = .bool (blT E f n k a y) := by unfold blD; rw [if_pos (Nat.zero_le _)]
theorem blD_top {z : Nat} (h : y < z) : blD E f n k a z y = .bool (decide (y = nd E f n k a)) := by unfold blD; rw [if_neg (by omega)]
theorem blD_keep (h : blT E f n k a x = decide (x = nd E f n k a)) : blD E f n k a (x + 1) y = blD E f n k a x y := by
  unfold blD
  by_cases e : y = x
  · rw [if_neg (by omega), if_pos (by omega), e, h]
  · by_cases c : x ≤ y
    · rw [if_pos c, if_pos (by omega)]
    · rw [if_neg c, if_neg (by omega)]
theorem blD_set (h : blT E f n k a x = true) : (if y = x then Value.bool true else blD E f n k a (x + 1) y) = blD E f n k a x y := by
  unfold blD
  by_cases e : y = x
  · rw [if_pos e, if_pos (by omega), e, h]
  · rw [if_neg e]
    by_cases c : x ≤ y
    · rw [if_pos c, if_pos (by omega)]
    · rw [if_neg c, if_neg (by omega)]
end
/-- the leaves of a component -/
def lvs (n : Nat) (lab : Nat → Nat) (a : Nat) : List Nat := (List.range n).filter fun x => decide (lab x = a)
theorem lvs_yes {x la : Nat} {lab : Nat → Nat} (h : lab x = la) : lvs (x + 1) lab la = lvs x lab la ++ [x] := by
  unfold lvs; rw [List.range_succ, List.filter_append, List.filter_cons, if_pos (decide_eq_true h)]; rfl
theorem lvs_no {x la : Nat} {lab : Nat → Nat} (h : ¬ lab x = la) : lvs (x + 1) lab la = lvs x lab la := by
  unfold lvs; rw [List.range_succ, List.filter_append, List.filter_cons, if_neg (by simp [h])]; simp
theorem lvs_len {x la : Nat} {lab : Nat → Nat} : (lvs x lab la).length ≤ x := by
  unfold lvs; have := List.length_filter_le (fun j => decide (lab j = la)) (List.range x); rwa [List.length_range] at this
theorem ownI_snoc {w : World} {base g cap x : Nat} {l : List Nat} (h : w.ownsRow base 3 1 (.slice (some ⟨g, 0, none⟩) (l.length + 1 : Nat) cap) (l.length + 1) ((intsN l).map (Value.int .i64) ++ #[Value.int .i64 (x : Nat)].toList)) : OwnI base (.slice (some ⟨g, 0, none⟩) (l.length + 1 : Nat) cap) (l ++ [x]) w := by
  unfold OwnI
  rw [List.length_append, List.length_singleton, intsN_snoc, List.map_append]
  exact h
def LvRes (n : Nat) (lab : Nat → Nat) (a : Nat) (w : World) (e : Ending) (w' : World) : Prop := ∃ v, e = .returned v ∧ OwnI w.heap.size v (lvs n lab a) w' ∧ Below w.heap.size w w'
end Go.Proofs.YtpbgophogneecaaGreat
