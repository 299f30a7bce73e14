/- A slice of slices that grow by append: all rows are the call's own, and no two lie in one block. No conditions. -/
import Derived.Test.YtcpikabhcjkkmaaRow
import Derived.RangeFuncOwn
import Derived.RangeFuncBox
import Derived.Deep.RegionHeld
namespace Go.Proofs.Ytcpikabhcjkkmaa
open Go.RowKit

/-- block eb holds n slices; the i-th one holds the elements R i, in a row of the call's own -/
structure OwnRows {α : Type} (st e : TypeId) (size : Nat) (enc : α → List Value) (base eb n : Nat) (R : Nat → List α) (w : World) : Prop where
  lo : base ≤ eb
  ne : st ≠ e
  ex : ∃ V : Nat → Value, w.rowIs eb st n V ∧ (∀ i, i < n → w.ownsRow base e size (V i) (R i).length ((R i).flatMap enc)) ∧ ∀ i j g, i < n → j < n → i ≠ j → (V i).ownBlock = some g → (V j).ownBlock ≠ some g
section
variable {α : Type} {st e : TypeId} {size base eb n : Nat} {enc : α → List Value} {R R' : Nat → List α} {w w' : World}
theorem OwnRows.start (st e : TypeId) (size : Nat) (enc : α → List Value) (base n : Nat) (w : World) (hb : base ≤ w.heap.size) (hne : st ≠ e) : OwnRows st e size enc base w.heap.size n (fun _ => []) (w.alloc (.cells (madeCells #[.slice none 0 0] n) st)) :=
  ⟨hb, hne, fun _ => .slice none 0 0, World.rowIs_made w (.slice none 0 0) n st, fun i _ => World.ownsRow_nil _ _ _ _, fun i j g _ _ _ h => by cases h⟩
theorem OwnRows.lt (h : OwnRows st e size enc base eb n R w) : eb < w.heap.size := by obtain ⟨V, h1, _⟩ := h.ex; exact h1.lt
theorem OwnRows.congr (h : OwnRows st e size enc base eb n R w) (hr : ∀ i, i < n → R i = R' i) : OwnRows st e size enc base eb n R' w := by
  obtain ⟨V, h1, h2, h3⟩ := h.ex
  exact ⟨h.lo, h.ne, V, h1, fun i hi => by rw [← hr i hi]; exact h2 i hi, h3⟩
theorem OwnRows.below (h : OwnRows st e size enc base eb n R w) (hb : Below w.heap.size w w') : OwnRows st e size enc base eb n R w' := by
  obtain ⟨V, h1, h2, h3⟩ := h.ex
  exact ⟨h.lo, h.ne, V, h1.of_block (hb.block eb h1.lt), fun i hi => ownsRow_below (h2 i hi) hb, h3⟩
/-- a step that turns no cells but one block, which is none of these -/
theorem OwnRows.kept {row : Option Nat} (h : OwnRows st e size enc base eb n R w) (hg : w.grownBy w' row) (hr : ∀ r, row = some r → r ≠ eb ∧ ∀ c fz, w.heap[r]? ≠ some (.cells c e fz)) : OwnRows st e size enc base eb n R w' := by
  obtain ⟨V, h1, h2, h3⟩ := h.ex
  refine ⟨h.lo, h.ne, V, h1.of_block (hg.block eb h1.lt (fun c => (hr _ c.symm).1 rfl)), fun i hi => (h2 i hi).kept hg ?_, h3⟩
  rcases (h2 i hi).2 with ⟨e1, _⟩ | ⟨g, cap, cur, e1, _, e3, _⟩
  · exact .inl (by rw [e1]; rfl)
  · refine .inr fun c => ?_
    rw [e1] at c
    exact (hr g c.symm).2 _ _ e3
theorem OwnRows.own (h : OwnRows st e size enc base eb n R w) {row : Option Nat} (hg : w.grownBy w' row) (hr : ∀ r, row = some r → ∃ o : Obj, w.heap[r]? = some o ∧ o.isCells = false) : OwnRows st e size enc base eb n R w' :=
  h.kept hg fun r hrr => by
    obtain ⟨o, ho, hc⟩ := hr r hrr
    refine ⟨fun c => ?_, fun c fz hh => ?_⟩
    · obtain ⟨V, ⟨c', h1, _⟩, _⟩ := h.ex
      rw [c, h1] at ho; cases ho; cases hc
    · rw [hh] at ho; cases ho; cases hc
theorem OwnRows.at (h : OwnRows st e size enc base eb n R w) {i : Nat} (hi : i < n) : ∃ v, w.cell? ⟨eb, i, none⟩ = some v ∧ w.frozen? ⟨eb, i, none⟩ = false ∧ w.ownsRow base e size v (R i).length ((R i).flatMap enc) := by
  obtain ⟨V, h1, h2, _⟩ := h.ex
  exact ⟨V i, h1.cell hi, h1.frozen i, h2 i hi⟩
/-- row i is longer by one element -/
theorem OwnRows.push {i : Nat} {v v' : Value} {w1 : World} {x : α} {g cap : Nat} (h : OwnRows st e size enc base eb n R w) (hi : i < n) (hv : w.cell? ⟨eb, i, none⟩ = some v)
    (hown : w1.ownsRow base e size v' ((R i).length + 1) ((R i).flatMap enc ++ enc x)) (hv' : v' = .slice (some ⟨g, 0, none⟩) ((R i).length + 1 : Nat) cap) (hg : w.grownBy w1 v.ownBlock) (hm : Moved w v g) :
    OwnRows st e size enc base eb n (fun j => if j = i then R i ++ [x] else R j) (w1.setCell ⟨eb, i, none⟩ v') := by
  obtain ⟨V, h1, h2, h3⟩ := h.ex
  obtain rfl : V i = v := Option.some.inj ((h1.cell hi).symm.trans hv)
  have hne : ∀ j, j < n → (V j).ownBlock ≠ some eb := fun j hj c => by
    rcases (h2 j hj).2 with ⟨e1, _⟩ | ⟨g, cap, cur, e1, _, e3, _⟩
    · rw [e1] at c; cases c
    · rw [e1] at c
      have c : g = eb := Option.some.inj c
      subst c
      obtain ⟨c', k1, _⟩ := h1
      rw [k1] at e3
      simp at e3
      exact h.ne e3.2
  have h1' : w1.rowIs eb st n V := h1.of_block (hg.block eb h1.lt (fun c => hne i hi c.symm))
  have hge : g ≠ eb := by
    rcases hm with c | c
    · intro e; exact hne i hi (by rw [c, e])
    · have := h1.lt; omega
  have hnew : ∀ j, j < n → j ≠ i → (V j).ownBlock ≠ some g := fun j hj hji c => by
    rcases hm with d | d
    · exact h3 i j g hi hj (fun e => hji e.symm) d c
    · have := (h2 j hj).lt g c; omega
  refine ⟨h.lo, h.ne, fun j => if j = i then v' else V j, h1'.set i v', fun j hj => ?_, fun j k g' hj hk hjk hb => ?_⟩
  · by_cases hji : j = i
    · subst hji
      simp only [if_true]
      rw [List.length_append, List.length_singleton, List.flatMap_append, List.flatMap_singleton]
      subst hv'
      exact ⟨hown.1, .inr (by
        rcases hown.2 with ⟨c, _⟩ | ⟨g0, cap0, cur, c1, c2, c3, c4⟩
        · cases c
        · cases c1
          exact ⟨g, cap, cur, rfl, c2, (Below.heap_setCell _ _ _ _ hge).trans c3, c4⟩)⟩
    · simp only [if_neg hji]
      have h4 : w1.ownsRow base e size (V j) (R j).length ((R j).flatMap enc) := (h2 j hj).kept hg (by
        cases hc : (V j).ownBlock with
        | none => exact .inl rfl
        | some b => exact .inr (fun c => h3 j i b hj hi hji hc c.symm))
      exact ⟨h4.1, by
        rcases h4.2 with c | ⟨g0, cap0, cur, c1, c2, c3, c4⟩
        · exact .inl c
        · refine .inr ⟨g0, cap0, cur, c1, c2, (Below.heap_setCell _ _ _ _ (fun c => hne j hj (by rw [c1, c]; rfl))).trans c3, c4⟩⟩
  · by_cases hji : j = i
    · subst hji
      simp only [if_true] at hb
      rw [hv'] at hb
      have hb : g = g' := Option.some.inj hb
      subst hb
      simp only [if_neg (show ¬ k = j from fun c => hjk c.symm)]
      exact hnew k hk (fun c => hjk c.symm)
    · simp only [if_neg hji] at hb
      by_cases hki : k = i
      · subst hki
        simp only [if_true]
        rw [hv']
        intro c
        have c : g = g' := Option.some.inj c
        exact hnew j hj hji (by rw [c]; exact hb)
      · simp only [if_neg hki]
        exact h3 j k g' hj hk hjk hb
end
/-- one number as cells -/
def encI (x : Int) : List Value := [.int .i64 x]
theorem encI_map (l : List Int) : l.flatMap encI = l.map (Value.int .i64) := by
  induction l with
  | nil => rfl
  | cons a t ih => rw [List.flatMap_cons, ih]; rfl

/-- one element is appended to a row that the call owns: as a step of a region that draws -/
theorem step_pushM {P : Program} {ops : Array Oper} {o : Oper} {a : Act} {K : Act → World → Prop} {Q : Exit → Act → World → Prop} {X : Prop} {w0 : World} {t e : TypeId} {size bytes : Nat} (hP : P = Try.prog) (E : ET t e size bytes) (hgd : o.guard = none) (s x : Operand)
    (ho : o.op = .call { callee := .builtin .append, args := #[s, x], argTypes := #[t, t] }) (base : Nat) (v : Value) (n : Nat) (xs : List Value) (hown : w0.ownsRow base e size v n xs) (hs : a.eval s = v)
    (news : Array Value) (N : Nat) (hx : a.eval x = .slice (some ⟨N, 0, none⟩) 1 1) (hN : w0.heap.size = N) (hsz : news.size = size) (h1 : ∀ u ∈ news.toList, u.oneCell' = true)
    (hn : (n + 1) * bytes ≤ 140737488355328) (hm : n + 1 ≤ 9223372036854775807) (hbase : base ≤ w0.heap.size)
    (h : ∀ (g cap : Nat) (w1 : World), w1.ownsRow base e size (.slice (some ⟨g, 0, none⟩) (n + 1 : Nat) cap) (n + 1) (xs ++ news.toList) → w0.grownBy w1 v.ownBlock → Moved w0 v g →
      K (a.put o.dst (.slice (some ⟨g, 0, none⟩) (n + 1 : Nat) cap)) w1) :
    if Region.wanted o (yielded ops a.tmps) = true then Oper.wp P o a (w0.alloc (.cells news e)) K Q else X := by
  subst hP
  have hw : Region.wanted o (yielded ops a.tmps) = true := by simp [Region.wanted, hgd]
  rw [if_pos hw]
  subst hN
  obtain ⟨i, z, hi, hz, h2, h3, h4⟩ := E.info
  obtain ⟨v', w', hr, k2, k3, k4, k5⟩ := run_append_own_at (P := Try.prog) (w0.alloc (.cells news e)) base t o.type e i z size bytes E.ht hi hz h2 h3 h4 E.pos v n xs (hown.alloc _) ⟨w0.heap.size, 0, none⟩ 1 1 news.toList (by simp [hsz]) (by
    intro j u hu
    rw [add_mk, Nat.zero_add]
    have := heap_alloc_new w0 (.cells news e)
    simp only [World.cell?, this, Option.isSome_none, Bool.false_eq_true, if_false]
    rw [Array.getElem?_toList] at hu; exact hu) h1 (by unfold maxLen; omega) hn (by simp; omega)
  unfold Oper.wp execOp
  simp only [ho, resolve, invoke, builtin, Sem.run_bind, Sem.run_pure, Result.andThen_ok, List.map_toArray, List.map_cons, List.map_nil, hs, hx, hr]
  rcases k2.2 with ⟨_, h0⟩ | ⟨g, cap, cur, rfl, r⟩
  · omega
  · refine h g cap w' k2 (grownBy_of_alloc k3) ?_
    rcases k5 with hv | hv
    · exact .inl hv.symm
    · right
      simp only [Value.ownBlock, Option.some.injEq, World.size_alloc] at hv
      omega
/-- what lies in no block of cells lies on behind an append -/
theorem grown_others {w w1 : World} {base n size : Nat} {e : TypeId} {v : Value} {xs : List Value} (hown : w.ownsRow base e size v n xs) (hg : w.grownBy w1 v.ownBlock) {k : Nat} {o : Obj} (hk : w.heap[k]? = some o) (ho : o.isCells = false) : w1.heap[k]? = some o := by
  refine (hg.block k (Array.getElem?_eq_some_iff.1 hk).1 (fun c => ?_)).trans hk
  rcases hown.2 with ⟨e1, _⟩ | ⟨g, cap, cur, e1, _, e3, _⟩
  · rw [e1] at c; cases c
  · rw [e1] at c
    have c : k = g := Option.some.inj c
    subst c
    rw [hk] at e3; cases e3; cases ho
/-- a store elsewhere leaves a box as it lay -/
theorem box_far {w : World} {b : Nat} {t : TypeId} {u : Value} (h : Boxed w b t u) {a : Addr} (hne : b ≠ a.block) (v : Value) : Boxed (w.setCell a v) b t u := (Below.heap_setCell _ _ _ _ hne).trans h
/-- a box lies on behind an append to another block -/
theorem grown_box {w w1 : World} {v : Value} {b : Nat} {t : TypeId} {u : Value} (hg : w.grownBy w1 v.ownBlock) (hb : Boxed w b t u) (hne : v.ownBlock ≠ some b) : Boxed w1 b t u := hb.kept hg fun c => hne c.symm
end Go.Proofs.Ytcpikabhcjkkmaa
