/- Plain mathematics of the triangles of a graph, in the order in which the program hands them on; typed rows in memory. No conditions. -/
import Derived.Test.YtjdpkjjlcbgnbaaBoth
namespace Go.Proofs.Ytjdpkjjlcbgnbaa
open Go.RowKit Go.Shelf

/-- the neighbours of a vertex that come after it -/
def lat (o : Option (Nat × List Ed)) (u : Int) : List Int := (nbr o u).drop (lowB (nbr o u) u)
theorem lat_sorted (o : Option (Nat × List Ed)) (u : Int) : (lat o u).Pairwise (· < ·) := (nbr_sorted o u).drop
theorem lat_len (o : Option (Nat × List Ed)) (u : Int) : (lat o u).length ≤ gN o := by
  have := nbr_len o u
  simp only [lat, List.length_drop]; omega
theorem mem_lat {o : Option (Nat × List Ed)} (h : GoG o) {u y : Int} : y ∈ lat o u ↔ u < y ∧ y < gN o ∧ nearB (gE o) u y = true := by
  have t := take_low (nbr_sorted o u) u
  have hm : y ∈ nbr o u ↔ (y ∈ (nbr o u).take (lowB (nbr o u) u) ∨ y ∈ lat o u) := by
    rw [← List.mem_append, lat, List.take_append_drop]
  have hn := mem_nbr (o := o) (v := u) (y := y)
  constructor
  · intro hl
    have h1 := hn.1 (hm.2 (.inr hl))
    have h2 := t.2 y hl
    have h3 := h.near h1.2.2
    exact ⟨by omega, h1.2.1, h1.2.2⟩
  · rintro ⟨h1, h2, h3⟩
    have h4 := h.near h3
    rcases hm.1 (hn.2 ⟨by omega, h2, h3⟩) with h5 | h5
    · have := t.1 y h5; omega
    · exact h5
/-- the triangles with two given vertices -/
def triW (o : Option (Nat × List Ed)) (u v : Int) : List (Int × Int × Int) := (inter (lat o u) (lat o v)).map fun w => (u, v, w)
/-- the triangles whose first vertex is u, up to a place of the second -/
def triV (o : Option (Nat × List Ed)) (u : Int) (j : Nat) : List (Int × Int × Int) := ((lat o u).take j).flatMap (triW o u)
/-- the triangles whose first vertex is one of the first k -/
def triU (o : Option (Nat × List Ed)) (k : Nat) : List (Int × Int × Int) := (List.range k).flatMap fun (u : Nat) => triV o (u : Int) (lat o (u : Int)).length
/-- all triangles -/
def tri (o : Option (Nat × List Ed)) : List (Int × Int × Int) := triU o (gN o)
theorem triU_succ (o : Option (Nat × List Ed)) (k : Nat) : triU o (k + 1) = triU o k ++ triV o (k : Int) (lat o (k : Int)).length := by
  simp [triU, List.range_succ, List.flatMap_append]
theorem triV_zero (o : Option (Nat × List Ed)) (u : Int) : triV o u 0 = [] := by simp [triV]
theorem triV_succ (o : Option (Nat × List Ed)) (u : Int) {j : Nat} (hj : j < (lat o u).length) : triV o u (j + 1) = triV o u j ++ triW o u (nth (lat o u) j) := by
  rw [nth_eq hj, triV, List.take_succ_eq_append_getElem hj, List.flatMap_append, List.flatMap_singleton]; rfl
theorem triU_prefix (o : Option (Nat × List Ed)) {k n : Nat} (h : k ≤ n) : triU o k <+: triU o n := by
  induction n with
  | zero => rw [Nat.le_zero.1 h]; exact List.prefix_refl _
  | succ n ih =>
    by_cases e : k = n + 1
    · rw [e]; exact List.prefix_refl _
    · rw [triU_succ]; exact (ih (by omega)).trans (List.prefix_append _ _)
theorem triV_prefix (o : Option (Nat × List Ed)) (u : Int) {j n : Nat} (h : j ≤ n) (hn : n ≤ (lat o u).length) : triV o u j <+: triV o u n := by
  induction n with
  | zero => rw [Nat.le_zero.1 h]; exact List.prefix_refl _
  | succ n ih =>
    by_cases e : j = n + 1
    · rw [e]; exact List.prefix_refl _
    · rw [triV_succ o u (by omega)]; exact (ih (by omega) (by omega)).trans (List.prefix_append _ _)
/-- what has come, in the midst of all loops -/
def triAt (o : Option (Nat × List Ed)) (k j i : Nat) : List (Int × Int × Int) := triU o k ++ triV o (k : Int) j ++ (triW o (k : Int) (nth (lat o (k : Int)) j)).take i
theorem triAt_next {o : Option (Nat × List Ed)} {k j i : Nat} (hk : k < gN o) (hj : j < (lat o (k : Int)).length) (hi : i < (triW o (k : Int) (nth (lat o (k : Int)) j)).length) :
    triAt o k j i ++ [(triW o (k : Int) (nth (lat o (k : Int)) j))[i]] = triAt o k j (i + 1) ∧ triAt o k j (i + 1) <+: tri o := by
  have e : triAt o k j i ++ [(triW o (k : Int) (nth (lat o (k : Int)) j))[i]] = triAt o k j (i + 1) := by
    simp only [triAt, List.take_succ_eq_append_getElem hi, List.append_assoc]
  refine ⟨e, ?_⟩
  have h1 : triAt o k j (i + 1) <+: triU o k ++ triV o (k : Int) (j + 1) := by
    rw [triV_succ o _ hj, triAt, ← List.append_assoc]
    exact (List.prefix_append_right_inj _).2 (List.take_prefix _ _)
  have h2 : triU o k ++ triV o (k : Int) (j + 1) <+: triU o (k + 1) := by
    rw [triU_succ]
    exact (List.prefix_append_right_inj _).2 (triV_prefix o _ (by omega) (Nat.le_refl _))
  exact (h1.trans h2).trans (triU_prefix o (by omega))
theorem triAt_zero (o : Option (Nat × List Ed)) (k j : Nat) : triAt o k j 0 = triU o k ++ triV o (k : Int) j := by simp [triAt]
theorem triAt_end {o : Option (Nat × List Ed)} {k j : Nat} (hj : j < (lat o (k : Int)).length) : triAt o k j (triW o (k : Int) (nth (lat o (k : Int)) j)).length = triU o k ++ triV o (k : Int) (j + 1) := by
  rw [triAt, List.take_length, triV_succ o _ hj, List.append_assoc]
theorem triW_len (o : Option (Nat × List Ed)) (u v : Int) : (triW o u v).length = (inter (lat o u) (lat o v)).length := by simp [triW]
theorem triW_at (o : Option (Nat × List Ed)) (u v : Int) {i : Nat} (hi : i < (triW o u v).length) : (triW o u v)[i] = (u, v, nth (inter (lat o u) (lat o v)) i) := by
  have h : i < (inter (lat o u) (lat o v)).length := by rw [← triW_len]; exact hi
  rw [nth_eq h]; simp [triW]

/-- a list of numbers in memory, the type of its block told -/
structure RT (w : World) (v : Value) (l : List Int) : Prop where
  form : ∃ a cap, v = .slice a l.length cap ∧ l.length ≤ cap ∧ (0 < l.length → ∃ g off c, a = some ⟨g, off, none⟩ ∧ w.heap[g]? = some (.cells c 3 (0, 0)) ∧ ∀ i, i < l.length → c[off + i]? = some (.int .i64 (nth l i)))
/-- what leaves the rows of numbers, and the rows of such rows, as they were -/
structure KT (n₀ : Nat) (W W' : World) : Prop where
  below : Below n₀ W W'
  ints : ∀ (k : Nat) (c : Array Value), W.heap[k]? = some (.cells c 3 (0, 0)) → W'.heap[k]? = W.heap[k]?
  rows : ∀ (k : Nat) (c : Array Value), W.heap[k]? = some (.cells c 48 (0, 0)) → W'.heap[k]? = W.heap[k]?
section
variable {w w' : World} {v : Value} {l : List Int} {n₀ : Nat}
theorem KT.refl (n₀ : Nat) (w : World) : KT n₀ w w := ⟨Below.refl _ _, fun _ _ _ => rfl, fun _ _ _ => rfl⟩
theorem KT.trans {w'' : World} (h : KT n₀ w w') (k : KT n₀ w' w'') : KT n₀ w w'' :=
  ⟨h.below.trans k.below, fun b c hc => (k.ints b c ((h.ints b c hc).trans hc)).trans (h.ints b c hc), fun b c hc => (k.rows b c ((h.rows b c hc).trans hc)).trans (h.rows b c hc)⟩
theorem KT.of_below (hb : Below w.heap.size w w') (h0 : n₀ ≤ w.heap.size) : KT n₀ w w' :=
  ⟨hb.mono h0, fun k _ hc => hb.block k (Array.getElem?_eq_some_iff.1 hc).1, fun k _ hc => hb.block k (Array.getElem?_eq_some_iff.1 hc).1⟩
theorem kt_b {w : World} (h0 : n₀ ≤ w.heap.size) (W : World) (l : Nat) (o o' : Obj) (hl : w.heap.size ≤ l) (ho : W.heap[l]? = some o) (hc : o.isCells = false) (hw : o.isWalk = false) : KT n₀ W (W.putObj l o') :=
  ⟨belowK_b h0 W l o o' hl ho hc hw, fun k c h => World.putObj_heap_other (fun e => by subst e; rw [h] at ho; cases ho; cases hc), fun k c h => World.putObj_heap_other (fun e => by subst e; rw [h] at ho; cases ho; cases hc)⟩
theorem RT.keep (h : RT w v l) (hk : ∀ (k : Nat) (c : Array Value), w.heap[k]? = some (.cells c 3 (0, 0)) → w'.heap[k]? = w.heap[k]?) : RT w' v l := by
  obtain ⟨a, cap, h1, h2, h3⟩ := h.form
  refine ⟨a, cap, h1, h2, fun hl => ?_⟩
  obtain ⟨g, off, c, h4, h5, h6⟩ := h3 hl
  exact ⟨g, off, c, h4, (hk g c h5).trans h5, h6⟩
theorem RT.below (h : RT w v l) (hb : Below w.heap.size w w') : RT w' v l := h.keep fun k _ hc => hb.block k (Array.getElem?_eq_some_iff.1 hc).1
theorem RT.rl (h : RT w v l) : RL w w.heap.size v l := by
  obtain ⟨a, cap, h1, h2, h3⟩ := h.form
  refine ⟨a, cap, h1, h2, fun hl => ?_⟩
  obtain ⟨g, off, c, h4, h5, h6⟩ := h3 hl
  exact ⟨g, off, h4, (Array.getElem?_eq_some_iff.1 h5).1, fun i hi => by simp [World.cell?, h5, h6 i hi]⟩
theorem RT.own {base : Nat} (h : w.ownsRow base 3 1 v l.length (l.map (Value.int .i64))) : RT w v l := by
  rcases h.2 with ⟨rfl, h0⟩ | ⟨g, cap, cur, rfl, hb, hg, hn, hm, hs, ht⟩
  · exact ⟨none, 0, by rw [h0], by omega, fun h => by omega⟩
  · refine ⟨_, cap, rfl, hn, fun hl => ⟨g, 0, cur, rfl, hg, fun i hi => ?_⟩⟩
    have h2 : (l.map (Value.int .i64))[i]? = some (.int .i64 (nth l i)) := by simp [nth, hi]
    rw [← ht, List.getElem?_take, if_pos (by omega), Array.getElem?_toList] at h2
    rw [Nat.zero_add]; exact h2
theorem RT.cut (h : RT w v l) {p : Nat} (hp : p ≤ l.length) :
    ∃ v', (∀ w' : World, (Instr.slice 48 v (some (.int .i64 (p : Int))) none none).run Try.prog w' = .ok v' w') ∧ RT w v' (l.drop p) := by
  obtain ⟨a, cap, rfl, h2, h3⟩ := h.form
  cases a with
  | none =>
    have h0 : l.length = 0 := by
      rcases Nat.eq_zero_or_pos l.length with h0 | h0
      · exact h0
      · obtain ⟨g, off, c, h4, _⟩ := h3 h0; cases h4
    obtain rfl := List.eq_nil_of_length_eq_zero h0
    obtain rfl : p = 0 := by simpa using hp
    refine ⟨.slice none 0 cap, fun w' => ?_, ⟨none, cap, rfl, by simp, fun h => by simp at h⟩⟩
    simp [Instr.slice, run_underlying etI.ht, Instr.sliceBounds, Instr.sliceBound, asIntOf, etI.size, go_sem]
  | some ad =>
    refine ⟨.slice (some (if cap = p then ad else ad.add p)) (l.length - p : Nat) (cap - p : Nat), fun w' => ?_, ⟨_, cap - p, by rw [List.length_drop], by rw [List.length_drop]; omega, fun hl => ?_⟩⟩
    · simp [Instr.slice, run_underlying etI.ht, Instr.sliceBounds, Instr.sliceBound, asIntOf, etI.size, go_sem]
      rw [if_pos hp]
      congr 2
      split <;> rfl
    · rw [List.length_drop] at hl
      obtain ⟨g, off, c, h4, h5, h6⟩ := h3 (by omega)
      cases h4
      rw [if_neg (by omega), add_mk]
      refine ⟨g, off + p, c, rfl, h5, fun i hi => ?_⟩
      rw [List.length_drop] at hi
      have := h6 (p + i) (by omega)
      rw [Nat.add_assoc, this]
      simp [nth]
end
theorem abides_below {β : Type} {B : Nat} {J : β → World → Prop} (hJ : AbidesFrom B J) {s : β} {W W' : World} (hs : J s W) (hb : Below W.heap.size W W') : J s W' :=
  hJ s W W' none hs ⟨hb.os, hb.tape, hb.output, hb.size, fun k hk _ => hb.block k hk⟩ (fun r e => by cases e)
end Go.Proofs.Ytjdpkjjlcbgnbaa
