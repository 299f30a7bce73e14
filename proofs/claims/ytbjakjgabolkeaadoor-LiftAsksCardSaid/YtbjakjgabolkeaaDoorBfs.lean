/- Plain mathematics of the breadth first search that finds the depths of a forest, and finds out whether there is one. No program is in sight. No conditions. -/
import Derived.Test.YtbjakjgabolkeaaDoorForest
namespace Go.Proofs.YtbjakjgabolkeaaDoor

/-- the roots among the first k nodes, the children among the first k nodes -/
def rootsTo (p : List Int) (k : Nat) : List Nat := (List.range k).filter fun u => pa p u == none
def kidsTo (p : List Int) (k v : Nat) : List Nat := (List.range k).filter fun u => pa p u == some v
def kids (p : List Int) (v : Nat) : List Nat := kidsTo p p.length v

theorem rootsTo_succ (p : List Int) (k : Nat) : rootsTo p (k + 1) = if pa p k = none then rootsTo p k ++ [k] else rootsTo p k := by
  simp only [rootsTo, List.range_succ, List.filter_append, List.filter_cons, List.filter_nil]
  by_cases h : pa p k = none <;> simp [h]
theorem kidsTo_succ (p : List Int) (k v : Nat) : kidsTo p (k + 1) v = if pa p k = some v then kidsTo p k v ++ [k] else kidsTo p k v := by
  simp only [kidsTo, List.range_succ, List.filter_append, List.filter_cons, List.filter_nil]
  by_cases h : pa p k = some v <;> simp [h]
theorem rootsTo_len (p : List Int) (k : Nat) : (rootsTo p k).length ≤ k := by
  have := List.length_filter_le (fun u => pa p u == none) (List.range k); simpa [rootsTo] using this
theorem kidsTo_len (p : List Int) (k v : Nat) : (kidsTo p k v).length ≤ k := by
  have := List.length_filter_le (fun u => pa p u == some v) (List.range k); simpa [kidsTo] using this
theorem mem_kids {p : List Int} {v u : Nat} : u ∈ kids p v ↔ pa p u = some v := by
  simp only [kids, kidsTo, List.mem_filter, List.mem_range, beq_iff_eq]
  exact ⟨fun h => h.2, fun h => ⟨pa_lt h, h⟩⟩
theorem kids_nodup (p : List Int) (v : Nat) : (kids p v).Nodup := List.nodup_range.filter _

/-- the queue, when i of its nodes have been taken -/
structure Bfs (p : List Int) (i : Nat) (Q : List Nat) : Prop where
  nodup : Q.Nodup
  lt : ∀ u ∈ Q, u < p.length
  le : i ≤ Q.length
  root : ∀ u, u < p.length → pa p u = none → u ∈ Q
  kid : ∀ u x, pa p u = some x → (u ∈ Q ↔ x ∈ Q.take i)

theorem Bfs.start (p : List Int) : Bfs p 0 (rootsTo p p.length) where
  nodup := List.nodup_range.filter _
  lt := fun u h => by simp [rootsTo] at h; exact h.1
  le := Nat.zero_le _
  root := fun u h h' => by simp [rootsTo, h, h']
  kid := fun u x h => by simp [rootsTo, h]

theorem Bfs.fresh {p : List Int} {i : Nat} {Q : List Nat} (B : Bfs p i Q) (hi : i < Q.length) {u : Nat} (h : pa p u = some Q[i]) : u ∉ Q := by
  rw [B.kid u _ h]
  intro hm
  obtain ⟨j, hj, he⟩ := List.mem_iff_getElem.1 hm
  have hj' : j < i := by simp at hj; omega
  rw [List.getElem_take] at he
  have := (List.nodup_iff_pairwise_ne.1 B.nodup)
  rw [List.pairwise_iff_getElem] at this
  exact this j i (by omega) hi hj' he

theorem Bfs.step {p : List Int} {i : Nat} {Q : List Nat} (B : Bfs p i Q) (hi : i < Q.length) : Bfs p (i + 1) (Q ++ kids p Q[i]) where
  nodup := by
    rw [List.nodup_append]
    refine ⟨B.nodup, kids_nodup p _, fun a ha b hb e => ?_⟩
    subst e
    exact B.fresh hi (mem_kids.1 hb) ha
  lt := fun u h => by
    rw [List.mem_append] at h
    rcases h with h | h
    · exact B.lt u h
    · exact pa_lt (mem_kids.1 h)
  le := by simp; omega
  root := fun u h h' => List.mem_append_left _ (B.root u h h')
  kid := fun u x h => by
    have e : (Q ++ kids p Q[i]).take (i + 1) = Q.take i ++ [Q[i]] := by
      rw [List.take_append_of_le_length (by omega), List.take_succ_eq_append_getElem hi]
    rw [e, List.mem_append, List.mem_append, B.kid u x h, mem_kids, h]
    simp only [Option.some.injEq, List.mem_singleton]

theorem Bfs.len {p : List Int} {i : Nat} {Q : List Nat} (B : Bfs p i Q) : Q.length ≤ p.length := nodup_le _ _ B.nodup B.lt

/-- a list of n different numbers below n holds them all -/
theorem full_of_len {n : Nat} {l : List Nat} (hn : l.Nodup) (h : ∀ x ∈ l, x < n) (hl : l.length = n) : ∀ u, u < n → u ∈ l := by
  intro u hu
  by_cases hm : u ∈ l
  · exact hm
  · exfalso
    have := nodup_le n (u :: l) (List.nodup_cons.2 ⟨hm, hn⟩) (fun x hx => by
      rcases List.mem_cons.1 hx with e | hx
      · omega
      · exact h x hx)
    simp at this; omega

/-- the depths that have been found -/
structure Dep (p : List Int) (Q : List Nat) (D : Nat → Nat) : Prop where
  root : ∀ u ∈ Q, pa p u = none → D u = 0
  kid : ∀ u ∈ Q, ∀ x, pa p u = some x → x ∈ Q ∧ D u = D x + 1
  le : ∀ u, D u ≤ Q.length

theorem Dep.start (p : List Int) : Dep p (rootsTo p p.length) (fun _ => 0) where
  root := fun _ _ _ => rfl
  kid := fun u h x hx => by simp [rootsTo, hx] at h
  le := fun _ => Nat.zero_le _
theorem Dep.step {p : List Int} {Q : List Nat} {D : Nat → Nat} (h : Dep p Q D) {c v : Nat} (hc : c ∉ Q) (hv : v ∈ Q) (hp : pa p c = some v) : Dep p (Q ++ [c]) (fun u => if u = c then D v + 1 else D u) where
  root := fun u hu hr => by
    rw [List.mem_append, List.mem_singleton] at hu
    by_cases e : u = c
    · subst e; rw [hp] at hr; cases hr
    · rw [if_neg e]; exact h.root u (hu.resolve_right e) hr
  kid := fun u hu x hx => by
    rw [List.mem_append, List.mem_singleton] at hu
    by_cases e : u = c
    · subst e
      rw [hp] at hx; cases hx
      have : v ≠ u := fun e => hc (e ▸ hv)
      exact ⟨List.mem_append_left _ hv, by rw [if_pos rfl, if_neg this]⟩
    · have h1 := h.kid u (hu.resolve_right e) x hx
      have : x ≠ c := fun e => hc (e ▸ h1.1)
      exact ⟨List.mem_append_left _ h1.1, by rw [if_neg e, if_neg this]; exact h1.2⟩
  le := fun u => by
    have h1 := h.le v
    have h2 := h.le u
    simp only [List.length_append, List.length_cons, List.length_nil]
    by_cases e : u = c
    · rw [if_pos e]; omega
    · rw [if_neg e]; omega

/-- at the end: all nodes have been found exactly if it is a forest, and the depths are those of the forest -/
theorem Bfs.done_tree {p : List Int} {Q : List Nat} (B : Bfs p Q.length Q) (F : Tree p) : Q.length = p.length := by
  have all : ∀ k u, u < p.length → dp p u = k → u ∈ Q := by
    intro k
    induction k with
    | zero =>
      intro u hu hd
      cases hp : pa p u with
      | none => exact B.root u hu hp
      | some x => have := F.up u x hu hp; omega
    | succ k ih =>
      intro u hu hd
      cases hp : pa p u with
      | none => exact B.root u hu hp
      | some x =>
        have h1 := F.up u x hu hp
        rw [B.kid u x hp, List.take_length]
        exact ih x (F.rng u x hu hp) (by omega)
  have h1 := B.len
  have h2 := nodup_le Q.length (List.range p.length) List.nodup_range
  by_cases e : Q.length = p.length
  · exact e
  · exfalso
    -- were there fewer, a node would be missing
    have h3 : p.length ≤ Q.length := by
      have hsub : ∀ x ∈ List.range p.length, x ∈ Q := fun x hx => all _ x (by simpa using hx) rfl
      have := (List.nodup_range (n := p.length)).length_le_of_subset hsub
      simpa using this
    omega
theorem Bfs.done_forest {p : List Int} {Q : List Nat} {D : Nat → Nat} (B : Bfs p Q.length Q) (hD : Dep p Q D) (hr : ∀ v u, pa p v = some u → u < p.length) (hl : Q.length = p.length) : Forest p D := by
  have all := full_of_len B.nodup B.lt hl
  exact ⟨fun v u _ h => hr v u h, fun v u hv h => (hD.kid v (all v hv) u h).2, fun v hv h => hD.root v (all v hv) h⟩
end Go.Proofs.YtbjakjgabolkeaaDoor
