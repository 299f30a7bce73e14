/- Plain mathematics: lists of numbers without doubles, sorted lists. No conditions. -/
namespace Go.Proofs.Ytcpikabhcjkkmaa

theorem nodup_leN : ∀ {l r : List Nat}, l.Nodup → (∀ x, x ∈ l → x ∈ r) → l.length ≤ r.length
  | [], _, _, _ => Nat.zero_le _
  | a :: l, r, h, hs => by
    rw [List.nodup_cons] at h
    have h1 : a ∈ r := hs a (List.mem_cons_self ..)
    have h2 : l.length ≤ (r.erase a).length := nodup_leN h.2 fun x hx => (List.mem_erase_of_ne (fun c => h.1 (by rw [← c]; exact hx))).2 (hs x (List.mem_cons_of_mem _ hx))
    rw [List.length_erase_of_mem h1] at h2
    have := List.length_pos_of_mem h1
    simp only [List.length_cons]; omega
theorem nodup_lt {l : List Nat} {m : Nat} (h : l.Nodup) (hs : ∀ x, x ∈ l → x < m) : l.length ≤ m := by
  have := nodup_leN (r := List.range m) h fun x hx => List.mem_range.2 (hs x hx)
  simpa using this
/-- indexes in increasing order -/
def srtN (l : List Nat) : List Nat := l.mergeSort fun x y => decide (x ≤ y)
theorem srtN_len (l : List Nat) : (srtN l).length = l.length := List.length_mergeSort l
theorem srtN_perm (l : List Nat) : (srtN l).Perm l := List.mergeSort_perm _ _
theorem srtN_sorted (l : List Nat) : (srtN l).Pairwise (· ≤ ·) := by
  have := List.pairwise_mergeSort (le := fun x y : Nat => decide (x ≤ y)) (by intro a b c h1 h2; simp at *; omega) (by intro a b; simp; omega) l
  exact this.imp fun h => by simpa using h
theorem srtN_lt {l : List Nat} (h : l.Nodup) : (srtN l).Pairwise (· < ·) := by
  have h1 := srtN_sorted l
  have h2 : (srtN l).Nodup := (srtN_perm l).nodup_iff.2 h
  exact (h1.and h2).imp fun ⟨a, b⟩ => by omega
/-- increasing lists with the same members are the same -/
theorem sorted_uniq : ∀ {l r : List Nat}, l.Pairwise (· < ·) → r.Pairwise (· < ·) → (∀ x, x ∈ l ↔ x ∈ r) → l = r
  | [], [], _, _, _ => rfl
  | [], b :: r, _, _, h => absurd ((h b).2 (List.mem_cons_self ..)) (by simp)
  | a :: l, [], _, _, h => absurd ((h a).1 (List.mem_cons_self ..)) (by simp)
  | a :: l, b :: r, h1, h2, h => by
    rw [List.pairwise_cons] at h1 h2
    have e : a = b := by
      rcases List.mem_cons.1 ((h a).1 (List.mem_cons_self ..)) with c | c
      · exact c
      · rcases List.mem_cons.1 ((h b).2 (List.mem_cons_self ..)) with d | d
        · exact d.symm
        · have := h2.1 a c; have := h1.1 b d; omega
    subst e
    rw [sorted_uniq h1.2 h2.2 fun x => ?_]
    constructor
    · intro hx
      rcases List.mem_cons.1 ((h x).1 (List.mem_cons_of_mem _ hx)) with c | c
      · have := h1.1 x hx; omega
      · exact c
    · intro hx
      rcases List.mem_cons.1 ((h x).2 (List.mem_cons_of_mem _ hx)) with c | c
      · have := h2.1 x hx; omega
      · exact c
end Go.Proofs.Ytcpikabhcjkkmaa
