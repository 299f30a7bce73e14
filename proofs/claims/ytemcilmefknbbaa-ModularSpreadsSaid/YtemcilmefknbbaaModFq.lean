/- Plain mathematics of label propagation: the most frequent number of a list. No conditions. -/
import Derived.Test.YtemcilmefknbbaaModF
namespace Go.Proofs.Ytemcilmefknbbaa

/-- the most frequent number: own if it is one of them, else the least; own of no numbers -/
def FreqOf (own : Int) (M : List Int) (r : Int) : Prop :=
  (M = [] ∧ r = own) ∨ (r ∈ M ∧ (∀ x, M.count x ≤ M.count r) ∧ (M.count own = M.count r → r = own) ∧ ∀ x, M.count x = M.count r → r = own ∨ r ≤ x)
theorem FreqOf.same {own r r' : Int} {M : List Int} (h : FreqOf own M r) (h' : FreqOf own M r') : r = r' := by
  rcases h with ⟨h0, h1⟩ | ⟨h0, h1, h2, h3⟩
  · rcases h' with ⟨_, k1⟩ | ⟨k0, _⟩
    · rw [h1, k1]
    · rw [h0] at k0; cases k0
  · rcases h' with ⟨k0, _⟩ | ⟨k0, k1, k2, k3⟩
    · rw [k0] at h0; cases h0
    · have e : M.count r = M.count r' := Nat.le_antisymm (k1 r) (h1 r')
      by_cases ho : M.count own = M.count r
      · rw [h2 ho, k2 (ho.trans e)]
      · rcases h3 r' e.symm with c | c
        · exact absurd (by rw [c]) ho
        · rcases k3 r e with d | d
          · exact absurd (by rw [e, d]) ho
          · omega
theorem FreqOf.perm {own r : Int} {M M' : List Int} (h : FreqOf own M r) (e : ∀ x, M.count x = M'.count x) (hm : ∀ x, x ∈ M ↔ x ∈ M') : FreqOf own M' r := by
  rcases h with ⟨h0, h1⟩ | ⟨h0, h1, h2, h3⟩
  · refine .inl ⟨?_, h1⟩
    cases M' with
    | nil => rfl
    | cons a t => have := (hm a).2 (by simp); rw [h0] at this; cases this
  · refine .inr ⟨(hm r).1 h0, fun x => by rw [← e, ← e]; exact h1 x, fun c => h2 (by rw [e, e]; exact c), fun x c => h3 x (by rw [e, e]; exact c)⟩
/-- a run of one number is taken in, above all that came before -/
theorem FreqOf.run {own r x : Int} {P : List Int} {c : Nat} (h : FreqOf own P r) (hc : 0 < c) (hlt : ∀ y, y ∈ P → y < x) :
    FreqOf own (P ++ List.replicate c x) (if P.count r < c ∨ (c = P.count r ∧ x = own) then x else r) := by
  have hx : x ∉ P := fun m => by have := hlt x m; omega
  have hx0 : P.count x = 0 := List.count_eq_zero.2 hx
  have cx : (P ++ List.replicate c x).count x = c := by rw [List.count_append, hx0, List.count_replicate_self, Nat.zero_add]
  have cy : ∀ y, y ≠ x → (P ++ List.replicate c x).count y = P.count y := fun y hy => by
    rw [List.count_append, List.count_replicate, if_neg (by simp; exact fun e => hy e.symm), Nat.add_zero]
  have hmx : x ∈ P ++ List.replicate c x := by simp; exact .inr (by omega)
  have le : ∀ y, y ≠ x → P.count y ≤ P.count r := fun y _ => by
    rcases h with ⟨h0, _⟩ | ⟨_, h1, _⟩
    · rw [h0]; simp
    · exact h1 y
  right
  by_cases h1 : P.count r < c
  · rw [if_pos (.inl h1)]
    refine ⟨hmx, fun y => ?_, fun e => ?_, fun y e => ?_⟩
    · by_cases hy : y = x
      · rw [hy]; exact Nat.le_refl _
      · rw [cx, cy y hy]; have := le y hy; omega
    · by_cases hy : own = x
      · exact hy.symm
      · rw [cx, cy own hy] at e; have := le own hy; omega
    · by_cases hy : y = x
      · rw [hy]; exact .inr (Int.le_refl _)
      · rw [cx, cy y hy] at e; have := le y hy; omega
  · by_cases h2 : c = P.count r ∧ x = own
    · rw [if_pos (.inr h2)]
      refine ⟨hmx, fun y => ?_, fun _ => h2.2, fun y _ => .inl h2.2⟩
      by_cases hy : y = x
      · rw [hy]; exact Nat.le_refl _
      · rw [cx, cy y hy]; have := le y hy; omega
    · rw [if_neg (fun c => c.elim h1 h2)]
      rcases h with ⟨h0, _⟩ | ⟨h0, k1, k2, k3⟩
      · rw [h0] at h1; simp at h1; omega
      · have hr : r ≠ x := fun e => hx (e ▸ h0)
        refine ⟨List.mem_append_left _ h0, fun y => ?_, fun e => ?_, fun y e => ?_⟩
        · by_cases hy : y = x
          · rw [hy, cx, cy r hr]; omega
          · rw [cy y hy, cy r hr]; exact k1 y
        · by_cases hy : own = x
          · rw [hy, cx, cy r hr] at e; exact absurd ⟨e, hy.symm⟩ h2
          · rw [cy own hy, cy r hr] at e; exact k2 e
        · by_cases hy : y = x
          · rw [hy]; have := hlt r h0; exact .inr (by omega)
          · rw [cy y hy, cy r hr] at e; exact k3 y e
theorem FreqOf.none (own : Int) : FreqOf own [] own := .inl ⟨rfl, rfl⟩
/-- every list has a most frequent number -/
theorem FreqOf.has (own : Int) (M : List Int) : ∃ r, FreqOf own M r := by
  have key : ∀ (m : Nat) (S : List Int), S.length = m → S.Pairwise (· ≤ ·) → ∃ r, FreqOf own S r := by
    intro m
    induction m using Nat.strongRecOn with
    | _ m ih =>
      intro S hS hs
      by_cases h0 : S = []
      · exact ⟨own, .inl ⟨h0, rfl⟩⟩
      · obtain ⟨T, x, rfl⟩ : ∃ T x, S = T ++ [x] := ⟨S.dropLast, S.getLast h0, (List.dropLast_concat_getLast h0).symm⟩
        have hP : ∀ y, y ∈ (T ++ [x]).filter (fun y => decide (y < x)) → y < x := fun y hy => by simpa using (List.mem_filter.1 hy).2
        have hle : ((T ++ [x]).filter (fun y => decide (y < x))).length < m := by
          rw [← hS, List.filter_append]
          have := List.length_filter_le (fun y => decide (y < x)) T
          simp; omega
        obtain ⟨r, hr⟩ := ih _ hle _ rfl (hs.filter _)
        have hcp : 0 < (T ++ [x]).count x := List.count_pos_iff.2 (by simp)
        refine ⟨_, (hr.run hcp hP).perm (fun y => ?_) (fun y => ?_)⟩
        · rw [List.count_append, List.count_replicate]
          by_cases hy : y = x
          · subst hy
            have : ((T ++ [y]).filter (fun z => decide (z < y))).count y = 0 := List.count_eq_zero.2 (fun hm => by have := hP y hm; omega)
            rw [this]; simp
          · have hlt : y ∈ T ++ [x] → y < x := fun hm => by
              rcases List.mem_append.1 hm with h1 | h1
              · have := (List.pairwise_append.1 hs).2.2 y h1 x (by simp); omega
              · exact absurd (List.mem_singleton.1 h1) hy
            rw [if_neg (by simp; exact fun e => hy e.symm), Nat.add_zero]
            by_cases hm : y ∈ T ++ [x]
            · rw [List.count_filter (by simpa using hlt hm)]
            · rw [List.count_eq_zero.2 hm, List.count_eq_zero.2 (fun h => hm (List.mem_filter.1 h).1)]
        · rw [List.mem_append, List.mem_filter, List.mem_replicate]
          constructor
          · rintro (h | h)
            · exact h.1
            · rw [h.2]; simp
          · intro hm
            by_cases hy : y = x
            · exact .inr ⟨by omega, hy⟩
            · refine .inl ⟨hm, ?_⟩
              rcases List.mem_append.1 hm with h1 | h1
              · have := (List.pairwise_append.1 hs).2.2 y h1 x (by simp); simp; omega
              · exact absurd (List.mem_singleton.1 h1) hy
  have hp := List.mergeSort_perm M (fun a b => decide (a ≤ b))
  have hs : (M.mergeSort (fun a b => decide (a ≤ b))).Pairwise (· ≤ ·) := by
    have := List.pairwise_mergeSort (le := fun a b : Int => decide (a ≤ b)) (by simp; omega) (by simp; omega) M
    simpa using this
  obtain ⟨r, hr⟩ := key _ _ rfl hs
  exact ⟨r, hr.perm (fun x => hp.count_eq x) (fun x => hp.mem_iff)⟩
end Go.Proofs.Ytemcilmefknbbaa
