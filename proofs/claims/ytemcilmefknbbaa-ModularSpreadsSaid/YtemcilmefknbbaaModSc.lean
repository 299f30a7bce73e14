/- Plain mathematics of a scan over the runs of a sorted list. No conditions. -/
import Derived.Test.YtemcilmefknbbaaModFq
namespace Go.Proofs.Ytemcilmefknbbaa

/-- a scan of a sorted list stands between two runs -/
structure ScanAt (own : Int) (S : List Int) (b : Nat) (r : Int) (m : Nat) : Prop where
  le : b ≤ S.length
  cut : ∀ x y, x ∈ S.take b → y ∈ S.drop b → x < y
  fr : FreqOf own (S.take b) r
  most : (S.take b).count r = m
theorem ScanAt.start (own : Int) (S : List Int) : ScanAt own S 0 own 0 := ⟨Nat.zero_le _, fun x y h => by simp at h, by rw [List.take_zero]; exact FreqOf.none own, by simp⟩
theorem ScanAt.last {own : Int} {S : List Int} {b : Nat} {r : Int} {m : Nat} (h : ScanAt own S b r m) (hb : b = S.length) : FreqOf own S r := by
  have := h.fr; rwa [hb, List.take_length] at this
theorem take_run {S : List Int} {b c : Nat} (hc : b + c ≤ S.length) (run : ∀ i, b ≤ i → i < b + c → nth S i = nth S b) : S.take (b + c) = S.take b ++ List.replicate c (nth S b) := by
  induction c with
  | zero => simp
  | succ c ih =>
    rw [← Nat.add_assoc, List.take_succ_eq_append_getElem (by omega), ih (by omega) (fun i h1 h2 => run i h1 (by omega)), List.replicate_succ', ← List.append_assoc]
    congr 2
    rw [← nth_eq (by omega)]
    exact run (b + c) (by omega) (by omega)
theorem ScanAt.next {own : Int} {S : List Int} {b : Nat} {r : Int} {m c : Nat} (hs : S.Pairwise (· ≤ ·)) (h : ScanAt own S b r m) (hc : 0 < c) (hl : b + c ≤ S.length) (run : ∀ i, b ≤ i → i < b + c → nth S i = nth S b) (stop : b + c = S.length ∨ nth S (b + c) ≠ nth S b) :
    ScanAt own S (b + c) (if m < c ∨ (c = m ∧ nth S b = own) then nth S b else r) (if m < c ∨ (c = m ∧ nth S b = own) then c else m) := by
  have hb : b < S.length := by omega
  have ht := take_run hl run
  have hmem : nth S b ∈ S.drop b := by
    rw [nth_eq hb, List.drop_eq_getElem_cons hb]; exact List.mem_cons_self
  have hlt : ∀ y, y ∈ S.take b → y < nth S b := fun y hy => h.cut y _ hy hmem
  have hx0 : (S.take b).count (nth S b) = 0 := List.count_eq_zero.2 (fun hm => by have := hlt _ hm; omega)
  have hf := h.fr.run hc hlt
  rw [h.most] at hf
  have hsp : ∀ i j, i ≤ j → j < S.length → nth S i ≤ nth S j := fun i j hij hj => by
    rw [nth_eq (by omega), nth_eq hj]
    rcases Nat.lt_or_eq_of_le hij with e | e
    · exact List.pairwise_iff_getElem.1 hs i j (by omega) hj e
    · subst e; exact Int.le_refl _
  refine ⟨hl, fun x y hx hy => ?_, by rw [ht]; exact hf, ?_⟩
  · obtain ⟨j, hj, rfl⟩ := List.mem_iff_getElem.1 hy
    rw [List.length_drop] at hj
    rw [List.getElem_drop, ← nth_eq (by omega)]
    have h1 := hsp (b + c) (b + c + j) (by omega) (by omega)
    have h2 : nth S b < nth S (b + c) := by
      rcases stop with e | e
      · omega
      · have := hsp b (b + c) (by omega) (by omega); omega
    rw [ht] at hx
    rcases List.mem_append.1 hx with e | e
    · have := hlt x e; omega
    · rw [List.eq_of_mem_replicate e]; omega
  · rw [ht]
    by_cases hcnd : m < c ∨ (c = m ∧ nth S b = own)
    · rw [if_pos hcnd, if_pos hcnd, List.count_append, hx0, List.count_replicate_self, Nat.zero_add]
    · rw [if_neg hcnd, if_neg hcnd, List.count_append, h.most]
      have hne : r ≠ nth S b := by
        intro e
        have h0 : m = 0 := by rw [← h.most, e, hx0]
        exact hcnd (.inl (by omega))
      rw [List.count_replicate, if_neg (by simp; exact fun e => hne e.symm), Nat.add_zero]
end Go.Proofs.Ytemcilmefknbbaa
