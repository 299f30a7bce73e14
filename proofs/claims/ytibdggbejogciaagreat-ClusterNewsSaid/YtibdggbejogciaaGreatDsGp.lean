/- Plain mathematics of groups: where the elements of each class go. No conditions. -/
import Derived.Test.YtibdggbejogciaaGreatDsu
namespace Go.Proofs.YtibdggbejogciaaGreat

/-- how many elements have smaller labels -/
def stG (n : Nat) (lab : Nat → Nat) (m : Nat) : Nat := ((List.range n).filter fun e => decide (lab e < m)).length
/-- how many of the first elements have a label -/
def rkG (lab : Nat → Nat) (j i : Nat) : Nat := ((List.range i).filter fun e => decide (lab e = j)).length
theorem flen_le {p q : Nat → Bool} {n : Nat} (h : ∀ i, i < n → p i = true → q i = true) : ((List.range n).filter p).length ≤ ((List.range n).filter q).length := by
  induction n with
  | zero => simp
  | succ n ih =>
    rw [List.range_succ, List.filter_append, List.filter_append, List.length_append, List.length_append]
    have := ih fun i hi => h i (by omega)
    have h2 := h n (by omega)
    cases hp : p n <;> cases hq : q n <;> simp_all <;> omega
theorem stG_le (n : Nat) (lab : Nat → Nat) (m : Nat) : stG n lab m ≤ n := by
  unfold stG
  have := List.length_filter_le (fun e => decide (lab e < m)) (List.range n)
  simpa using this
theorem stG_zero (n : Nat) (lab : Nat → Nat) : stG n lab 0 = 0 := by
  unfold stG
  rw [List.filter_eq_nil_iff.2 (fun i _ => by simp)]; rfl
theorem stG_label {n : Nat} {lab : Nat → Nat} {m : Nat} (h : lab m = m) : stG n lab (m + 1) = stG n lab m + clsN n lab m := by
  unfold stG clsN
  rw [h]
  exact filt_or (p := fun e => decide (lab e < m)) (q := fun e => decide (lab e = m)) (fun i => by rw [Bool.eq_iff_iff]; simp; omega) (fun i => by simp; omega)
theorem stG_other {n : Nat} {lab : Nat → Nat} (K : LabOk lab) {m : Nat} (h : lab m ≠ m) : stG n lab (m + 1) = stG n lab m := by
  unfold stG
  congr 1
  refine List.filter_congr fun e _ => ?_
  rw [Bool.eq_iff_iff]
  simp only [decide_eq_true_eq]
  have := K.idem e
  constructor
  · intro h1
    by_cases c : lab e = m
    · rw [c] at this; exact absurd this h
    · omega
  · omega
theorem rkG_zero (lab : Nat → Nat) (j : Nat) : rkG lab j 0 = 0 := rfl
theorem rkG_succ (lab : Nat → Nat) (j i : Nat) : rkG lab j (i + 1) = rkG lab j i + (if lab i = j then 1 else 0) := by
  unfold rkG
  rw [List.range_succ, List.filter_append, List.length_append]
  by_cases h : lab i = j <;> simp [h]
/-- there is room for one more -/
theorem rkG_lt {n : Nat} {lab : Nat → Nat} {i : Nat} (hi : i < n) : rkG lab (lab i) i < clsN n lab (lab (lab i)) ∨ lab (lab i) ≠ lab i := by
  by_cases h : lab (lab i) = lab i
  · left
    rw [h]
    have h1 := rkG_succ lab (lab i) i
    rw [if_pos rfl] at h1
    have h2 : rkG lab (lab i) (i + 1) ≤ rkG lab (lab i) n := by
      have : ∀ m, i + 1 ≤ m → rkG lab (lab i) (i + 1) ≤ rkG lab (lab i) m := fun m hm => by
        induction m with
        | zero => omega
        | succ m ih =>
          by_cases e : i + 1 = m + 1
          · rw [e]; exact Nat.le_refl _
          · have h8 := ih (by omega)
            have h9 := rkG_succ lab (lab i) m
            omega
      exact this n (by omega)
    have h3 : rkG lab (lab i) n = clsN n lab (lab i) := by unfold rkG clsN; rw [h]
    omega
  · exact .inr h
theorem room {n : Nat} {lab : Nat → Nat} (K : LabOk lab) {i : Nat} (hi : i < n) : stG n lab (lab i) + rkG lab (lab i) i < n := by
  have h := K.idem i
  have h1 := (rkG_lt (lab := lab) hi).resolve_right (fun c => c h)
  rw [h] at h1
  have h2 := stG_label (n := n) h
  have h3 := stG_le n lab (lab i + 1)
  omega
theorem rkG_none {lab : Nat → Nat} (K : LabOk lab) {j i : Nat} (h : i ≤ j) : rkG lab j i = 0 := by
  unfold rkG
  rw [List.filter_eq_nil_iff.2 (fun e he => by have := K.le e; have := List.mem_range.1 he; simp; omega)]; rfl
theorem clsN_posG {n : Nat} {lab : Nat → Nat} {i : Nat} (hi : i < n) : 0 < clsN n lab i := by
  unfold clsN
  refine List.length_pos_of_mem (a := i) (List.mem_filter.2 ⟨List.mem_range.2 hi, by simp⟩)
/-- the labels below a bound -/
def lbL (lab : Nat → Nat) (i : Nat) : List Nat := (List.range i).filter fun j => decide (lab j = j)
theorem lbL_succ (lab : Nat → Nat) (i : Nat) : lbL lab (i + 1) = if lab i = i then lbL lab i ++ [i] else lbL lab i := by
  unfold lbL
  rw [List.range_succ, List.filter_append]
  by_cases h : lab i = i <;> simp [h]
theorem lbL_len (lab : Nat → Nat) (i : Nat) : (lbL lab i).length = cntN i lab := rfl
end Go.Proofs.YtibdggbejogciaaGreat
