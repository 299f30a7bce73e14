/- The rows by weight, as lists: their thresholds rise, each row is that of its threshold, and the last one below a threshold is the threshold's. No conditions. -/
import Derived.Test.YtpbgophogneecaaGreatLvP
import Derived.Test.YtpbgophogneecaaGreatRca
namespace Go.Proofs.YtpbgophogneecaaGreat
open Go.RowKit

/-- the weight of the edge at a place of an order -/
def wtO (E : List Ed) (o : List Nat) (i : Nat) : Int := (eAt E (o.getD i 0)).w
theorem wtO_mono {E : List Ed} {o : List Nat} (ho : OrdOf E o) {i j : Nat} (h : i ≤ j) (hj : j < o.length) : wtO E o i ≤ wtO E o j := by
  rcases Nat.lt_or_ge i j with h1 | h1
  · have h2 := List.pairwise_iff_getElem.1 ho.sorted i j (by omega) hj h1
    unfold wtO
    rw [List.getD_eq_getElem?_getD, List.getD_eq_getElem?_getD, List.getElem?_eq_getElem (by omega), List.getElem?_eq_getElem hj]
    unfold ltE at h2
    show (eAt E o[i]).w ≤ (eAt E o[j]).w
    omega
  · obtain rfl : i = j := by omega
    exact Int.le_refl _
theorem cut_ex (f : Nat → Int) (θ : Int) : ∀ m, (∀ i j, i ≤ j → j < m → f i ≤ f j) → ∃ c, c ≤ m ∧ ∀ i, i < m → (f i ≤ θ ↔ i < c)
  | 0, _ => ⟨0, Nat.le_refl _, fun i hi => absurd hi (Nat.not_lt_zero _)⟩
  | m + 1, h => by
    obtain ⟨c, hc, h1⟩ := cut_ex f θ m fun i j hij hj => h i j hij (by omega)
    rcases Nat.lt_or_ge c m with h2 | h2
    · refine ⟨c, by omega, fun i hi => ?_⟩
      rcases Nat.lt_or_ge i m with h3 | h3
      · exact h1 i h3
      · obtain rfl : i = m := by omega
        have h4 := h c i (by omega) hi
        have h5 : ¬ f c ≤ θ := fun e => by have := (h1 c h2).1 e; omega
        exact ⟨fun e => by omega, fun e => by omega⟩
    · obtain rfl : c = m := by omega
      by_cases h3 : f c ≤ θ
      · refine ⟨c + 1, Nat.le_refl _, fun i hi => ⟨fun _ => hi, fun _ => ?_⟩⟩
        exact Int.le_trans (h i c (by omega) (by omega)) h3
      · refine ⟨c, by omega, fun i hi => ?_⟩
        rcases Nat.lt_or_ge i c with h4 | h4
        · exact h1 i h4
        · obtain rfl : i = c := by omega
          exact ⟨fun e => absurd e h3, fun e => by omega⟩
/-- the cut of an order at a threshold -/
def CutO (E : List Ed) (o : List Nat) (θ : Int) (c : Nat) : Prop := c ≤ o.length ∧ ∀ i, i < o.length → (wtO E o i ≤ θ ↔ i < c)
theorem lbW_take {E : List Ed} {o : List Nat} (ho : OrdOf E o) {θ : Int} {c : Nat} (h : CutO E o θ c) : lbW E θ = labO E (o.take c) := by
  unfold lbW
  refine labO_set fun i => ⟨fun hi => ?_, fun hi => ?_⟩
  · obtain ⟨h1, h2⟩ := List.mem_filter.1 hi
    obtain ⟨p, hp, rfl⟩ := List.mem_iff_getElem.1 (ho.perm.mem_iff.2 h1)
    have hw : wtO E o p ≤ θ := by
      unfold wtO
      rw [List.getD_eq_getElem?_getD, List.getElem?_eq_getElem hp]
      exact of_decide_eq_true h2
    have hpc := (h.2 p hp).1 hw
    exact List.mem_iff_getElem.2 ⟨p, by rw [List.length_take]; omega, List.getElem_take⟩
  · obtain ⟨p, hp, hpe⟩ := List.mem_iff_getElem.1 hi
    rw [List.length_take] at hp
    have hpo : p < o.length := by omega
    have hw := (h.2 p hpo).2 (by omega)
    unfold wtO at hw
    rw [List.getD_eq_getElem?_getD, List.getElem?_eq_getElem hpo] at hw
    rw [List.getElem_take] at hpe
    subst hpe
    exact List.mem_filter.2 ⟨ho.perm.mem_iff.1 (List.getElem_mem hpo), decide_eq_true hw⟩
theorem bdO_at {E : List Ed} {o : List Nat} {j : Nat} (h : bdO E o j = true) : 0 < j ∧ (j = o.length ∨ wtO E o j ≠ wtO E o (j - 1)) := by
  unfold bdO at h
  rw [Bool.and_eq_true, Bool.or_eq_true, decide_eq_true_eq, decide_eq_true_eq, decide_eq_true_eq] at h
  exact h
theorem bdO_of {E : List Ed} {o : List Nat} {j : Nat} (h : 0 < j ∧ (j = o.length ∨ wtO E o j ≠ wtO E o (j - 1))) : bdO E o j = true := by
  unfold bdO
  rw [Bool.and_eq_true, Bool.or_eq_true, decide_eq_true_eq, decide_eq_true_eq, decide_eq_true_eq]
  exact h
theorem lvK_mem {E : List Ed} {o : List Nat} {k j : Nat} : j ∈ lvK E o k ↔ j < k ∧ bdO E o j = true := by
  unfold lvK; rw [List.mem_filter, List.mem_range]
theorem lvK_rises (E : List Ed) (o : List Nat) (k : Nat) : (lvK E o k).Pairwise (· < ·) := List.pairwise_lt_range.filter _
/-- a row stands where its threshold cuts -/
theorem cut_bd {E : List Ed} {o : List Nat} (ho : OrdOf E o) {j : Nat} (hj : j ≤ o.length) (hb : bdO E o j = true) : CutO E o (wtO E o (j - 1)) j := by
  obtain ⟨h0, h1⟩ := bdO_at hb
  refine ⟨hj, fun i hi => ⟨fun h => ?_, fun h => wtO_mono ho (by omega) (by omega)⟩⟩
  rcases Nat.lt_or_ge i j with h2 | h2
  · exact h2
  · have h3 : wtO E o (j - 1) ≤ wtO E o j := wtO_mono ho (by omega) (by omega)
    have h4 : wtO E o j ≤ wtO E o i := wtO_mono ho h2 hi
    rcases h1 with h1 | h1 <;> omega
theorem lv_at {E : List Ed} {o : List Nat} {i : Nat} (hi : i < (lvK E o (o.length + 1)).length) : (lvK E o (o.length + 1)).getD i 0 ≤ o.length ∧ bdO E o ((lvK E o (o.length + 1)).getD i 0) = true := by
  rw [List.getD_eq_getElem?_getD, List.getElem?_eq_getElem hi]
  obtain ⟨h1, h2⟩ := lvK_mem.1 (List.getElem_mem hi)
  exact ⟨Nat.le_of_lt_succ h1, h2⟩
/-- each row is that of its threshold -/
theorem lv_row {E : List Ed} {o : List Nat} (ho : OrdOf E o) {i : Nat} (hi : i < (lvK E o (o.length + 1)).length) :
    lbW E (wtO E o ((lvK E o (o.length + 1)).getD i 0 - 1)) = labO E (o.take ((lvK E o (o.length + 1)).getD i 0)) := lbW_take ho (cut_bd ho (lv_at hi).1 (lv_at hi).2)
/-- the thresholds rise -/
theorem lv_rise {E : List Ed} {o : List Nat} (ho : OrdOf E o) {i : Nat} (hi : i + 1 < (lvK E o (o.length + 1)).length) :
    wtO E o ((lvK E o (o.length + 1)).getD i 0 - 1) < wtO E o ((lvK E o (o.length + 1)).getD (i + 1) 0 - 1) := by
  have h1 := lv_at (E := E) (o := o) (i := i) (by omega)
  have h2 := lv_at hi
  have h3 : (lvK E o (o.length + 1)).getD i 0 < (lvK E o (o.length + 1)).getD (i + 1) 0 := by
    rw [List.getD_eq_getElem?_getD, List.getD_eq_getElem?_getD, List.getElem?_eq_getElem hi, List.getElem?_eq_getElem (by omega)]
    exact List.pairwise_iff_getElem.1 (lvK_rises E o _) i (i + 1) (by omega) hi (Nat.lt_succ_self i)
  generalize (lvK E o (o.length + 1)).getD i 0 = a at *
  generalize (lvK E o (o.length + 1)).getD (i + 1) 0 = b at *
  obtain ⟨h4, h5⟩ := bdO_at h1.2
  have h6 : wtO E o (a - 1) ≤ wtO E o a := wtO_mono ho (by omega) (by omega)
  have h7 : wtO E o a ≤ wtO E o (b - 1) := wtO_mono ho (by omega) (by omega)
  rcases h5 with h5 | h5 <;> omega
/-- the last row of some that is not above a threshold -/
def lvS (E : List Ed) (o : List Nat) (θ : Int) (a j : Nat) : Nat := if wtO E o (j - 1) ≤ θ then j else a
def lvF (E : List Ed) (o : List Nat) (θ : Int) (K : List Nat) : Nat := K.foldl (lvS E o θ) 0
theorem lvF_snoc (E : List Ed) (o : List Nat) (θ : Int) (K : List Nat) (j : Nat) : lvF E o θ (K ++ [j]) = lvS E o θ (lvF E o θ K) j := by unfold lvF; rw [List.foldl_append]; rfl
theorem lvF_cut {E : List Ed} {o : List Nat} {θ : Int} {c : Nat} (h : CutO E o θ c) : ∀ k, c < k → k ≤ o.length + 1 → lvF E o θ (lvK E o k) = c
  | 0, h1, _ => absurd h1 (Nat.not_lt_zero _)
  | k + 1, h1, h2 => by
    rw [lvK_succ]
    by_cases hb : bdO E o k = true
    · rw [if_pos hb, lvF_snoc]
      unfold lvS
      have h3 := h.2 (k - 1) (by have := (bdO_at hb).1; omega)
      have h4 := (bdO_at hb).1
      by_cases hc : c < k
      · rw [if_neg (fun e => by have := h3.1 e; omega)]
        exact lvF_cut h k hc (by omega)
      · rw [if_pos (h3.2 (by omega))]; omega
    · rw [if_neg hb]
      by_cases hc : c < k
      · exact lvF_cut h k hc (by omega)
      · obtain rfl : c = k := by omega
        have h0 : c = 0 := by
          refine Nat.eq_zero_of_not_pos fun hp => hb (bdO_of ⟨hp, ?_⟩)
          rcases Nat.lt_or_ge c o.length with h5 | h5
          · right
            have h6 := h.2 c h5
            have h7 := (h.2 (c - 1) (by omega)).2 (by omega)
            intro e
            rw [e] at h6
            have := h6.1 h7; omega
          · left; omega
        subst h0; rfl
/-- the last row of all that is not above a threshold is the threshold's -/
theorem lvF_row {E : List Ed} {o : List Nat} (ho : OrdOf E o) (θ : Int) : labO E (o.take (lvF E o θ (lvK E o (o.length + 1)))) = lbW E θ := by
  obtain ⟨c, hc⟩ := cut_ex (wtO E o) θ o.length fun i j => wtO_mono ho
  rw [lvF_cut (c := c) hc _ (by omega) (Nat.le_refl _), lbW_take ho hc]
end Go.Proofs.YtpbgophogneecaaGreat
