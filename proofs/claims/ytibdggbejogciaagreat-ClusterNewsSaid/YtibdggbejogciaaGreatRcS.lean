/- Plain mathematics of the thresholds at which components change: the weights of the forest's edges, each once. No conditions. -/
import Derived.Test.YtibdggbejogciaaGreatRcE
import Derived.Lib.SlicesCompact
namespace Go.Proofs.YtibdggbejogciaaGreat
open Go.Lib

/-- the labels of the edges up to a weight, and below it -/
def lbW (E : List Ed) (θ : Int) : Nat → Nat := labO E ((List.range E.length).filter (leW E θ))
def lbB (E : List Ed) (θ : Int) : Nat → Nat := labO E ((List.range E.length).filter (ltW E θ))
theorem leW_iff {E : List Ed} {θ : Int} {i : Nat} : leW E θ i = true ↔ (eAt E i).w ≤ θ := by unfold leW; simp
theorem ltW_iff {E : List Ed} {θ : Int} {i : Nat} : ltW E θ i = true ↔ (eAt E i).w < θ := by unfold ltW; simp
/-- a weight at which components merge -/
def mrg (n : Nat) (E : List Ed) (w : Int) : Bool := decide (cntN n (lbW E w) ≠ cntN n (lbB E w))
/-- the steps of a graph -/
structure IsSteps (n : Nat) (E : List Ed) (l : List Int) : Prop where
  up : l.Pairwise (· < ·)
  wt : ∀ x, x ∈ l → ∃ i, i < E.length ∧ (eAt E i).w = x
  at_ : ∀ i, i < E.length → ((eAt E i).w ∈ l ↔ mrg n E (eAt E i).w = true)
theorem IsSteps.mem {n : Nat} {E : List Ed} {l : List Int} (h : IsSteps n E l) (x : Int) : x ∈ l ↔ (∃ i, i < E.length ∧ (eAt E i).w = x) ∧ mrg n E x = true := by
  constructor
  · intro hx
    obtain ⟨i, hi, e⟩ := h.wt x hx
    exact ⟨⟨i, hi, e⟩, by rw [← e]; exact (h.at_ i hi).1 (by rw [e]; exact hx)⟩
  · rintro ⟨⟨i, hi, e⟩, hm⟩
    rw [← e] at hm ⊢
    exact (h.at_ i hi).2 hm
theorem up_ext : ∀ {l m : List Int}, l.Pairwise (· < ·) → m.Pairwise (· < ·) → (∀ x, x ∈ l ↔ x ∈ m) → l = m
  | [], [], _, _, _ => rfl
  | [], b :: m, _, _, h => absurd ((h b).2 (by simp)) (by simp)
  | a :: l, [], _, _, h => absurd ((h a).1 (by simp)) (by simp)
  | a :: l, b :: m, hl, hm, h => by
    have ⟨h1, h2⟩ := List.pairwise_cons.1 hl
    have ⟨h3, h4⟩ := List.pairwise_cons.1 hm
    have e : a = b := by
      rcases List.mem_cons.1 ((h a).1 (by simp)) with c | c
      · exact c
      · rcases List.mem_cons.1 ((h b).2 (by simp)) with d | d
        · exact d.symm
        · have := h1 b d; have := h3 a c; omega
    subst e
    rw [up_ext h2 h4 fun x => ?_]
    constructor
    · intro hx
      rcases List.mem_cons.1 ((h x).1 (by simp [hx])) with c | c
      · have := h1 x hx; omega
      · exact c
    · intro hx
      rcases List.mem_cons.1 ((h x).2 (by simp [hx])) with c | c
      · have := h3 x hx; omega
      · exact c
theorem IsSteps.one {n : Nat} {E : List Ed} {l m : List Int} (h : IsSteps n E l) (h' : IsSteps n E m) : l = m := up_ext h.up h'.up fun x => by rw [h.mem, h'.mem]
/-- a list without repetitions next to one another -/
theorem cpt_mem {d : Array Int} {x : Int} : ∀ {m : Nat}, x ∈ compactUpTo d m ↔ ∃ j, j < m ∧ d[j]! = x
  | 0 => by simp [compactUpTo]
  | m + 1 => by
    rw [compactUpTo_succ, List.mem_append, cpt_mem]
    constructor
    · rintro (⟨j, hj, e⟩ | h)
      · exact ⟨j, by omega, e⟩
      · split at h
        · have h : x = d[m]! := by simpa using h
          exact ⟨m, by omega, h.symm⟩
        · cases h
    · rintro ⟨j, hj, e⟩
      by_cases c : j < m
      · exact .inl ⟨j, c, e⟩
      · obtain rfl : j = m := by omega
        by_cases hk : keeps d j = true
        · rw [if_pos hk]; exact .inr (by simp [e])
        · have h2 : ¬ (j = 0 ∨ d[j]! ≠ d[j - 1]!) := fun c => hk (by unfold keeps; exact decide_eq_true c)
          have h0 : j ≠ 0 := fun c => h2 (.inl c)
          have h1 : d[j]! = d[j - 1]! := Classical.byContradiction fun c => h2 (.inr c)
          exact .inl ⟨j - 1, by omega, by rw [← h1]; exact e⟩
theorem cpt_up {d : Array Int} {N : Nat} (hd : ∀ i j, i < j → j < N → d[i]! ≤ d[j]!) : ∀ {m : Nat}, m ≤ N → (compactUpTo d m).Pairwise (· < ·)
  | 0, _ => by simp [compactUpTo]
  | m + 1, h => by
    rw [compactUpTo_succ]
    have ih := cpt_up hd (m := m) (by omega)
    split
    · rename_i hk
      refine List.pairwise_append.2 ⟨ih, by simp, fun x hx y hy => ?_⟩
      obtain rfl : y = d[m]! := by simpa using hy
      obtain ⟨j, hj, e⟩ := cpt_mem.1 hx
      have hk : m = 0 ∨ d[m]! ≠ d[m - 1]! := by unfold keeps at hk; exact of_decide_eq_true hk
      have h0 : m ≠ 0 := by omega
      have h1 := hk.resolve_left h0
      have h2 := hd (m - 1) m (by omega) (by omega)
      by_cases c : j = m - 1
      · rw [← e, c]; omega
      · have := hd j (m - 1) (by omega) (by omega)
        omega
    · rw [List.append_nil]; exact ih
/-- the weights of some edges, in their order, and each once -/
def ws (E : List Ed) (f : List Nat) : List Int := f.map fun i => (eAt E i).w
def stp (E : List Ed) (f : List Nat) : List Int := compactUpTo (ws E f).toArray (ws E f).length
theorem ws_len (E : List Ed) (f : List Nat) : (ws E f).length = f.length := by simp [ws]
theorem ws_at {E : List Ed} {f : List Nat} {i : Nat} (h : i < f.length) : (ws E f).toArray[i]! = (eAt E (f.getD i 0)).w := by simp [ws, h]
theorem stp_mem {E : List Ed} {f : List Nat} {x : Int} : x ∈ stp E f ↔ ∃ j, j < f.length ∧ (eAt E (f.getD j 0)).w = x := by
  unfold stp
  rw [cpt_mem, ws_len]
  constructor
  · rintro ⟨j, hj, e⟩; exact ⟨j, hj, by rw [← ws_at hj]; exact e⟩
  · rintro ⟨j, hj, e⟩; exact ⟨j, hj, by rw [ws_at hj]; exact e⟩
section
variable {n : Nat} {E : List Ed} {o : List Nat}
theorem stp_up (ho : OrdOf E o) : (stp E (frs E o)).Pairwise (· < ·) := by
  unfold stp
  refine cpt_up (N := (frs E o).length) (fun i j hij hj => ?_) (by rw [ws_len]; exact Nat.le_refl _)
  rw [ws_at (by omega), ws_at hj]
  exact frs_ws ho hij hj
theorem lbI_W (ho : OrdOf E o) (θ : Int) : lbI E (frs E o) (kOf (frs E o) (leW E θ)) = lbW E θ := lbI_kOf ho leW_down
theorem lbI_B (ho : OrdOf E o) (θ : Int) : lbI E (frs E o) (kOf (frs E o) (ltW E θ)) = lbB E θ := lbI_kOf ho ltW_down
theorem cntW_k (G : GOk n E) (ho : OrdOf E o) (θ : Int) : cntN n (lbW E θ) + kOf (frs E o) (leW E θ) = n := by
  rw [← lbI_W ho]; exact cnt_lbI (frs_fo G ho) (kOf_le _ _)
theorem cntB_k (G : GOk n E) (ho : OrdOf E o) (θ : Int) : cntN n (lbB E θ) + kOf (frs E o) (ltW E θ) = n := by
  rw [← lbI_B ho]; exact cnt_lbI (frs_fo G ho) (kOf_le _ _)
theorem frs_lt (ho : OrdOf E o) {j : Nat} (hj : j < (frs E o).length) : (frs E o).getD j 0 < E.length := by
  have h1 : (frs E o).getD j 0 ∈ frs E o := by
    rw [List.getD_eq_getElem?_getD, List.getElem?_eq_getElem hj]; exact List.getElem_mem _
  exact ho.mem.1 ((frs_sub E o).mem h1)
theorem kOf_mono {f : List Nat} {S T : Nat → Bool} (h : ∀ i, S i = true → T i = true) : kOf f S ≤ kOf f T := by
  unfold kOf
  induction f with
  | nil => exact Nat.le_refl _
  | cons a t ih =>
    by_cases c : S a = true
    · rw [List.filter_cons_of_pos c, List.filter_cons_of_pos (h a c)]; simpa using ih
    · rw [List.filter_cons_of_neg c]
      refine Nat.le_trans ih (List.Sublist.length_le (List.Sublist.filter _ (List.sublist_cons_self a t)))
/-- between two thresholds there is a step just if there are more edges -/
theorem step_between (ho : OrdOf E o) (θ η : Int) : (∃ s, s ∈ stp E (frs E o) ∧ θ < s ∧ s ≤ η) ↔ kOf (frs E o) (leW E θ) < kOf (frs E o) (leW E η) := by
  have hle : ∀ i (x : Int), leW E x i = true ↔ (eAt E i).w ≤ x := fun i x => by unfold leW; simp
  constructor
  · rintro ⟨s, hs, h1, h2⟩
    obtain ⟨j, hj, e⟩ := stp_mem.1 hs
    have a1 := (kOf_iff ho leW_down (S := leW E η) hj).1 ((hle _ _).2 (by omega))
    have a2 : ¬ j < kOf (frs E o) (leW E θ) := fun c => by
      have := (hle _ _).1 ((kOf_iff ho leW_down (S := leW E θ) hj).2 c)
      omega
    omega
  · intro hk
    have hj : kOf (frs E o) (leW E θ) < (frs E o).length := Nat.lt_of_lt_of_le hk (kOf_le _ _)
    have a1 := (hle _ _).1 ((kOf_iff ho leW_down (S := leW E η) hj).2 hk)
    have a2 : ¬ (eAt E ((frs E o).getD (kOf (frs E o) (leW E θ)) 0)).w ≤ θ := fun c => by
      have := (kOf_iff ho leW_down (S := leW E θ) hj).1 ((hle _ _).2 c)
      omega
    exact ⟨_, stp_mem.2 ⟨_, hj, rfl⟩, by omega, a1⟩
theorem stp_is (G : GOk n E) (ho : OrdOf E o) : IsSteps n E (stp E (frs E o)) := by
  refine ⟨stp_up ho, fun x hx => ?_, fun i hi => ?_⟩
  · obtain ⟨j, hj, e⟩ := stp_mem.1 hx
    exact ⟨_, frs_lt ho hj, e⟩
  · generalize (eAt E i).w = x
    have h1 := cntW_k G ho x
    have h2 := cntB_k G ho x
    have hmn : kOf (frs E o) (ltW E x) ≤ kOf (frs E o) (leW E x) := kOf_mono fun i hi => by
      unfold ltW at hi; unfold leW
      simp only [decide_eq_true_eq] at hi ⊢; omega
    have hm : mrg n E x = true ↔ kOf (frs E o) (ltW E x) < kOf (frs E o) (leW E x) := by
      unfold mrg; rw [decide_eq_true_eq]; omega
    rw [hm, stp_mem]
    constructor
    · rintro ⟨j, hj, e⟩
      have a1 := (kOf_iff ho leW_down (S := leW E x) hj).1 (by unfold leW; exact decide_eq_true (by omega))
      have a2 : ¬ j < kOf (frs E o) (ltW E x) := fun c => by
        have := (kOf_iff ho ltW_down (S := ltW E x) hj).2 c
        unfold ltW at this
        have := of_decide_eq_true this
        omega
      omega
    · intro hk
      have hj : kOf (frs E o) (ltW E x) < (frs E o).length := Nat.lt_of_lt_of_le hk (kOf_le _ _)
      have a1 := (kOf_iff ho leW_down (S := leW E x) hj).2 hk
      have a2 : ¬ ltW E x ((frs E o).getD (kOf (frs E o) (ltW E x)) 0) = true := fun c => by
        have := (kOf_iff ho ltW_down (S := ltW E x) hj).1 c
        omega
      rw [leW_iff] at a1; rw [ltW_iff] at a2
      exact ⟨_, hj, by omega⟩
/-- two thresholds have the same labels just if they have as many edges -/
theorem lbW_same (ho : OrdOf E o) {θ η : Int} (h : kOf (frs E o) (leW E θ) = kOf (frs E o) (leW E η)) : lbW E θ = lbW E η := by rw [← lbI_W ho, h, lbI_W ho]
theorem cntN_congr {k k' : Nat → Nat} (h : ∀ i, i < n → k i = k' i) : cntN n k = cntN n k' := by
  unfold cntN
  congr 1
  refine List.filter_congr fun i hi => ?_
  rw [h i (List.mem_range.1 hi)]
end
end Go.Proofs.YtibdggbejogciaaGreat
