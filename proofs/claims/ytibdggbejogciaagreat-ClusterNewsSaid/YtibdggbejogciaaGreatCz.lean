/- Plain facts about clusters at two thresholds. No program. -/
import Derived.Test.YtibdggbejogciaaGreatRcS
import Derived.Test.YtibdggbejogciaaGreatDsGp
import Derived.Test.YtibdggbejogciaaGreatCr
import Derived.Test.YtibdggbejogciaaGreatLgS
namespace Go.Proofs.YtibdggbejogciaaGreat

section
variable {n : Nat} {E : List Ed}
theorem lab_coarse {o o' : List Nat} (h : ∀ i, i ∈ o → i ∈ o') (a : Nat) : labO E o' (labO E o a) = labO E o' a ∧ labO E o' a ≤ labO E o a := by
  have h1 : CI E (· ∈ o') (labO E o a) a := (ci_lab.2 ((labO_ok E o).idem a)).mono h
  have h2 := ci_lab.1 h1
  exact ⟨h2, by rw [← h2]; exact (labO_ok E o').le _⟩
theorem leW_sub {θ η : Int} (h : θ ≤ η) : ∀ i, i ∈ (List.range E.length).filter (leW E θ) → i ∈ (List.range E.length).filter (leW E η) := by
  intro i hi
  obtain ⟨h1, h2⟩ := List.mem_filter.1 hi
  exact List.mem_filter.2 ⟨h1, leW_iff.2 (Int.le_trans (leW_iff.1 h2) h)⟩
theorem lbW_coarse {θ η : Int} (h : θ ≤ η) (a : Nat) : lbW E η (lbW E θ a) = lbW E η a ∧ lbW E η a ≤ lbW E θ a := lab_coarse (leW_sub h) a
theorem lbW_le (θ : Int) (a : Nat) : lbW E θ a ≤ a := (labO_ok E _).le a
theorem cntW_le {θ η : Int} (h : θ ≤ η) : cntN n (lbW E η) ≤ cntN n (lbW E θ) := cntN_mono fun i _ hi => by
  have h1 := (lbW_coarse (E := E) h i).2
  have h2 := lbW_le (E := E) θ i
  omega
end
end Go.Proofs.YtibdggbejogciaaGreat

/- Plain facts about all clusters: their members, and the sum of their sizes. No program. -/
namespace Go.Proofs.YtibdggbejogciaaGreat

/-- the sum of sizes -/
def smN (n : Nat) (f : Nat → Nat) (l : List Nat) : Nat := (l.map (clsN n f)).sum
theorem smN_snoc (n : Nat) (f : Nat → Nat) (l : List Nat) (j : Nat) : smN n f (l ++ [j]) = smN n f l + clsN n f j := by simp [smN]
theorem smN_le (n : Nat) (f : Nat → Nat) (l : List Nat) : smN n f l ≤ l.length * n := by
  induction l using rev_ind with
  | h0 => simp [smN]
  | h1 l j ih =>
    rw [smN_snoc, List.length_append, List.length_singleton, Nat.add_mul, Nat.one_mul]
    have h := clsN_le n f j
    omega
def rS (n : Nat) (h : Nat → Nat) : Nat := ((List.range n).map h).sum
theorem rS_succ (n : Nat) (h : Nat → Nat) : rS (n + 1) h = rS n h + h n := by simp [rS, List.range_succ]
theorem rS_filter (p : Nat → Bool) (h : Nat → Nat) (n : Nat) : (((List.range n).filter p).map h).sum = rS n fun a => if p a then h a else 0 := by
  induction n with
  | zero => rfl
  | succ n ih =>
    rw [rS_succ, ← ih, List.range_succ, List.filter_append, List.map_append, List.sum_append]
    cases hp : p n <;> simp [hp]
theorem rS_one (h : Nat → Nat) (c n : Nat) : rS n (fun a => h a + if c = a then 1 else 0) = rS n h + if c < n then 1 else 0 := by
  induction n with
  | zero => rfl
  | succ n ih =>
    rw [rS_succ, ih, rS_succ]
    by_cases h1 : c = n
    · subst h1; simp; omega
    · by_cases h2 : c < n
      · rw [if_pos h2, if_neg h1, if_pos (by omega)]; omega
      · rw [if_neg h2, if_neg h1, if_neg (by omega)]; omega
theorem rS_congr {h g : Nat → Nat} {n : Nat} (e : ∀ a, a < n → h a = g a) : rS n h = rS n g := by
  unfold rS
  rw [List.map_congr_left fun a ha => e a (List.mem_range.1 ha)]
theorem lvs_succ (m : Nat) (f : Nat → Nat) (a : Nat) : (lvs (m + 1) f a).length = (lvs m f a).length + if f m = a then 1 else 0 := by
  by_cases h : f m = a
  · rw [lvs_yes h, if_pos h, List.length_append]; rfl
  · rw [lvs_no h, if_neg h]; rfl
theorem lvs_all {f : Nat → Nat} {n : Nat} (hf : ∀ x, x < n → f x < n) : ∀ m, m ≤ n → rS n (fun a => (lvs m f a).length) = m := by
  intro m
  induction m with
  | zero =>
    intro _
    have e : (rS n fun a => (lvs 0 f a).length) = rS n fun _ => 0 := rS_congr fun a _ => rfl
    rw [e]
    clear hf e
    induction n with
    | zero => rfl
    | succ n ih => rw [rS_succ, ih (Nat.zero_le _)]
  | succ m ih =>
    intro hm
    rw [rS_congr (g := fun a => (lvs m f a).length + if f m = a then 1 else 0) fun a _ => lvs_succ m f a, rS_one, ih (by omega), if_pos (hf m (by omega))]
theorem lvs_cls {n : Nat} {f : Nat → Nat} {a : Nat} (h : f a = a) : (lvs n f a).length = clsN n f a := by
  unfold lvs clsN; rw [h]
theorem lvs_at {n : Nat} {f : Nat → Nat} {a j : Nat} (h : j < (lvs n f a).length) : (lvs n f a).getD j 0 < n ∧ f ((lvs n f a).getD j 0) = a := by
  have h1 : (lvs n f a).getD j 0 ∈ lvs n f a := by
    rw [List.getD_eq_getElem?_getD, List.getElem?_eq_getElem h]; exact List.getElem_mem _
  obtain ⟨h2, h3⟩ := List.mem_filter.1 h1
  exact ⟨List.mem_range.1 h2, of_decide_eq_true h3⟩
theorem filt_up {p : Nat → Bool} {n j : Nat} (h : j + 1 < ((List.range n).filter p).length) : ((List.range n).filter p).getD j 0 < ((List.range n).filter p).getD (j + 1) 0 := by
  have h1 : ((List.range n).filter p).Pairwise (· < ·) := List.Pairwise.filter _ List.pairwise_lt_range
  rw [List.getD_eq_getElem?_getD, List.getD_eq_getElem?_getD, List.getElem?_eq_getElem h, List.getElem?_eq_getElem (by omega)]
  exact List.pairwise_iff_getElem.1 h1 j (j + 1) (by omega) h (by omega)
theorem sm_all {f : Nat → Nat} {n : Nat} (K : LabOk f) : smN n f (lbL f n) = n := by
  have hf : ∀ x, x < n → f x < n := fun x hx => Nat.lt_of_le_of_lt (K.le x) hx
  unfold smN lbL
  rw [rS_filter]
  conv => rhs; rw [← lvs_all hf n (Nat.le_refl _)]
  apply rS_congr
  intro a _
  by_cases h : f a = a
  · rw [if_pos (decide_eq_true h), lvs_cls h]
  · rw [if_neg (by simp [h])]
    symm
    rw [List.length_eq_zero_iff]
    unfold lvs
    rw [List.filter_eq_nil_iff]
    intro x _ c
    exact h (by rw [← of_decide_eq_true c]; exact K.idem x)
theorem take_snoc0 {l : List Nat} {k : Nat} (h : k < l.length) : l.take (k + 1) = l.take k ++ [l.getD k 0] := by
  rw [List.take_succ_eq_append_getElem h]; simp [List.getD, h]
end Go.Proofs.YtibdggbejogciaaGreat
