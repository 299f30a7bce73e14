/- Plain facts about clusters at two thresholds. No program. -/
import Derived.Test.YtibdggbejogciaaRcS
import Derived.Test.YtibdggbejogciaaDsGp
namespace Go.Proofs.Ytibdggbejogciaa

section
variable {n : Nat} {E : List Ed}
theorem lab_coarse {o o' : List Nat} (h : ∀ i, i ∈ o → i ∈ o') (a : Nat) : labO E o' (labO E o a) = labO E o' a ∧ labO E o' a ≤ labO E o a := by
  have h1 : CI E (· ∈ o') (labO E o a) a := (ci_lab.2 ((labO_ok E o).idem a)).mono h
  have h2 := ci_lab.1 h1
  exact ⟨h2, by rw [← h2]; exact (labO_ok E o').le _⟩
theorem leW_sub {θ η : Int} (h : θ ≤ η) : ∀ i, i ∈ (List.range E.length).filter (leW E θ) → i ∈ (List.range E.length).filter (leW E η) := by
  intro i hi
  obtain ⟨h1, h2⟩ := List.mem_filter.1 hi
  exact List.mem_filter.2 ⟨h1, leW_iff.2 (Int.le_trans (leW_iff.1 h2) h)⟩
theorem lbW_coarse {θ η : Int} (h : θ ≤ η) (a : Nat) : lbW E η (lbW E θ a) = lbW E η a ∧ lbW E η a ≤ lbW E θ a := lab_coarse (leW_sub h) a
theorem lbW_le (θ : Int) (a : Nat) : lbW E θ a ≤ a := (labO_ok E _).le a
theorem cntW_le {θ η : Int} (h : θ ≤ η) : cntN n (lbW E η) ≤ cntN n (lbW E θ) := cntN_mono fun i _ hi => by
  have h1 := (lbW_coarse (E := E) h i).2
  have h2 := lbW_le (E := E) θ i
  omega
end
end Go.Proofs.Ytibdggbejogciaa
