/- Plain facts about the steps between two thresholds. No program. -/
import Derived.Test.YtibdggbejogciaaCvPl
import Derived.Test.YtibdggbejogciaaLbs
namespace Go.Proofs.Ytibdggbejogciaa

/-- whether a step lies above one threshold and not above the other -/
def btw (l : List Int) (θ η : Int) : Bool := l.any fun s => decide (θ < s) && decide (s ≤ η)
theorem btw_take {l : List Int} {θ η : Int} {k : Nat} (h : k < l.length) : btw (l.take (k + 1)) θ η = (btw (l.take k) θ η || (decide (θ < nth l k) && decide (nth l k ≤ η))) := by
  unfold btw
  rw [List.take_succ_eq_append_getElem h, List.any_append, nth_eq h]; simp
theorem btw_iff {l : List Int} {θ η : Int} : btw l θ η = true ↔ ∃ s, s ∈ l ∧ θ < s ∧ s ≤ η := by
  unfold btw
  rw [List.any_eq_true]
  constructor
  · rintro ⟨s, h1, h2⟩; simp at h2; exact ⟨s, h1, h2⟩
  · rintro ⟨s, h1, h2, h3⟩; exact ⟨s, h1, by simp [h2, h3]⟩
theorem up_nth {l : List Int} (h : l.Pairwise (· < ·)) {k : Nat} (hk : k + 1 < l.length) : nth l k < nth l (k + 1) := by
  rw [nth_eq (by omega), nth_eq hk]
  exact List.pairwise_iff_getElem.1 h k (k + 1) (by omega) hk (by omega)
theorem labs_eq {n : Nat} {f g : Nat → Nat} (h : intsN (labs n f) = intsN (labs n g)) : ∀ i, i < n → f i = g i := by
  intro i hi
  have h1 : nth (intsN (labs n f)) i = (((labs n f).getD i 0 : Nat) : Int) := intsN_nth
  rw [h, intsN_nth, labs_at hi, labs_at hi] at h1
  omega
theorem steps_law {n : Nat} {E : List Ed} {o : List Nat} (G : GOk n E) (ho : OrdOf E o) {θ η : Int} (h : θ ≤ η) :
    (btw (stp E (frs E o)) θ η = false ∧ intsN (labs n (lbW E θ)) = intsN (labs n (lbW E η)) ∧ cntN n (lbW E θ) = cntN n (lbW E η)) ∨
    (btw (stp E (frs E o)) θ η = true ∧ intsN (labs n (lbW E θ)) ≠ intsN (labs n (lbW E η)) ∧ cntN n (lbW E θ) ≠ cntN n (lbW E η)) := by
  have h1 := step_between ho θ η
  rw [← btw_iff] at h1
  have m := kOf_mono (f := frs E o) (S := leW E θ) (T := leW E η) fun i hi => leW_iff.2 (Int.le_trans (leW_iff.1 hi) h)
  have c1 := cntW_k G ho θ
  have c2 := cntW_k G ho η
  cases hb : btw (stp E (frs E o)) θ η with
  | false =>
    left
    have h2 : ¬ kOf (frs E o) (leW E θ) < kOf (frs E o) (leW E η) := fun c => by rw [h1.2 c] at hb; exact Bool.noConfusion hb
    have h3 := lbW_same ho (θ := θ) (η := η) (by omega)
    exact ⟨rfl, by rw [h3], by rw [h3]⟩
  | true =>
    right
    have h2 := h1.1 hb
    have h3 : cntN n (lbW E θ) ≠ cntN n (lbW E η) := by omega
    exact ⟨rfl, fun c => h3 (cntN_congr (labs_eq c)), h3⟩
end Go.Proofs.Ytibdggbejogciaa
