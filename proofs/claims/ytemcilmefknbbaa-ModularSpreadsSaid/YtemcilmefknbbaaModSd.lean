/- Plain mathematics of rounds of label propagation. No conditions. -/
import Derived.Test.YtemcilmefknbbaaModFq
namespace Go.Proofs.Ytemcilmefknbbaa

/-- the labels after a round -/
noncomputable def rnd (E : List Ed) (L : List Int) : List Int := (List.range L.length).map fun v => Classical.choose (FreqOf.has (nth L v) (nl E L v))
theorem rnd_len (E : List Ed) (L : List Int) : (rnd E L).length = L.length := by simp [rnd]
theorem rnd_at {E : List Ed} {L : List Int} {v : Nat} (hv : v < L.length) : FreqOf (nth L v) (nl E L v) (nth (rnd E L) v) := by
  have e : nth (rnd E L) v = Classical.choose (FreqOf.has (nth L v) (nl E L v)) := by
    rw [nth_eq (by rw [rnd_len]; exact hv)]
    simp [rnd]
  rw [e]
  exact Classical.choose_spec (FreqOf.has (nth L v) (nl E L v))
theorem rnd_is {E : List Ed} {L : List Int} {v : Nat} {r : Int} (hv : v < L.length) (h : FreqOf (nth L v) (nl E L v) r) : nth (rnd E L) v = r := (rnd_at hv).same h
/-- the labels after so many rounds -/
noncomputable def spr (E : List Ed) : Nat → List Int → List Int
  | 0, L => L
  | k + 1, L => rnd E (spr E k L)
theorem spr_len (E : List Ed) (k : Nat) (L : List Int) : (spr E k L).length = L.length := by
  induction k with
  | zero => rfl
  | succ k ih => simp only [spr]; rw [rnd_len, ih]
theorem spr_add (E : List Ed) (a b : Nat) (L : List Int) : spr E (a + b) L = spr E b (spr E a L) := by
  induction b with
  | zero => rfl
  | succ b ih => rw [← Nat.add_assoc]; simp only [spr]; rw [ih]
/-- a round that changes nothing is followed by none that does -/
theorem spr_still {E : List Ed} {L : List Int} {j : Nat} (h : rnd E (spr E j L) = spr E j L) {k : Nat} (hk : j ≤ k) : spr E k L = spr E j L := by
  obtain ⟨d, rfl⟩ := Nat.exists_eq_add_of_le hk
  induction d with
  | zero => rfl
  | succ d ih => rw [← Nat.add_assoc]; simp only [spr]; rw [ih (by omega), h]
/-- a vertex without edges keeps its label -/
theorem spr_alone {E : List Ed} {v : Nat} (hd : deg E v = 0) {L : List Int} (hv : v < L.length) (k : Nat) : nth (spr E k L) v = nth L v := by
  induction k with
  | zero => rfl
  | succ k ih =>
    simp only [spr]
    have hn : nl E (spr E k L) v = [] := by
      have h0 : adj E v = [] := List.length_eq_zero_iff.1 hd
      rw [nl, h0]; rfl
    rw [rnd_is (r := nth (spr E k L) v) (by rw [spr_len]; exact hv) (.inl ⟨hn, rfl⟩), ih]
end Go.Proofs.Ytemcilmefknbbaa
