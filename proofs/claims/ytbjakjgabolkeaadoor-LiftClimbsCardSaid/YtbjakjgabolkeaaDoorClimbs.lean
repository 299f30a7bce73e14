/- The laws of Climb, in plain mathematics, and the keys that the law makes. No program is in sight. No conditions. -/
import Derived.Test.YtbjakjgabolkeaaDoorCommons
namespace Go.Proofs.YtbjakjgabolkeaaDoor
open Go.RowKit Go.Shelf

/-- how far one climbs, and over what -/
theorem climb_spec {p key : List Int} {m : Int} (F : Tree p) : ∀ (n v : Nat), v < p.length → dp p v = n → ∃ j, j ≤ dp p v ∧ anc p j v = some (climb p key m v) ∧ (∀ k, 1 ≤ k → k ≤ j → ∀ u, anc p k v = some u → nth key u ≤ m) ∧ onward p key m (climb p key m v) = false := by
  intro n
  induction n with
  | zero =>
    intro v hv hd
    have ho : onward p key m v = false := by
      cases h : onward p key m v with
      | false => rfl
      | true => obtain ⟨u, _, _, h3, _⟩ := climb_go F hv h; omega
    rw [climb_stop ho]
    exact ⟨0, Nat.zero_le _, rfl, fun k h1 h2 => by omega, ho⟩
  | succ n ih =>
    intro v hv hd
    cases ho : onward p key m v with
    | false =>
      rw [climb_stop ho]
      exact ⟨0, Nat.zero_le _, rfl, fun k h1 h2 => by omega, ho⟩
    | true =>
      obtain ⟨u, h1, h2, h3, h4⟩ := climb_go F hv ho
      obtain ⟨j, g1, g2, g3, g4⟩ := ih u h2 (by omega)
      rw [h4]
      refine ⟨j + 1, by omega, by rw [anc_succ', h1]; exact g2, fun k k1 k2 x hx => ?_, g4⟩
      obtain ⟨k, rfl⟩ : ∃ k', k = k' + 1 := ⟨k - 1, by omega⟩
      rw [anc_succ', h1] at hx
      simp only [Option.bind_some] at hx
      cases k with
      | zero =>
        cases hx
        unfold onward at ho
        rw [h1] at ho
        simpa using ho
      | succ k => exact g3 (k + 1) (by omega) (by omega) x hx
theorem climb_more {p key : List Int} {m M : Int} (F : Tree p) (hm : m ≤ M) : ∀ (n v : Nat), v < p.length → dp p v = n → climb p key M v = climb p key M (climb p key m v) := by
  intro n
  induction n with
  | zero =>
    intro v hv hd
    have ho : onward p key m v = false := by
      cases h : onward p key m v with
      | false => rfl
      | true => obtain ⟨u, _, _, h3, _⟩ := climb_go F hv h; omega
    rw [climb_stop ho]
  | succ n ih =>
    intro v hv hd
    cases ho : onward p key m v with
    | false => rw [climb_stop ho]
    | true =>
      obtain ⟨u, h1, h2, h3, h4⟩ := climb_go F hv ho
      have ho2 : onward p key M v = true := by
        unfold onward at ho ⊢
        rw [h1] at ho ⊢
        simp at ho ⊢
        omega
      obtain ⟨u2, g1, g2, g3, g4⟩ := climb_go F hv ho2
      rw [h1] at g1; cases g1
      rw [g4, h4]
      exact ih u h2 (by omega)
/-- where one stops -/
structure Stops (p key : List Int) (m : Int) (v x : Nat) : Prop where
  lt : x < p.length
  anc : isAnc p x v = true
  dep : dp p x ≤ dp p v
  way : ∀ k, 1 ≤ k → k ≤ dp p v - dp p x → ∀ u, Go.Proofs.YtbjakjgabolkeaaDoor.anc p k v = some u → nth key u ≤ m
  stop : onward p key m x = false
theorem stops_of {p key : List Int} {m : Int} (F : Tree p) {v : Nat} (hv : v < p.length) : Stops p key m v (climb p key m v) := by
  obtain ⟨j, h1, h2, h3, h4⟩ := climb_spec (key := key) (m := m) F _ v hv rfl
  have hd := anc_d F hv h2
  exact ⟨anc_lt F hv h2, (isAnc_iff F hv).2 ⟨j, h2⟩, by omega, fun k k1 k2 => h3 k k1 (by omega), h4⟩
theorem climb_root {p key : List Int} {m : Int} (F : Tree p) {v : Nat} (hv : v < p.length) (hk : ∀ u, u < p.length → nth key u ≤ m) : climb p key m v = rootOf p v := by
  have S := stops_of (key := key) (m := m) F hv
  have hn : pa p (climb p key m v) = none := by
    cases h : pa p (climb p key m v) with
    | none => rfl
    | some u =>
      have h2 := S.stop
      unfold onward at h2
      rw [h] at h2
      have := hk u (F.rng _ u S.lt h)
      simp at h2; omega
  have hd := F.root _ S.lt hn
  have h3 := (isAnc_iff' F hv).1 S.anc
  have h4 := h3.2
  rw [hd, Nat.sub_zero, rootOf_anc F hv] at h4
  exact (Option.some.inj h4).symm
theorem cl_at {p key : List Int} {m : Int} {v : Nat} (hv : v < p.length) (hk : key.length = p.length) : clV p v key m = climb p key m v ∧ clE p v key = 0 := by
  have hi : inB p v = true := inB_iff.2 ⟨v, rfl, hv⟩
  have he : clE p v key = 0 := by rw [clE, if_pos hi, if_pos hk]
  exact ⟨by rw [clV, if_pos he, Int.toNat_natCast], he⟩
theorem cl_few {p key : List Int} {m : Int} {v : Nat} (hv : v < p.length) (hk : key.length ≠ p.length) : clV p v key m = 0 ∧ clE p v key = 2 := by
  have hi : inB p v = true := inB_iff.2 ⟨v, rfl, hv⟩
  have he : clE p v key = 2 := by rw [clE, if_pos hi, if_neg hk]
  exact ⟨by rw [clV, he]; rfl, he⟩
theorem cl_out {p key : List Int} {m v : Int} (hi : inB p v = false) : clV p v key m = 0 ∧ clE p v key = 3 := by
  have he : clE p v key = 3 := by rw [clE, hi]; rfl
  exact ⟨by rw [clV, he]; rfl, he⟩

/-- the keys that the law makes -/
def keyTo (ks : List Int) (k : Nat) : List Int := (List.range k).map fun v => nth ks (v % ks.length)
theorem keyTo_succ (ks : List Int) (k : Nat) : keyTo ks (k + 1) = keyTo ks k ++ [nth ks (k % ks.length)] := by
  simp [keyTo, List.range_succ]
theorem keyTo_len (ks : List Int) (k : Nat) : (keyTo ks k).length = k := by simp [keyTo]
theorem keyTo_nth (ks : List Int) {k i : Nat} (h : i < k) : nth (keyTo ks k) i = nth ks (i % ks.length) := by
  simp [nth, keyTo, h]
end Go.Proofs.YtbjakjgabolkeaaDoor
