/- The walk of slices.Equal at two slices of int64 of one length. Conditions: they are short. -/
import Derived.Test.YtbmcflmflmlmaaaRow
import Derived.BigQuiet
import Derived.Deep.QuietTactic
namespace Go.Proofs.Ytbmcflmflmlmaaa
open Go.RowKit

theorem eq_of_nthW {L M : List Int} (hl : M.length = L.length) (h : ∀ j, j < L.length → nth L j = nth M j) : L = M := by
  apply List.ext_getElem hl.symm
  intro i h1 h2
  have := h i h1
  rwa [nth_eq h1, nth_eq h2] at this
set_option maxRecDepth 100000 in
set_option maxHeartbeats 1000000 in
theorem equalW_any (B n : Nat) (a1 a2 : Option Addr) (c1 c2 : Nat) (A1 A2 : Nat → Addr) (L M : List Int) (w : World) (h1 : Rd 76 1 w B (.slice a1 n c1) n (nums .i64 L) A1) (h2 : Rd 76 1 w B (.slice a2 n c2) n (nums .i64 M) A2) (hl1 : L.length = n) (hl2 : M.length = n) (hs : n ≤ 1000000) (hB : B ≤ w.heap.size) :
    Calls Try.prog 60 #[.slice a1 n c1, .slice a2 n c2] w fun e w' => e = .returned (.bool (decide (L = M))) ∧ Below w.heap.size w w' := by
  have HL := Lib.hid (show ∀ k, k = n → (∀ j, j < k → nth L j = nth M j) → L = M from fun k hk h => eq_of_nthW (hl2.trans hl1.symm) (fun j hj => h j (by omega)))
  clear hl1 hl2
  go_enter Try.func60, Try.ntmps60
  go_wp2_with fail
  go_loopw [13] (fun i wr => ∃ k : Nat, k ≤ n ∧ i = .int .i64 k ∧ Hid (∀ j, j < k → nth L j = nth M j) ∧ Below w.heap.size w wr) (fun i _ => n - (intOf i).toNat)
  case atStart => exact ⟨0, Nat.zero_le _, rfl, Lib.hid (fun j hj => absurd hj (by omega)), Below.refl _ _⟩
  case round =>
    obtain ⟨k, hk, rfl, hp, bel⟩ := hrel
    by_cases hlt : k < n
    · have i1 := h1.ix k hlt
      have i2 := h2.ix k hlt
      have g1 := h1.below (bel.mono hB)
      have g2 := h2.below (bel.mono hB)
      have d1 : ∀ q, (wr.drewN q).cell? (A1 k) = some (.int .i64 (nth L k)) := fun _ => by
        have := g1.cell k hlt 0 (by omega); rwa [add_zero] at this
      have d2 : ∀ q, (wr.drewN q).cell? (A2 k) = some (.int .i64 (nth M k)) := fun _ => by
        have := g2.cell k hlt 0 (by omega); rwa [add_zero] at this
      clear h1 h2 g1 g2
      by_cases he : nth L k = nth M k
      · have hz : (nth L k != nth M k) = false := by simpa using he
        go_wp2_with fail
        go_quiet (fail)
        go_wp2_with fail
        go_roundw
        case rel => exact ⟨k + 1, by omega, by go_num, Lib.hid (fun j hj => by
          by_cases e : j = k
          · rw [e]; exact he
          · exact hp.out j (by omega)), below_drewN bel _⟩
        case measure => simp only [intOf]; omega
      · have hz : (nth L k != nth M k) = true := by simpa using he
        have hne : decide (L = M) = false := decide_eq_false (fun e => he (by rw [e]))
        have HNe := Lib.hid hne
        clear hne he
        go_wp2_with fail
        go_quiet (fail)
        go_wp2_with fail
        go_ret
        exact ⟨by rw [HNe.out]; rfl, below_drewN bel _⟩
    · have hke : k = n := by omega
      have hne : decide (L = M) = true := decide_eq_true (HL.out k hke hp.out)
      have HNe := Lib.hid hne
      clear hne
      go_wp2_with fail
      go_ret
      exact ⟨by rw [HNe.out]; rfl, bel⟩
end Go.Proofs.Ytbmcflmflmlmaaa
