/- The walk of sum of the statements about kruskal. Conditions: the weights are small. -/
import Derived.Test.YtbmcflmflmlmaaaRow
import Derived.IntWalk
namespace Go.Proofs.Ytbmcflmflmlmaaa
open Go.RowKit

/-- the sum of the weights -/
def eSum (X : List Ed) : Int := (X.map fun e => e.w).sum
theorem eSum_take {X : List Ed} {q : Nat} (h : q < X.length) : eSum (X.take (q + 1)) = eSum (X.take q) + (eAt X q).w := by
  unfold eSum
  rw [List.take_succ_eq_append_getElem h, List.map_append, List.sum_append, eAt_eq h]
  simp
theorem eSum_bd {X : List Ed} (h : ∀ i, i < X.length → -128 ≤ (eAt X i).w ∧ (eAt X i).w ≤ 127) : ∀ q, q ≤ X.length → -128 * (q : Int) ≤ eSum (X.take q) ∧ eSum (X.take q) ≤ 128 * (q : Int)
  | 0, _ => by simp [eSum]
  | q + 1, hq => by
    have := eSum_bd h q (by omega)
    have := h q (by omega)
    rw [eSum_take (by omega)]
    omega
set_option maxRecDepth 100000 in
set_option maxHeartbeats 1000000 in
theorem lsum_any (a : Option Addr) (cap : Nat) (A : Nat → Addr) (X : List Ed) (w : World) (hS : ES w w.heap.size (.slice a X.length cap) X A) (hl : X.length ≤ 1000) (hw : ∀ i, i < X.length → -128 ≤ (eAt X i).w ∧ (eAt X i).w ≤ 127) :
    Calls Try.prog 33 #[.slice a X.length cap] w fun e w' => e = .returned (.int .i64 (eSum X)) ∧ w = w' := by
  have HS := Lib.hid hS; have HB := Lib.hid (eSum_bd hw)
  clear hS hw
  go_enter Try.func33, Try.ntmps33
  go_wp2_with fail
  go_loop [3, 4] (fun s iv => ∃ q : Nat, q ≤ X.length ∧ iv = .int .i64 (q : Nat) ∧ s = .int .i64 (eSum (X.take q))) (fun _ iv => X.length - (intOf iv).toNat)
  case atStart => exact ⟨0, Nat.zero_le _, rfl, rfl⟩
  case round =>
    obtain ⟨q, hq, rfl, rfl⟩ := hrel
    by_cases hlt : q < X.length
    · have ix := HS.out.ix q hlt
      have e2 := ES.w HS.out hlt
      have HT := Lib.hid (eSum_take hlt)
      have h1 := HB.out q hq
      have h2 := HB.out (q + 1) (by omega)
      rw [HT.out] at h2
      obtain ⟨x, hx⟩ : ∃ x, (eAt X q).w = x := ⟨_, rfl⟩
      obtain ⟨s, hs⟩ : ∃ s, eSum (X.take q) = s := ⟨_, rfl⟩
      rw [hx] at e2 h2; rw [hs] at h1 h2 ⊢
      have HX := Lib.hid hx; have HSs := Lib.hid hs
      have hqv : (0 : Int) ≤ q ∧ (q : Int) < X.length := by omega
      have hw1 : IntKind.i64.wrap (s + x) = s + x := IntWalk.i64_in _ (by omega)
      have hb1 : -1000000 ≤ s ∧ s ≤ 1000000 := by omega
      have hb2 : -2000000 ≤ x ∧ x ≤ 2000000 := by omega
      clear hx hs h1 h2
      go_wp2_with fail
      go_round
      case rel => exact ⟨q + 1, by omega, by go_num, by rw [HT.out, HX.out, HSs.out]⟩
      case measure => simp only [intOf]; omega
    · obtain rfl : q = X.length := by omega
      have HT := Lib.hid (show eSum (X.take X.length) = eSum X by rw [List.take_length])
      go_wp2_with fail
      go_ret
      exact ⟨by rw [← HT.out]; rfl, rfl⟩
end Go.Proofs.Ytbmcflmflmlmaaa
