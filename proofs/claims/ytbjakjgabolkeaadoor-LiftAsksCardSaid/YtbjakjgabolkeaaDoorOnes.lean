/- The walk of ones: the exponents of the powers of two that make up a number. Conditions: the number is below 8192; the library's table of de Bruijn is as its initialiser lays it. -/
import Derived.Test.YtbjakjgabolkeaaDoorUp
import Derived.Test.YtbjakjgabolkeaaDoorSeq
namespace Go.Proofs.YtbjakjgabolkeaaDoor
open Go.RowKit Go.Shelf
attribute [local go_sem] Oper.semAt_some

def sumP : List Nat → Nat
  | [] => 0
  | j :: r => 2 ^ j + sumP r
theorem sumP_snoc (l : List Nat) (j : Nat) : sumP (l ++ [j]) = sumP l + 2 ^ j := by
  induction l with
  | nil => simp [sumP]
  | cons x l ih => simp [sumP, ih]; omega

theorem and_pred (k m : Nat) : (2 ^ k * (2 * m + 1)) &&& (2 ^ k * (2 * m + 1) - 1) = 2 ^ k * (2 * m) := by
  have hp : 0 < 2 ^ k := Nat.two_pow_pos k
  have e : 2 ^ k * (2 * m + 1) - 1 = 2 ^ k * (2 * m) + (2 ^ k - 1) := by rw [Nat.mul_add]; omega
  rw [e]
  apply Nat.eq_of_testBit_eq
  intro i
  rw [Nat.testBit_and, Nat.testBit_two_pow_mul_add _ (by omega), Nat.mul_comm (2 ^ k), Nat.mul_comm (2 ^ k), Nat.testBit_mul_two_pow, Nat.testBit_mul_two_pow]
  by_cases hik : k ≤ i
  · simp only [hik, decide_true, Bool.true_and, show ¬ i < k from by omega, if_false]
    cases h : i - k with
    | zero => simp
    | succ j => rw [Nat.testBit_succ, Nat.testBit_succ, show (2 * m + 1) / 2 = m from by omega, show 2 * m / 2 = m from by omega, Bool.and_self]
  · simp [hik]

/-- what the loop does to its number -/
theorem ones_step (x : Nat) (h0 : x ≠ 0) (hx : x < 8192) : (x &&& (x - 1)) + 2 ^ Lib.ctz 64 x = x ∧ Lib.ctz 64 x < 13 := by
  obtain ⟨m, hm, hk⟩ := Lib.ctzFrom_spec 64 x (by omega) (Nat.lt_of_lt_of_le hx (by decide))
  have hc : Lib.ctz 64 x = Lib.ctzFrom 64 x := by simp [Lib.ctz, h0]
  rw [hc]
  generalize Lib.ctzFrom 64 x = k at *
  have h1 := and_pred k m
  rw [← hm] at h1
  rw [h1]
  have h2 : 2 ^ k * (2 * m) + 2 ^ k = x := by rw [hm, Nat.mul_add, Nat.mul_one]
  refine ⟨h2, ?_⟩
  have h3 : 2 ^ k < 2 ^ 13 := by
    have : 2 ^ k ≤ x := by omega
    exact Nat.lt_of_le_of_lt this hx
  exact (Nat.pow_lt_pow_iff_right (by decide)).1 h3

theorem ones_next (x : Nat) (h0 : x ≠ 0) (hx : x < 8192) : bits BinOp.and IntKind.u64 (x : Int) ((x : Int) - 1) = ((x &&& (x - 1) : Nat) : Int) := by
  rw [show (x : Int) - 1 = ((x - 1 : Nat) : Int) from by omega, bits_and_u64_nat _ _ (by omega) (by omega)]

theorem DeB.below {w w' : World} {B : Nat} (h : DeB w) (hb : Below B w w') (hB : 1 < B) : DeB w' := fun j hj => by rw [hb.cell hB]; exact h j hj

set_option maxHeartbeats 1000000 in
theorem ones_stops (n : Nat) (hn : 1 ≤ n) (k Bk n₀ : Nat) (hk : k < 8192) (hn₀ : 1 < n₀) (w : World) (hBk : Bk < w.heap.size) (hw : n₀ ≤ w.heap.size) (hc : w.cell? ⟨Bk, 0, none⟩ = some (.int .i64 k)) (hT : DeB w) :
    SeqR Fence.wide n Tryd.prog 38 #[.pointer (some ⟨Bk, 0, none⟩)] (fun j : Nat => #[.int .i64 j]) (Below n₀) (fun pre j => j < 13 ∧ sumP pre + 2 ^ j ≤ k) (fun xs => sumP xs = k) w := fun l J Jx W hW hJ hJx hY h0 => by
  have hcW : W.cell? ⟨Bk, 0, none⟩ = some (.int .i64 k) := (hW.cell (p := ⟨Bk, 0, none⟩) (by show Bk < _; omega)).trans hc
  have hTW : DeB W := hT.below hW (by omega)
  have hbound : n₀ ≤ W.heap.size := Nat.le_trans hw hW.size
  clear hW hc hT hJ hJx
  refine callsIn_of_wp Tryd.func38 rfl trivial ?_ rfl
  simp only [Tryd.ntmps38, List.size_toArray, List.length_cons, List.length_nil, Nat.reduceAdd, Nat.reduceSub, Array.replicate_succ, Array.replicate_zero, List.push_toArray, List.append_toArray, List.nil_append, List.cons_append]
  gi_wp2
  gi_loopw [3] (fun p wr => ∃ (pre : List Nat) (x : Nat), p = .int .u64 x ∧ x + sumP pre = k ∧ DeB wr ∧ J pre wr) (fun p _ => (intOf p).toNat)
  case atStart => exact ⟨[], k, rfl, by simp [sumP], hTW, h0⟩
  case round =>
    obtain ⟨pre, x, rfl, hxs, hTr, hJr⟩ := hrel
    have hx : x < 8192 := by omega
    have H := Lib.hid hxs
    clear hxs
    by_cases hx0 : x = 0
    · subst hx0
      gi_wp2
      go_end0
      exact ⟨⟨_, rfl⟩, .inl ⟨pre, by have := H.out; omega, hJr⟩⟩
    · have hs := ones_step x hx0 hx
      obtain ⟨fn, tmps, assign, body, hy, hR⟩ := hY pre (Lib.ctz 64 x) wr hJr ⟨hs.2, by have := H.out; omega⟩
      have HN := Lib.hid (ones_next x hx0 hx)
      have HS := Lib.hid hs.1
      clear hs hY
      gi_wp2_with (refine ⟨trivial, ?_⟩; gi_at_call 39; refine (callsIn_wide.2 (tz_any x (by omega) hx0 _ hTr)).mono ?_; rintro e w' ⟨rfl, rfl⟩)
      refine hR.mono ?_
      rintro e W3 (⟨rfl, hJ3, hk3⟩ | ⟨rfl, hJx3⟩)
      · have hT3 : DeB W3 := hTr.below hk3 hn₀
        gi_wp2
        go_roundw
        case rel => exact ⟨pre ++ [Lib.ctz 64 x], x &&& (x - 1), by rw [HN.out], by have h1 := H.out; have h2 := HS.out; rw [sumP_snoc]; omega, hT3, hJ3⟩
        case measure =>
          rw [HN.out]
          have h2 := HS.out
          have h3 : 0 < 2 ^ Lib.ctz 64 x := Nat.two_pow_pos _
          simp only [intOf]; omega
      · gi_wp2
        refine bodyPost_ret (results_none rfl _ _ _) rfl ?_
        exact ⟨⟨_, rfl⟩, .inr ⟨_, hJx3⟩⟩
end Go.Proofs.YtbjakjgabolkeaaDoor
