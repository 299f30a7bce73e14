/- The walks of Reduce of package checked, and of what it calls, at numbers that are small. Conditions: the numbers are at most 2^40 in size. -/
import Derived.Test.YtemcilmefknbbaaMem
namespace Go.Proofs.Ytemcilmefknbbaa
open Go.RowKit

/-- 2^40, behind a name -/
def big40 : Int := 1099511627776
theorem u64_small {x : Int} (h0 : 0 ≤ x) (h1 : x ≤ 1099511627776) : IntKind.u64.wrap x = x := by rw [IntKind.wrap_u64]; omega
theorem u64_neg {x : Int} (h0 : -1099511627776 ≤ x) (h1 : x < 0) : IntKind.u64.wrap (-(IntKind.u64.wrap x)) = -x := by rw [IntKind.wrap_u64, IntKind.wrap_u64]; omega

set_option maxHeartbeats 400000 in
theorem size_any (x : Int) (w : World) (h0 : -1099511627776 ≤ x) (h1 : x ≤ 1099511627776) :
    Calls Try.prog 69 #[.int .i64 x] w fun e w' => e = .returned (.int .u64 (x.natAbs : Nat)) ∧ w = w' := by
  by_cases h : x < 0
  · have hw := u64_neg h0 h
    go_enter Try.func69, Try.ntmps69
    go_wp2
    go_ret
    exact ⟨by rw [show ((x.natAbs : Nat) : Int) = -x by omega]; rfl, rfl⟩
  · have hw := u64_small (x := x) (by omega) h1
    have hn : ((x.natAbs : Nat) : Int) = x := by omega
    have Hn := Lib.hid hn
    clear hn
    go_enter Try.func69, Try.ntmps69
    go_wp2
    go_ret
    exact ⟨by rw [Hn.out]; rfl, rfl⟩

set_option maxHeartbeats 400000 in
theorem divisor_any (x y : Nat) (w : World) (hx : x ≤ 1099511627776) (hy : y ≤ 1099511627776) :
    Calls Try.prog 70 #[.int .u64 (x : Nat), .int .u64 (y : Nat)] w fun e w' => e = .returned (.int .u64 (x.gcd y : Nat)) ∧ w = w' := by
  go_enter Try.func70, Try.ntmps70
  go_wp2
  go_loop [0, 1] (fun p q => ∃ a b : Nat, p = .int .u64 (a : Nat) ∧ q = .int .u64 (b : Nat) ∧ a ≤ 1099511627776 ∧ b ≤ 1099511627776 ∧ Hid (a.gcd b = x.gcd y)) (fun p _ => (intOf p).toNat)
  case atStart => exact ⟨x, y, rfl, rfl, hx, hy, Lib.hid rfl⟩
  case round =>
    obtain ⟨a, b, rfl, rfl, ha, hb, hg⟩ := hrel
    by_cases h0 : a = 0
    · subst h0
      go_wp2
      go_ret
      exact ⟨by rw [← hg.out, Nat.gcd_zero_left]; rfl, rfl⟩
    · have h1 : ((a : Int) != 0) = true := by simp; omega
      have h2 : (1 : Int) ≤ a := by omega
      have hm : b % a < a := Nat.mod_lt _ (by omega)
      go_wp2
      go_round
      case rel => exact ⟨b % a, a, by go_num, rfl, by omega, ha, Lib.hid (by rw [← Nat.gcd_rec, hg.out])⟩
      case measure => simp only [intOf]; omega

theorem i64_neg {x : Int} (h0 : 0 ≤ x) (h : x ≤ 1099511627776) : wrap64 (IntKind.u64.wrap (-x)) = -x := by rw [IntKind.wrap_u64]; unfold wrap64; omega
set_option maxHeartbeats 400000 in
theorem signed_yes (x : Int) (w : World) (h0 : 0 ≤ x) (hx : x ≤ 1099511627776) :
    Calls Try.prog 71 #[.int .u64 x, .bool true] w fun e w' => e = .returned (.tuple #[.int .i64 (-x), .int .i64 0]) ∧ w = w' := by
  have hw := i64_neg h0 hx
  go_enter Try.func71, Try.ntmps71
  go_wp2
  go_ret2
  refine ⟨?_, rfl⟩
  show Ending.returned (.tuple #[.int .i64 (wrap64 (IntKind.u64.wrap (-x))), .int .i64 0]) = _
  rw [hw]
set_option maxHeartbeats 400000 in
theorem signed_no (x : Int) (w : World) (h0 : 0 ≤ x) (hx : x ≤ 1099511627776) :
    Calls Try.prog 71 #[.int .u64 x, .bool false] w fun e w' => e = .returned (.tuple #[.int .i64 x, .int .i64 0]) ∧ w = w' := by
  go_enter Try.func71, Try.ntmps71
  go_wp2
  go_ret2
  exact ⟨rfl, rfl⟩

/-- what Reduce answers -/
def rG (n d : Int) : Nat := n.natAbs.gcd d.natAbs
def rQ (n d : Int) : Int := (n.natAbs : Int) / (rG n d : Int)
def rN (n d : Int) : Int := if n < 0 then -rQ n d else rQ n d
def rD (n d : Int) : Int := (d.natAbs : Int) / (rG n d : Int)
theorem rG_pos {n d : Int} (hd : 0 < d) : 1 ≤ rG n d := Nat.gcd_pos_of_pos_right _ (by omega)
theorem rQ_bd {n d : Int} (hd : 0 < d) (h0 : -1099511627776 ≤ n) (h1 : n ≤ 1099511627776) : 0 ≤ rQ n d ∧ rQ n d ≤ 1099511627776 := by
  have h := rG_pos (n := n) hd
  unfold rQ
  exact ⟨Int.ediv_nonneg (by omega) (by omega), Int.le_trans (Int.ediv_le_self _ (by omega)) (by omega)⟩
theorem rD_bd {n d : Int} (hd : 0 < d) (h1 : d ≤ 1099511627776) : 0 ≤ rD n d ∧ rD n d ≤ 1099511627776 := by
  have h := rG_pos (n := n) hd
  unfold rD
  exact ⟨Int.ediv_nonneg (by omega) (by omega), Int.le_trans (Int.ediv_le_self _ (by omega)) (by omega)⟩

set_option maxRecDepth 20000 in
set_option maxHeartbeats 1000000 in
theorem reduce_any (n d : Int) (w : World) (h0 : -1099511627776 ≤ n) (h1 : n ≤ 1099511627776) (hd : 0 < d) (hd1 : d ≤ 1099511627776) :
    Calls Try.prog 54 #[.int .i64 n, .int .i64 d] w fun e w' => e = .returned (.tuple #[.agg #[.int .i64 (rN n d), .int .i64 (rD n d)], .int .i64 0]) ∧ Below w.heap.size w w' := by
  have hg := rG_pos (n := n) hd
  have hQ := rQ_bd (n := n) hd h0 h1
  have hD := rD_bd (n := n) hd hd1
  have hd0 : (d == 0) = false := by simp; omega
  have hq : (n.natAbs : Int) / (rG n d : Int) = rQ n d := rfl
  have hr : (d.natAbs : Int) / (rG n d : Int) = rD n d := rfl
  have HG := Lib.hid (show n.natAbs.gcd d.natAbs = rG n d from rfl)
  have HN := Lib.hid (show rN n d = if n < 0 then -rQ n d else rQ n d from rfl)
  have hbel : ∀ X, Below w.heap.size w (w.alloc X) := fun X => (Below.refl _ _).alloc (Nat.le_refl _) X
  generalize rQ n d = Q at *
  generalize rD n d = D at *
  generalize rN n d = N at *
  generalize rG n d = G at *
  have hb2 : decide (d < 0) = false := decide_eq_false (by omega)
  by_cases hn : n < 0
  · have hN : N = -Q := by rw [HN.out, if_pos hn]
    have Hn := Lib.hid hN
    have hb1 : decide (n < 0) = true := decide_eq_true hn
    clear hN
    go_enter Try.func54, Try.ntmps54
    go_wp2_with fail
    refine (size_any n _ h0 h1).mono ?_
    rintro e w' ⟨rfl, rfl⟩
    go_wp2_with fail
    refine (size_any d _ (by omega) hd1).mono ?_
    rintro e w' ⟨rfl, rfl⟩
    go_wp2_with fail
    refine (divisor_any _ _ _ (by omega) (by omega)).mono ?_
    rintro e w' ⟨rfl, rfl⟩
    rw [HG.out]
    go_wp2_with fail
    refine (signed_yes _ _ hQ.1 hQ.2).mono ?_
    rintro e w' ⟨rfl, rfl⟩
    go_wp2_with fail
    refine (signed_no _ _ hD.1 hD.2).mono ?_
    rintro e w' ⟨rfl, rfl⟩
    go_wp2_with fail
    exact bodyPost_ret (v := .tuple #[.agg #[.int .i64 (-Q), .int .i64 D], .int .i64 0]) (by simp [results, Try.results54, go_sem]) rfl ⟨by rw [Hn.out], hbel _⟩
  · have hN : N = Q := by rw [HN.out, if_neg hn]
    have Hn := Lib.hid hN
    have hb1 : decide (n < 0) = false := decide_eq_false hn
    clear hN
    go_enter Try.func54, Try.ntmps54
    go_wp2_with fail
    refine (size_any n _ h0 h1).mono ?_
    rintro e w' ⟨rfl, rfl⟩
    go_wp2_with fail
    refine (size_any d _ (by omega) hd1).mono ?_
    rintro e w' ⟨rfl, rfl⟩
    go_wp2_with fail
    refine (divisor_any _ _ _ (by omega) (by omega)).mono ?_
    rintro e w' ⟨rfl, rfl⟩
    rw [HG.out]
    go_wp2_with fail
    refine (signed_no _ _ hQ.1 hQ.2).mono ?_
    rintro e w' ⟨rfl, rfl⟩
    go_wp2_with fail
    refine (signed_no _ _ hD.1 hD.2).mono ?_
    rintro e w' ⟨rfl, rfl⟩
    go_wp2_with fail
    exact bodyPost_ret (v := .tuple #[.agg #[.int .i64 (Q), .int .i64 D], .int .i64 0]) (by simp [results, Try.results54, go_sem]) rfl ⟨by rw [Hn.out], hbel _⟩
end Go.Proofs.Ytemcilmefknbbaa
