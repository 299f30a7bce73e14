/- cmp.Compare and cmp.Or at ints. No conditions. -/
import Derived.Test.YtibdggbejogciaaGreatMe
namespace Go.Proofs.YtibdggbejogciaaGreat
open Go.RowKit

/-- -1, 0 or 1 -/
def cmpI (x y : Int) : Int := if x < y then -1 else if y < x then 1 else 0
set_option maxRecDepth 20000 in
theorem nan64 (x : Int) (w : World) : Calls Tryz.prog 107 #[.int .i64 x] w fun e w' => e = .returned (.bool false) ∧ w' = w := by
  have hz : (x != x) = false := by simp
  go_enter Tryz.func107, Tryz.ntmps107
  go_wp2_with fail
  go_ret
  exact ⟨rfl, rfl⟩
set_option maxRecDepth 20000 in
theorem nanI (x : Int) (w : World) : Calls Tryz.prog 105 #[.int .i64 x] w fun e w' => e = .returned (.bool false) ∧ w' = w := by
  have hz : (x != x) = false := by simp
  go_enter Tryz.func105, Tryz.ntmps105
  go_wp2_with fail
  go_ret
  exact ⟨rfl, rfl⟩
set_option maxRecDepth 20000 in
set_option maxHeartbeats 1000000 in
theorem cmp64_any (x y : Int) (w : World) : Calls Tryz.prog 95 #[.int .i64 x, .int .i64 y] w fun e w' => e = .returned (.int .i64 (cmpI x y)) ∧ w' = w := by
  have H1 := Lib.hid (nan64 x w)
  have H2 := Lib.hid (nan64 y w)
  rcases Int.lt_trichotomy x y with h | h | h
  · have hc := Lib.hid (show cmpI x y = -1 from if_pos h)
    have k1 : decide (x < y) = true := decide_eq_true h
    clear h
    go_enter Tryz.func95, Tryz.ntmps95
    go_wp2_with fail
    refine H1.out.mono ?_
    rintro e w' ⟨rfl, rfl⟩
    go_wp2_with fail
    refine H2.out.mono ?_
    rintro e w' ⟨rfl, rfl⟩
    go_wp2_with fail
    go_ret
    exact ⟨by rw [hc.out]; rfl, rfl⟩
  · have hc := Lib.hid (show cmpI x y = 0 by unfold cmpI; rw [if_neg (by omega), if_neg (by omega)])
    have k1 : decide (x < y) = false := decide_eq_false (by omega)
    have k2 : decide (x > y) = false := decide_eq_false (by omega)
    clear h
    go_enter Tryz.func95, Tryz.ntmps95
    go_wp2_with fail
    refine H1.out.mono ?_
    rintro e w' ⟨rfl, rfl⟩
    go_wp2_with fail
    refine H2.out.mono ?_
    rintro e w' ⟨rfl, rfl⟩
    go_wp2_with fail
    go_ret
    exact ⟨by rw [hc.out]; rfl, rfl⟩
  · have hc := Lib.hid (show cmpI x y = 1 by unfold cmpI; rw [if_neg (by omega), if_pos h])
    have k1 : decide (x < y) = false := decide_eq_false (by omega)
    have k2 : decide (x > y) = true := decide_eq_true (by omega)
    clear h
    go_enter Tryz.func95, Tryz.ntmps95
    go_wp2_with fail
    refine H1.out.mono ?_
    rintro e w' ⟨rfl, rfl⟩
    go_wp2_with fail
    refine H2.out.mono ?_
    rintro e w' ⟨rfl, rfl⟩
    go_wp2_with fail
    go_ret
    exact ⟨by rw [hc.out]; rfl, rfl⟩
set_option maxRecDepth 20000 in
set_option maxHeartbeats 1000000 in
theorem cmpI_any (x y : Int) (w : World) : Calls Tryz.prog 96 #[.int .i64 x, .int .i64 y] w fun e w' => e = .returned (.int .i64 (cmpI x y)) ∧ w' = w := by
  have H1 := Lib.hid (nanI x w)
  have H2 := Lib.hid (nanI y w)
  rcases Int.lt_trichotomy x y with h | h | h
  · have hc := Lib.hid (show cmpI x y = -1 from if_pos h)
    have k1 : decide (x < y) = true := decide_eq_true h
    clear h
    go_enter Tryz.func96, Tryz.ntmps96
    go_wp2_with fail
    refine H1.out.mono ?_
    rintro e w' ⟨rfl, rfl⟩
    go_wp2_with fail
    refine H2.out.mono ?_
    rintro e w' ⟨rfl, rfl⟩
    go_wp2_with fail
    go_ret
    exact ⟨by rw [hc.out]; rfl, rfl⟩
  · have hc := Lib.hid (show cmpI x y = 0 by unfold cmpI; rw [if_neg (by omega), if_neg (by omega)])
    have k1 : decide (x < y) = false := decide_eq_false (by omega)
    have k2 : decide (x > y) = false := decide_eq_false (by omega)
    clear h
    go_enter Tryz.func96, Tryz.ntmps96
    go_wp2_with fail
    refine H1.out.mono ?_
    rintro e w' ⟨rfl, rfl⟩
    go_wp2_with fail
    refine H2.out.mono ?_
    rintro e w' ⟨rfl, rfl⟩
    go_wp2_with fail
    go_ret
    exact ⟨by rw [hc.out]; rfl, rfl⟩
  · have hc := Lib.hid (show cmpI x y = 1 by unfold cmpI; rw [if_neg (by omega), if_pos h])
    have k1 : decide (x < y) = false := decide_eq_false (by omega)
    have k2 : decide (x > y) = true := decide_eq_true (by omega)
    clear h
    go_enter Tryz.func96, Tryz.ntmps96
    go_wp2_with fail
    refine H1.out.mono ?_
    rintro e w' ⟨rfl, rfl⟩
    go_wp2_with fail
    refine H2.out.mono ?_
    rintro e w' ⟨rfl, rfl⟩
    go_wp2_with fail
    go_ret
    exact ⟨by rw [hc.out]; rfl, rfl⟩
set_option maxRecDepth 20000 in
set_option maxHeartbeats 1000000 in
theorem or_any (g : Nat) (x y r : Int) (w : World) (hr : (if x = 0 then y else x) = r) (h0 : w.cell? ⟨g, 0, none⟩ = some (.int .i64 x)) (h1 : w.cell? ⟨g, 1, none⟩ = some (.int .i64 y)) :
    Calls Tryz.prog 94 #[.slice (some ⟨g, 0, none⟩) 2 2] w fun e w' => e = .returned (.int .i64 r) ∧ w' = w := by
  have HR := Lib.hid hr
  clear hr
  go_enter Tryz.func94, Tryz.ntmps94
  go_wp2_with fail
  go_loopw [8] (fun i wr => ∃ k : Nat, k ≤ 2 ∧ i = .int .i64 (k : Nat) ∧ Hid (1 ≤ k → x = 0) ∧ Hid (2 ≤ k → y = 0) ∧ Hid (wr = w)) (fun i _ => 2 - (intOf i).toNat)
  case atStart => exact ⟨0, by omega, rfl, Lib.hid (fun h => by omega), Lib.hid (fun h => by omega), Lib.hid rfl⟩
  case round =>
    obtain ⟨k, hk, rfl, hx, hy, hw⟩ := hrel
    obtain rfl := hw.out
    have : k = 0 ∨ k = 1 ∨ k = 2 := by omega
    rcases this with rfl | rfl | rfl
    · by_cases hz : x = 0
      · have hb : (x != 0) = false := by simpa using hz
        have HZ := Lib.hid hz
        clear hz
        go_wp2_with fail
        go_roundw
        case rel => exact ⟨1, by omega, rfl, Lib.hid (fun _ => HZ.out), Lib.hid (fun h => by omega), Lib.hid trivial⟩
        case measure => simp [intOf]
      · have hb : (x != 0) = true := by simpa using hz
        have HZ := Lib.hid hz
        clear hz
        go_wp2_with fail
        go_ret
        exact ⟨by rw [← HR.out, if_neg HZ.out]; rfl, rfl⟩
    · have HX := Lib.hid (hx.out (by omega))
      by_cases hz : y = 0
      · have hb : (y != 0) = false := by simpa using hz
        have HZ := Lib.hid hz
        clear hz
        go_wp2_with fail
        go_roundw
        case rel => exact ⟨2, by omega, rfl, Lib.hid (fun _ => HX.out), Lib.hid (fun _ => HZ.out), Lib.hid trivial⟩
        case measure => simp [intOf]
      · have hb : (y != 0) = true := by simpa using hz
        clear hz
        go_wp2_with fail
        go_ret
        exact ⟨by rw [← HR.out, if_pos HX.out]; rfl, rfl⟩
    · have HX := Lib.hid (hx.out (by omega))
      have HY := Lib.hid (hy.out (by omega))
      go_wp2_with fail
      go_ret
      exact ⟨by rw [← HR.out, if_pos HX.out, HY.out]; rfl, rfl⟩
end Go.Proofs.YtibdggbejogciaaGreat
