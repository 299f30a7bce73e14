/- The walk of the law ModularNil. Conditions: labels are given as cells, and are numbers of Go's int; the label is a number of Go's int. -/
import Derived.Test.YtemcilmefknbbaaModWk
namespace Go.Proofs.Ytemcilmefknbbaa
open Go.RowKit Go.Shelf Go.Maps Go.Sort

theorem frac_neq (a b c d : Int) (w : World) : (binOp .neq 33 (.agg #[.int .i64 a, .int .i64 b]) (.agg #[.int .i64 c, .int .i64 d])).run Try.prog w = .ok (.bool (!(decide (a = c) && decide (b = d)))) w := by
  have u2 := Try.underlying2
  have a2 := Try.isAgg2
  have z2 := Try.sizeOf2
  have hS : Try.prog.underlying 33 = some (.struct (Try.prog.fieldsOf 33)) := by kernel_rfl
  have hp : Try.prog.stoodInHeld 33 = false := by kernel_rfl
  rw [run_neq_struct, show (10000 : Nat) = 9999 + 1 from rfl, run_equalIn_agg w 9999 33 _ _ hS hp]
  simp only [Program.fieldsOf, Try.underlying33]
  go_simp
  by_cases h1 : a = c <;> by_cases h2 : b = d <;> simp [h1, h2]
set_option maxHeartbeats 400000 in
theorem spread_bad (B : Nat) (gv : Value) (o : Option (Nat × List Ed)) (la : Option Addr) (k lc : Nat) (r : Int) (w : World) (h : GV w B gv o) (hz : mErr o k ≠ 0) :
    Calls Try.prog 27 #[gv, .slice la k lc, .int .i64 r] w fun e w' => e = .returned (.tuple #[.slice none 0 0, .int .i64 (mErr o k)]) ∧ w = w' := by
  have HV := Lib.hid (mvalid_any B gv o la k lc w h)
  have hb : (mErr o k != 0) = true := by simpa using hz
  obtain ⟨p, rfl⟩ := h.ptr
  generalize mErr o k = ee at *
  clear h hz
  go_enter Try.func27, Try.ntmps27
  go_wp2_with fail
  refine HV.out.mono ?_
  rintro e w' ⟨rfl, rfl⟩
  go_wp2_with fail
  go_ret2
  exact ⟨rfl, rfl⟩

set_option maxRecDepth 100000 in
set_option maxHeartbeats 2000000 in
theorem nil_walk (la : Option Addr) (lc : Nat) (LA : Nat → Addr) (L : List Int) (v t r : Int) (w : World) (hL : Sl 23 .i64 w w.heap.size (.slice la L.length lc) L LA) (hW : LWf L) (ht : (Lit.int .i64 t).wf = true) :
    Calls Try.prog 12 #[.slice la L.length lc, .int .i64 v, .int .i64 t, .int .i64 r] w fun e w' => e = .returned (.bool true) ∧ Below w.heap.size w w' := by
  have hb0 : Below w.heap.size w ((w.alloc (.cells #[.pointer none, .slice none 0 0, .slice none 0 0, .slice none 0 0] 61)).alloc (.cells #[.pointer none, .pointer (some ⟨w.heap.size, 0, none⟩)] 28)) := ((Below.refl _ w).alloc (Nat.le_refl _) _).alloc (by simp) _
  have z0 : ((w.alloc (.cells #[.pointer none, .slice none 0 0, .slice none 0 0, .slice none 0 0] 61)).alloc (.cells #[.pointer none, .pointer (some ⟨w.heap.size, 0, none⟩)] 28)).cell? ⟨w.heap.size, 0, none⟩ = some (.pointer none) := by go_simp
  have p0 : ((w.alloc (.cells #[.pointer none, .slice none 0 0, .slice none 0 0, .slice none 0 0] 61)).alloc (.cells #[.pointer none, .pointer (some ⟨w.heap.size, 0, none⟩)] 28)).cell? ⟨w.heap.size + 1, 0, none⟩ = some (.pointer none) := by go_simp
  have p1 : ((w.alloc (.cells #[.pointer none, .slice none 0 0, .slice none 0 0, .slice none 0 0] 61)).alloc (.cells #[.pointer none, .pointer (some ⟨w.heap.size, 0, none⟩)] 28)).cell? ⟨w.heap.size + 1, 1, none⟩ = some (.pointer (some ⟨w.heap.size, 0, none⟩)) := by go_simp
  have hs0 : ((w.alloc (.cells #[.pointer none, .slice none 0 0, .slice none 0 0, .slice none 0 0] 61)).alloc (.cells #[.pointer none, .pointer (some ⟨w.heap.size, 0, none⟩)] 28)).heap.size = w.heap.size + 2 := by simp
  have q1 : ∀ w, (binOp .neq 33 (.agg #[.int .i64 0, .int .i64 0]) (.agg #[.int .i64 0, .int .i64 0])).run Try.prog w = .ok (.bool false) w := fun w => by simpa using frac_neq 0 0 0 0 w
  have HL := Lib.hid ((hL.below hb0).mono (show w.heap.size ≤ w.heap.size + 1 by omega))
  have HW := Lib.hid hW
  have hz : mErr none L.length = 1 := rfl
  have HZ := Lib.hid hz
  have x1 : qlN none L = 0 := rfl
  have x2 : qlD none L = 0 := rfl
  have x3 : gaN none L v t = 0 := rfl
  have x4 : gaD none L v t = 0 := rfl
  have x5 : gaE none L v = 1 := rfl
  have x6 : insN none L = 0 := rfl
  have X1 := Lib.hid x1; have X2 := Lib.hid x2; have X3 := Lib.hid x3; have X4 := Lib.hid x4; have X5 := Lib.hid x5; have X6 := Lib.hid x6
  clear hL hW hz x1 x2 x3 x4 x5 x6
  go_enter Try.func12, Try.ntmps12
  go_wp2_with fail
  generalize ((w.alloc (.cells #[.pointer none, .slice none 0 0, .slice none 0 0, .slice none 0 0] 61)).alloc (.cells #[.pointer none, .pointer (some ⟨w.heap.size, 0, none⟩)] 28)) = W0 at *
  go_loopw [11] (fun i wr => ∃ k : Nat, k ≤ 2 ∧ i = .int .i64 k ∧ Below W0.heap.size W0 wr) (fun i _ => 2 - (intOf i).toNat)
  case atStart => exact ⟨0, Nat.zero_le _, rfl, Below.refl _ _⟩
  case round =>
    obtain ⟨k, hk, rfl, bel⟩ := hrel
    have hsr := bel.size
    by_cases hlt : k < 2
    · obtain ⟨p, cp, hG⟩ : ∃ p, wr.cell? ⟨w.heap.size + 1, k, none⟩ = some (.pointer p) ∧ GV wr (w.heap.size + 1) (.pointer p) none := by
        rcases (show k = 0 ∨ k = 1 by omega) with rfl | rfl
        · exact ⟨none, (bel.cell (by show w.heap.size + 1 < _; omega)).trans p0, .inl rfl⟩
        · exact ⟨_, (bel.cell (by show w.heap.size + 1 < _; omega)).trans p1, .inr ⟨w.heap.size, rfl, by omega, (bel.cell (by show w.heap.size < _; omega)).trans z0⟩⟩
      have hki : (0 : Int) ≤ k ∧ (k : Int) < 2 := by omega
      have HG := Lib.hid (fun W (hb : Below wr.heap.size wr W) => hG.below (hb.mono (by omega)))
      have HLr := Lib.hid (fun W (hb : Below wr.heap.size wr W) => (HL.out.below (bel.mono (by omega))).below (hb.mono (by omega)))
      clear hG
      go_wp2_with fail
      clear cp
      refine (quality_any (w.heap.size + 1) (.pointer p) none la lc LA L wr (HG.out _ (Below.refl _ _)) (HLr.out _ (Below.refl _ _)) (by omega) HW.out).mono ?_
      rintro e w2 ⟨rfl, hb2⟩
      rw [X1.out, X2.out, HZ.out]
      have T2 := Two.new w2 0 0 33
      have hb3 : Below wr.heap.size wr (w2.alloc (.cells #[.int .i64 0, .int .i64 0] 33)) := hb2.alloc hb2.size _
      have hs2 := hb2.size
      have hs3 : (w2.alloc (.cells #[.int .i64 0, .int .i64 0] 33)).heap.size = w2.heap.size + 1 := by simp
      go_wp2_with fail
      clear hb2
      generalize w2.alloc (.cells #[.int .i64 0, .int .i64 0] 33) = w3 at *
      refine (gain_any (w.heap.size + 1) (.pointer p) none la lc LA L v t w3 (HG.out _ hb3) (HLr.out _ hb3) (by omega) HW.out ht).mono ?_
      rintro e w4 ⟨rfl, hb4⟩
      rw [X3.out, X4.out, X5.out]
      have T4 := Two.new w4 0 0 33
      have hs4 := hb4.size
      have hb5 : Below w3.heap.size w3 (w4.alloc (.cells #[.int .i64 0, .int .i64 0] 33)) := hb4.alloc hb4.size _
      have hs5 : (w4.alloc (.cells #[.int .i64 0, .int .i64 0] 33)).heap.size = w4.heap.size + 1 := by simp
      have T5 := T2.below hb5 (by omega)
      go_wp2_with fail
      clear hb4 T2
      generalize w4.alloc (.cells #[.int .i64 0, .int .i64 0] 33) = w5 at *
      have bel5 := stepB0 hb3 hb5
      have hs6 := bel5.size
      clear hb3 hb5
      refine (greedy_any (w.heap.size + 1) (.pointer p) none la lc LA L w5 (HG.out _ bel5) (HLr.out _ bel5) (by omega) HW.out).mono ?_
      rintro e w6 ⟨hb6, hres⟩
      rcases hres with ⟨-, rfl⟩ | ⟨hz0, _⟩
      case inr => rw [HZ.out] at hz0; exact absurd hz0 (by decide)
      rw [HZ.out]
      have bel6 := stepB0 bel5 hb6
      have hs7 := hb6.size
      have T6 := T5.below hb6 (by omega); have T7 := T4.below hb6 (by omega)
      clear T4 T5 hb6 bel5
      go_wp2_with fail
      refine (spread_bad (w.heap.size + 1) (.pointer p) none la L.length lc r w6 (HG.out _ bel6) (by rw [HZ.out]; decide)).mono ?_
      rintro e w7 ⟨rfl, rfl⟩
      rw [HZ.out]
      go_wp2_with fail
      refine (inside_any (w.heap.size + 1) (.pointer p) none la lc LA L w6 (HG.out _ bel6) (HLr.out _ bel6) (by have := bel6.size; omega)).mono ?_
      rintro e w8 ⟨rfl, hb8⟩
      rw [X6.out, HZ.out]
      have bel8 := stepB0 bel6 hb8
      have T8 := T6.below hb8 (by omega); have T9 := T7.below hb8 (by omega)
      have c0 := T8.c0; have c1 := T8.c1; have c2 := T9.c0; have c3 := T9.c1
      clear T6 T7 T8 T9 hb8 bel6
      go_wp2_with fail
      go_roundw
      case rel => exact ⟨k + 1, by omega, by go_num, stepB0 bel bel8⟩
      case measure => simp only [intOf]; omega
    · obtain rfl : k = 2 := by omega
      go_wp2_with fail
      refine (works_any wr).mono ?_
      rintro e w2 ⟨rfl, hb2⟩
      go_wp2_with fail
      go_ret
      exact ⟨rfl, hb0.trans ((stepB0 bel hb2).mono (by omega))⟩
end Go.Proofs.Ytemcilmefknbbaa
