/- The walk of the law TriadNil. No conditions. -/
import Derived.Test.YtjdpkjjlcbgnbaaWorks
import Derived.Test.YtjdpkjjlcbgnbaaList
namespace Go.Proofs.Ytjdpkjjlcbgnbaa
open Go.RowKit Go.Shelf

theorem frac_neq (a b c d : Int) (w : World) : (binOp .neq 35 (.agg #[.int .i64 a, .int .i64 b]) (.agg #[.int .i64 c, .int .i64 d])).run Try.prog w = .ok (.bool (!(decide (a = c) && decide (b = d)))) w := by
  have u2 := Try.underlying2
  have a2 := Try.isAgg2
  have z2 := Try.sizeOf2
  have hS : Try.prog.underlying 35 = some (.struct (Try.prog.fieldsOf 35)) := by kernel_rfl
  have hp : Try.prog.stoodInHeld 35 = false := by kernel_rfl
  rw [run_neq_struct, show (10000 : Nat) = 9999 + 1 from rfl, run_equalIn_agg w 9999 35 _ _ hS hp]
  simp only [Program.fieldsOf, Try.underlying35]
  go_simp
  by_cases h1 : a = c <;> by_cases h2 : b = d <;> simp [h1, h2]
/-- what a row that a call owns looks like -/
theorem own_len {w : World} {base n size : Nat} {e : TypeId} {v : Value} {xs : List Value} (h : w.ownsRow base e size v n xs) : ∃ a cap, v = .slice a n cap := by
  rcases h.2 with ⟨rfl, rfl⟩ | ⟨g, cap, cur, rfl, _⟩
  · exact ⟨_, _, rfl⟩
  · exact ⟨_, _, rfl⟩
theorem lcN_none (u : Int) : lcN none u = 0 := by
  have : gHas none u = false := gHas_no (show ¬ (0 ≤ u ∧ u < ((0 : Nat) : Int)) by omega)
  rw [lcN, this]; rfl
theorem lcD_none (u : Int) : lcD none u = 0 := by
  have : gHas none u = false := gHas_no (show ¬ (0 ≤ u ∧ u < ((0 : Nat) : Int)) by omega)
  rw [lcD, this]; rfl

set_option maxRecDepth 100000 in
set_option maxHeartbeats 2000000 in
theorem nil_walk (u v : Int) (w : World) : Calls Try.prog 11 #[.int .i64 u, .int .i64 v] w fun e w' => e = .returned (.bool true) ∧ Below w.heap.size w w' := by
  have hb0 : Below w.heap.size w ((w.alloc (.cells #[.pointer none, .slice none 0 0, .slice none 0 0, .slice none 0 0] 60)).alloc (.cells #[.pointer none, .pointer (some ⟨w.heap.size, 0, none⟩)] 25)) := ((Below.refl _ w).alloc (Nat.le_refl _) _).alloc (by simp) _
  have z0 : ((w.alloc (.cells #[.pointer none, .slice none 0 0, .slice none 0 0, .slice none 0 0] 60)).alloc (.cells #[.pointer none, .pointer (some ⟨w.heap.size, 0, none⟩)] 25)).cell? ⟨w.heap.size, 0, none⟩ = some (.pointer none) := by go_simp
  have p0 : ((w.alloc (.cells #[.pointer none, .slice none 0 0, .slice none 0 0, .slice none 0 0] 60)).alloc (.cells #[.pointer none, .pointer (some ⟨w.heap.size, 0, none⟩)] 25)).cell? ⟨w.heap.size + 1, 0, none⟩ = some (.pointer none) := by go_simp
  have p1 : ((w.alloc (.cells #[.pointer none, .slice none 0 0, .slice none 0 0, .slice none 0 0] 60)).alloc (.cells #[.pointer none, .pointer (some ⟨w.heap.size, 0, none⟩)] 25)).cell? ⟨w.heap.size + 1, 1, none⟩ = some (.pointer (some ⟨w.heap.size, 0, none⟩)) := by go_simp
  have hs0 : ((w.alloc (.cells #[.pointer none, .slice none 0 0, .slice none 0 0, .slice none 0 0] 60)).alloc (.cells #[.pointer none, .pointer (some ⟨w.heap.size, 0, none⟩)] 25)).heap.size = w.heap.size + 2 := by simp
  have q1 : ∀ w, (binOp .neq 35 (.agg #[.int .i64 0, .int .i64 0]) (.agg #[.int .i64 0, .int .i64 0])).run Try.prog w = .ok (.bool false) w := fun w => by simpa using frac_neq 0 0 0 0 w
  go_enter Try.func11, Try.ntmps11
  go_wp2_with fail
  generalize ((w.alloc (.cells #[.pointer none, .slice none 0 0, .slice none 0 0, .slice none 0 0] 60)).alloc (.cells #[.pointer none, .pointer (some ⟨w.heap.size, 0, none⟩)] 25)) = W0 at *
  go_loopw [7] (fun i wr => ∃ k : Nat, k ≤ 2 ∧ i = .int .i64 k ∧ Below W0.heap.size W0 wr) (fun i _ => 2 - (intOf i).toNat)
  case atStart => exact ⟨0, Nat.zero_le _, rfl, Below.refl _ _⟩
  case round =>
    obtain ⟨k, hk, rfl, bel⟩ := hrel
    have hsr := bel.size
    by_cases hlt : k < 2
    · obtain ⟨p, cp, hG⟩ : ∃ p, wr.cell? ⟨w.heap.size + 1, k, none⟩ = some (.pointer p) ∧ GV wr (w.heap.size + 1) (.pointer p) none := by
        rcases (show k = 0 ∨ k = 1 by omega) with rfl | rfl
        · exact ⟨none, (bel.cell (by show w.heap.size + 1 < _; omega)).trans p0, .inl rfl⟩
        · exact ⟨_, (bel.cell (by show w.heap.size + 1 < _; omega)).trans p1, .inr ⟨w.heap.size, rfl, by omega, (bel.cell (by show w.heap.size < _; omega)).trans z0⟩⟩
      have hki : (0 : Int) ≤ k ∧ (k : Int) < 2 := by omega
      go_wp2_with fail
      clear cp
      refine (local_any (w.heap.size + 1) p none u wr hG (by omega)).mono ?_
      rintro e w2 ⟨rfl, hb2⟩
      rw [lcN_none, lcD_none, show lcE none u = 1 from rfl]
      have T2 := Two.new w2 0 0 35
      have hb3 : Below wr.heap.size wr (w2.alloc (.cells #[.int .i64 0, .int .i64 0] 35)) := hb2.alloc hb2.size _
      have hs2 := hb2.size
      have hs3 : (w2.alloc (.cells #[.int .i64 0, .int .i64 0] 35)).heap.size = w2.heap.size + 1 := by simp
      go_wp2_with fail
      clear hb2
      generalize w2.alloc (.cells #[.int .i64 0, .int .i64 0] 35) = w3 at *
      refine (global_any (w.heap.size + 1) p none w3 (hG.below (hb3.mono (by omega))) (by omega)).mono ?_
      rintro e w4 ⟨rfl, hb4⟩
      rw [show glN none = 0 from rfl, show glD none = 0 from rfl, show glE none = 1 from rfl]
      have T4 := Two.new w4 0 0 35
      have hs4 := hb4.size
      have hb5 : Below w3.heap.size w3 (w4.alloc (.cells #[.int .i64 0, .int .i64 0] 35)) := hb4.alloc hb4.size _
      have hs5 : (w4.alloc (.cells #[.int .i64 0, .int .i64 0] 35)).heap.size = w4.heap.size + 1 := by simp
      have T5 := T2.below hb5 (by omega)
      go_wp2_with fail
      clear hb4 T2
      generalize w4.alloc (.cells #[.int .i64 0, .int .i64 0] 35) = w5 at *
      have bel5 := hb3.trans (hb5.mono (by omega))
      have hs6 := bel5.size
      clear hb3 hb5
      refine (count_any (w.heap.size + 1) p none w5 (hG.below (bel5.mono (by omega))) (by omega)).mono ?_
      rintro e w6 ⟨rfl, hb6⟩
      rw [show (tri none).length = 0 from rfl]
      have bel6 := bel5.trans (hb6.mono (by omega))
      have hs7 := hb6.size
      have T6 := T5.below hb6 (by omega); have T7 := T4.below hb6 (by omega)
      clear T4 T5 hb6 bel5
      go_wp2_with fail
      refine (at_count (w.heap.size + 1) p none u w6 (hG.below (bel6.mono (by omega))) (by omega)).mono ?_
      rintro e w7 ⟨rfl, hb7⟩
      rw [show (((atS none u : Nat) : Int) / 2) = 0 by rw [show atS none u = 0 from rfl]; decide]
      have bel7 := bel6.trans (hb7.mono (by omega))
      have hs8 := hb7.size
      have T8 := T6.below hb7 (by omega); have T9 := T7.below hb7 (by omega)
      clear T6 T7 hb7 bel6
      go_wp2_with fail
      refine (list_any (w.heap.size + 1) p none 9 w7 (hG.below (bel7.mono (by omega))) (by omega)).mono ?_
      rintro e w8 ⟨x, rfl, hx, hb8⟩
      obtain ⟨a, cap, rfl⟩ := own_len hx
      rw [show ((tri none).take (Int.toNat 9)).length = 0 from rfl]
      have bel8 := bel7.trans (hb8.mono (by omega))
      have hs9 := hb8.size
      have T10 := T8.below hb8 (by omega); have T11 := T9.below hb8 (by omega)
      clear T8 T9 hb8 bel7 hx
      go_wp2_with fail
      refine (common_any (w.heap.size + 1) p none u v w8 (hG.below (bel8.mono (by omega))) (by omega)).mono ?_
      rintro e w9 h9
      obtain ⟨a2, cap2, rfl, -, hb9⟩ := h9.rt
      rw [show (inter (nbr none u) (nbr none v)).length = 0 from rfl]
      have bel9 := bel8.trans (hb9.mono (by omega))
      have T12 := T10.below hb9 (by omega); have T13 := T11.below hb9 (by omega)
      have c0 := T12.c0; have c1 := T12.c1; have c2 := T13.c0; have c3 := T13.c1
      clear T10 T11 T12 T13 hb9 bel8 h9
      go_wp2_with fail
      go_roundw
      case rel => exact ⟨k + 1, by omega, by go_num, bel.trans (bel9.mono (by omega))⟩
      case measure => simp only [intOf]; omega
    · obtain rfl : k = 2 := by omega
      go_wp2_with fail
      refine (works_any wr).mono ?_
      rintro e w2 ⟨rfl, hb2⟩
      go_wp2_with fail
      go_ret
      exact ⟨rfl, hb0.trans ((bel.trans (hb2.mono (by omega))).mono (by omega))⟩
end Go.Proofs.Ytjdpkjjlcbgnbaa
