/- The walk of works of the statements about triad: the chapter's example. No conditions. -/
import Derived.Test.YtjdpkjjlcbgnbaaLocal
import Derived.Laws.StructEq
namespace Go.Proofs.Ytjdpkjjlcbgnbaa
open Go.RowKit Go.Shelf

theorem frac_eq (a b c d : Int) (w : World) : (binOp .eql 35 (.agg #[.int .i64 a, .int .i64 b]) (.agg #[.int .i64 c, .int .i64 d])).run Try.prog w = .ok (.bool (decide (a = c) && decide (b = d))) w := by
  have u2 := Try.underlying2
  have a2 := Try.isAgg2
  have z2 := Try.sizeOf2
  have hS : Try.prog.underlying 35 = some (.struct (Try.prog.fieldsOf 35)) := by kernel_rfl
  have hp : Try.prog.stoodInHeld 35 = false := by kernel_rfl
  rw [run_eql_struct, show (10000 : Nat) = 9999 + 1 from rfl, run_equalIn_agg w 9999 35 _ _ hS hp]
  simp only [Program.fieldsOf, Try.underlying35]
  go_simp
  by_cases h1 : a = c <;> by_cases h2 : b = d <;> simp [h1, h2]

/-- the edges of the chapter's example -/
def wE : List Ed := [⟨0, 1, 0⟩, ⟨1, 2, 0⟩, ⟨2, 0, 0⟩, ⟨2, 3, 0⟩, ⟨2, 0, 0⟩, ⟨3, 4, 0⟩]
theorem wE_row (w : World) : Row (w.alloc (.cells #[.int .i64 0, .int .i64 1, .int .i64 0, .int .i64 1, .int .i64 2, .int .i64 0, .int .i64 2, .int .i64 0, .int .i64 0, .int .i64 2, .int .i64 3, .int .i64 0, .int .i64 2, .int .i64 0, .int .i64 0, .int .i64 3, .int .i64 4, .int .i64 0] 45)) w.heap.size 18 (fun q => edC wE (q / 3) (q % 3)) :=
  Row.lit w _ _ (by decide) fun i hi => by
    match i, hi with
    | 0, _ => rfl
    | 1, _ => rfl
    | 2, _ => rfl
    | 3, _ => rfl
    | 4, _ => rfl
    | 5, _ => rfl
    | 6, _ => rfl
    | 7, _ => rfl
    | 8, _ => rfl
    | 9, _ => rfl
    | 10, _ => rfl
    | 11, _ => rfl
    | 12, _ => rfl
    | 13, _ => rfl
    | 14, _ => rfl
    | 15, _ => rfl
    | 16, _ => rfl
    | 17, _ => rfl
    | n + 18, h => exact absurd h (by omega)
theorem wE_es (w : World) : ES (w.alloc (.cells #[.int .i64 0, .int .i64 1, .int .i64 0, .int .i64 1, .int .i64 2, .int .i64 0, .int .i64 2, .int .i64 0, .int .i64 0, .int .i64 2, .int .i64 3, .int .i64 0, .int .i64 2, .int .i64 0, .int .i64 0, .int .i64 3, .int .i64 4, .int .i64 0] 45)) (w.heap.size + 1) (.slice (some ⟨w.heap.size, 0, none⟩) wE.length 6) wE (fun i => (⟨w.heap.size, 0, none⟩ : Addr).add (i * 3)) := by
  have h := wE_row w
  refine Rd.addr etE (fun _ => Nat.lt_succ_self _) fun i hi j hj => ?_
  have hl : wE.length = 6 := rfl
  rw [add_mk, Nat.zero_add, h.cell (by omega)]
  congr 2 <;> omega
theorem wE_ok : GOk 5 wE := by
  obtain ⟨k, h1, h2⟩ := gErr_zero (n := 5) (E := wE) (by decide +kernel)
  obtain rfl : k = 5 := by omega
  exact h2
theorem wE_vals : (tri (some (5, wE))).length = 1 ∧ lcN (some (5, wE)) 2 = 1 ∧ lcD (some (5, wE)) 2 = 3 ∧ lcE (some (5, wE)) 2 = 0 ∧ glN (some (5, wE)) = 1 ∧ glD (some (5, wE)) = 2 ∧ glE (some (5, wE)) = 0 := by
  decide +kernel

set_option maxRecDepth 100000 in
set_option maxHeartbeats 1000000 in
theorem works_any (w : World) : Calls Try.prog 13 #[] w fun e w' => e = .returned (.bool true) ∧ Below w.heap.size w w' := by
  have hE := wE_es w
  have hb1 : Below w.heap.size w (w.alloc (.cells #[.int .i64 0, .int .i64 1, .int .i64 0, .int .i64 1, .int .i64 2, .int .i64 0, .int .i64 2, .int .i64 0, .int .i64 0, .int .i64 2, .int .i64 3, .int .i64 0, .int .i64 2, .int .i64 0, .int .i64 0, .int .i64 3, .int .i64 4, .int .i64 0] 45)) := (Below.refl _ _).alloc (Nat.le_refl _) _
  have hs1 : (w.alloc (.cells #[.int .i64 0, .int .i64 1, .int .i64 0, .int .i64 1, .int .i64 2, .int .i64 0, .int .i64 2, .int .i64 0, .int .i64 0, .int .i64 2, .int .i64 3, .int .i64 0, .int .i64 2, .int .i64 0, .int .i64 0, .int .i64 3, .int .i64 4, .int .i64 0] 45)).heap.size = w.heap.size + 1 := by simp
  have HC := Lib.hid (gnew_any _ _ _ _ 5 wE _ hE (by omega) (by decide))
  clear hE
  go_enter Try.func13, Try.ntmps13
  go_wp2_with fail
  refine HC.out.mono ?_
  rintro e w1 ⟨hb2, h2⟩
  rcases h2 with ⟨h2, _⟩ | ⟨b, k, hk, hok, rfl, hG⟩
  · exact absurd (gErr_ok wE_ok) h2
  obtain rfl : k = 5 := by omega
  clear HC hk hok
  obtain ⟨v1, v2, v3, v4, v5, v6, v7⟩ := wE_vals
  have V1 := Lib.hid v1; have V2 := Lib.hid v2; have V3 := Lib.hid v3; have V4 := Lib.hid v4; have V5 := Lib.hid v5; have V6 := Lib.hid v6; have V7 := Lib.hid v7
  have hV : GV w1 w1.heap.size (.pointer (some ⟨b, 0, none⟩)) (some (5, wE)) := ⟨b, rfl, hG⟩
  have bel1 : Below w.heap.size w w1 := hb1.trans (hb2.mono (by omega))
  have q1 : ∀ w, (binOp .eql 35 (.agg #[.int .i64 1, .int .i64 3]) (.agg #[.int .i64 1, .int .i64 3])).run Try.prog w = .ok (.bool true) w := fun w => by simpa using frac_eq 1 3 1 3 w
  have q2 : ∀ w, (binOp .eql 35 (.agg #[.int .i64 1, .int .i64 2]) (.agg #[.int .i64 1, .int .i64 2])).run Try.prog w = .ok (.bool true) w := fun w => by simpa using frac_eq 1 2 1 2 w
  clear v1 v2 v3 v4 v5 v6 v7 hG hb1 hb2 hs1
  have hs1 := bel1.size
  go_wp2_with fail
  refine (local_any w1.heap.size (some ⟨b, 0, none⟩) (some (5, wE)) 2 w1 hV (Nat.le_refl _)).mono ?_
  rintro e w2 ⟨rfl, hb2⟩
  rw [V2.out, V3.out, V4.out]
  have T2 := Two.new w2 1 3 35
  have hb3 : Below w1.heap.size w1 (w2.alloc (.cells #[.int .i64 1, .int .i64 3] 35)) := hb2.alloc hb2.size _
  have hs2 := hb2.size
  have hs3 : (w2.alloc (.cells #[.int .i64 1, .int .i64 3] 35)).heap.size = w2.heap.size + 1 := by simp
  go_wp2_with fail
  clear hb2
  generalize w2.alloc (.cells #[.int .i64 1, .int .i64 3] 35) = w3 at *
  refine (global_any w1.heap.size (some ⟨b, 0, none⟩) (some (5, wE)) w3 (hV.below hb3) (by omega)).mono ?_
  rintro e w4 ⟨rfl, hb4⟩
  rw [V5.out, V6.out, V7.out]
  have T4 := Two.new w4 1 2 35
  have hs4 := hb4.size
  have hb5 : Below w3.heap.size w3 (w4.alloc (.cells #[.int .i64 1, .int .i64 2] 35)) := hb4.alloc hb4.size _
  have hs5 : (w4.alloc (.cells #[.int .i64 1, .int .i64 2] 35)).heap.size = w4.heap.size + 1 := by simp
  have T5 := T2.below hb5 (by omega)
  go_wp2_with fail
  clear hb4 T2
  generalize w4.alloc (.cells #[.int .i64 1, .int .i64 2] 35) = w5 at *
  have bel5 := hb3.trans (hb5.mono (by omega))
  refine (count_any w1.heap.size (some ⟨b, 0, none⟩) (some (5, wE)) w5 (hV.below bel5) (by omega)).mono ?_
  rintro e w6 ⟨rfl, hb6⟩
  rw [V1.out]
  have T6 := T5.below hb6 (by omega)
  have T7 := T4.below hb6 (by omega)
  have c0 := T6.c0; have c1 := T6.c1; have c2 := T7.c0; have c3 := T7.c1
  have bel6 := bel1.trans ((bel5.trans (hb6.mono (by omega))).mono (by omega))
  clear T4 T5 T6 T7 hb3 hb5 hb6 bel5 hV bel1
  go_wp2_with fail
  go_ret
  exact ⟨rfl, bel6⟩
end Go.Proofs.Ytjdpkjjlcbgnbaa
