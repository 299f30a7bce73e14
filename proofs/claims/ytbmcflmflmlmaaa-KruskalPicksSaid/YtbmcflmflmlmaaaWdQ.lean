/- The walks of Negate, Zero, Sign, Order and Int of the document's package of numbers. Conditions: six digits are enough. -/
import Derived.Test.YtbmcflmflmlmaaaWdP
namespace Go.Proofs.Ytbmcflmflmlmaaa
open Go.RowKit

set_option maxRecDepth 100000 in
set_option maxHeartbeats 2000000 in
theorem rneg_any (s : Bool) (U : Nat) (w : World) :
    Calls Try.prog 78 #[.agg (wdC s U)] w fun e w' => e = .returned (.agg (wdC (!s) U)) ∧ Below w.heap.size w w' := by
  have hU := wd_row w s U 83
  obtain ⟨uu, huu⟩ : ∃ x, wdC s U = x := ⟨_, rfl⟩
  rw [huu] at hU ⊢
  have hZ := wz_row (w.alloc (.cells uu 83))
  simp only [World.size_alloc] at hZ
  have HU := Lib.hid (show Row ((w.alloc (.cells uu 83)).alloc (.cells #[.bool false, .int .u64 0, .int .u64 0, .int .u64 0, .int .u64 0, .int .u64 0, .int .u64 0] 83)) w.heap.size 7 (wdAt s U) from hU.alloc _)
  have HZ := Lib.hid hZ
  have HBq := Lib.hid (show Below w.heap.size w ((w.alloc (.cells uu 83)).alloc (.cells #[.bool false, .int .u64 0, .int .u64 0, .int .u64 0, .int .u64 0, .int .u64 0, .int .u64 0] 83)) from ((Below.refl _ w).alloc (Nat.le_refl _) _).alloc (by simp) _)
  clear hU hZ huu
  go_enter Try.func78, Try.ntmps78
  go_upto_region 1 with (fail)
  generalize ((w.alloc (.cells uu 83)).alloc (.cells #[.bool false, .int .u64 0, .int .u64 0, .int .u64 0, .int .u64 0, .int .u64 0, .int .u64 0] 83)) = wq at *
  have u0 := HU.out.cell (i := 0) (by omega)
  have u1 := HU.out.cell (i := 1) (by omega)
  have u2 := HU.out.cell (i := 2) (by omega)
  have u3 := HU.out.cell (i := 3) (by omega)
  have u4 := HU.out.cell (i := 4) (by omega)
  have u5 := HU.out.cell (i := 5) (by omega)
  have u6 := HU.out.cell (i := 6) (by omega)
  have z0 := HZ.out.cell (i := 0) (by omega)
  have z1 := HZ.out.cell (i := 1) (by omega)
  have z2 := HZ.out.cell (i := 2) (by omega)
  have z3 := HZ.out.cell (i := 3) (by omega)
  have z4 := HZ.out.cell (i := 4) (by omega)
  have z5 := HZ.out.cell (i := 5) (by omega)
  have z6 := HZ.out.cell (i := 6) (by omega)
  have fz := fun i => HZ.out.frozen i
  have HR := Lib.hid (show Row (((((((wq.setCell ⟨w.heap.size + 1, 0, none⟩ (.bool (!s))).setCell ⟨w.heap.size + 1, 1, none⟩ (.int .u64 (dg U 0 : Nat))).setCell ⟨w.heap.size + 1, 2, none⟩ (.int .u64 (dg U 1 : Nat))).setCell ⟨w.heap.size + 1, 3, none⟩ (.int .u64 (dg U 2 : Nat))).setCell ⟨w.heap.size + 1, 4, none⟩ (.int .u64 (dg U 3 : Nat))).setCell ⟨w.heap.size + 1, 5, none⟩ (.int .u64 (dg U 4 : Nat))).setCell ⟨w.heap.size + 1, 6, none⟩ (.int .u64 (dg U 5 : Nat))) (w.heap.size + 1) 7 (wdAt (!s) U) from Row.congr (((((((HZ.out.set 0 (.bool (!s))).set 1 (.int .u64 (dg U 0 : Nat))).set 2 (.int .u64 (dg U 1 : Nat))).set 3 (.int .u64 (dg U 2 : Nat))).set 4 (.int .u64 (dg U 3 : Nat))).set 5 (.int .u64 (dg U 4 : Nat))).set 6 (.int .u64 (dg U 5 : Nat))) (fun i hi => by
    match i, hi with
    | 0, _ => rfl
    | 1, _ => rfl
    | 2, _ => rfl
    | 3, _ => rfl
    | 4, _ => rfl
    | 5, _ => rfl
    | 6, _ => rfl
    | n + 7, h => omega))
  have HB6 := Lib.hid (show Below w.heap.size w (((((((wq.setCell ⟨w.heap.size + 1, 0, none⟩ (.bool (!s))).setCell ⟨w.heap.size + 1, 1, none⟩ (.int .u64 (dg U 0 : Nat))).setCell ⟨w.heap.size + 1, 2, none⟩ (.int .u64 (dg U 1 : Nat))).setCell ⟨w.heap.size + 1, 3, none⟩ (.int .u64 (dg U 2 : Nat))).setCell ⟨w.heap.size + 1, 4, none⟩ (.int .u64 (dg U 3 : Nat))).setCell ⟨w.heap.size + 1, 5, none⟩ (.int .u64 (dg U 4 : Nat))).setCell ⟨w.heap.size + 1, 6, none⟩ (.int .u64 (dg U 5 : Nat))) from (((((((HBq.out.setCell (p := ⟨w.heap.size + 1, 0, none⟩) (by show w.heap.size ≤ w.heap.size + 1; omega) _).setCell (p := ⟨w.heap.size + 1, 1, none⟩) (by show w.heap.size ≤ w.heap.size + 1; omega) _).setCell (p := ⟨w.heap.size + 1, 2, none⟩) (by show w.heap.size ≤ w.heap.size + 1; omega) _).setCell (p := ⟨w.heap.size + 1, 3, none⟩) (by show w.heap.size ≤ w.heap.size + 1; omega) _).setCell (p := ⟨w.heap.size + 1, 4, none⟩) (by show w.heap.size ≤ w.heap.size + 1; omega) _).setCell (p := ⟨w.heap.size + 1, 5, none⟩) (by show w.heap.size ≤ w.heap.size + 1; omega) _).setCell (p := ⟨w.heap.size + 1, 6, none⟩) (by show w.heap.size ≤ w.heap.size + 1; omega) _))
  unfold wdAt at u0 u1 u2 u3 u4 u5 u6 z0 z1 z2 z3 z4 z5 z6
  go_wp2_with fail
  generalize (((((((wq.setCell ⟨w.heap.size + 1, 0, none⟩ (.bool (!s))).setCell ⟨w.heap.size + 1, 1, none⟩ (.int .u64 (dg U 0 : Nat))).setCell ⟨w.heap.size + 1, 2, none⟩ (.int .u64 (dg U 1 : Nat))).setCell ⟨w.heap.size + 1, 3, none⟩ (.int .u64 (dg U 2 : Nat))).setCell ⟨w.heap.size + 1, 4, none⟩ (.int .u64 (dg U 3 : Nat))).setCell ⟨w.heap.size + 1, 5, none⟩ (.int .u64 (dg U 4 : Nat))).setCell ⟨w.heap.size + 1, 6, none⟩ (.int .u64 (dg U 5 : Nat))) = wz at *
  have s0 := HR.out.cell (i := 0) (by omega)
  have s1 := HR.out.cell (i := 1) (by omega)
  have s2 := HR.out.cell (i := 2) (by omega)
  have s3 := HR.out.cell (i := 3) (by omega)
  have s4 := HR.out.cell (i := 4) (by omega)
  have s5 := HR.out.cell (i := 5) (by omega)
  have s6 := HR.out.cell (i := 6) (by omega)
  unfold wdAt at s0 s1 s2 s3 s4 s5 s6
  exact bodyPost_ret (v := .agg (wdC (!s) U)) (by simp [results, Try.results78, go_sem, s0, s1, s2, s3, s4, s5, s6, wdC]) rfl ⟨rfl, HB6.out⟩
theorem arr_eq (a b c d e f : Nat) (w : World) : (binOp .eql 81 (.agg #[.int .u64 (a : Nat), .int .u64 (b : Nat), .int .u64 (c : Nat), .int .u64 (d : Nat), .int .u64 (e : Nat), .int .u64 (f : Nat)]) (.agg #[.int .u64 0, .int .u64 0, .int .u64 0, .int .u64 0, .int .u64 0, .int .u64 0])).run Try.prog w = .ok (.bool (decide (a = 0 ∧ b = 0 ∧ c = 0 ∧ d = 0 ∧ e = 0 ∧ f = 0))) w := by
  have u2 := Try.underlying80
  have a2 := Try.isAgg80
  have z2 := Try.sizeOf80
  obtain ⟨i, hi⟩ := Option.isSome_iff_exists.1 (show (Try.prog.info? 80).isSome = true by kernel_rfl)
  rw [run_eql_struct, show (10000 : Nat) = 9999 + 1 from rfl, run_equalIn_array w 9999 _ _ Try.underlying81 hi]
  have hc : Try.prog.cellsOf 80 = 1 := by kernel_rfl
  rw [hc, show List.range 6 = [0, 1, 2, 3, 4, 5] from rfl]
  simp only [Op.eqItems]
  go_simp
  by_cases h1 : a = 0 <;> by_cases h2 : b = 0 <;> by_cases h3 : c = 0 <;> by_cases h4 : d = 0 <;> by_cases h5 : e = 0 <;> by_cases h6 : f = 0 <;> simp [h1, h2, h3, h4, h5, h6]
theorem fit_zero {U : Nat} (h : Fit U) : (dg U 0 = 0 ∧ dg U 1 = 0 ∧ dg U 2 = 0 ∧ dg U 3 = 0 ∧ dg U 4 = 0 ∧ dg U 5 = 0) ↔ U = 0 := by
  have h0 := up_split U 0; have h1 := up_split U 1; have h2 := up_split U 2; have h3 := up_split U 3; have h4 := up_split U 4; have h5 := up_split U 5
  have h6 : up U (5 + 1) = 0 := h
  have e0 : up U 0 = U := rfl
  simp only [Nat.zero_add, Nat.reduceAdd] at *
  omega
set_option maxRecDepth 100000 in
set_option maxHeartbeats 2000000 in
theorem rzero_any (s : Bool) (U : Nat) (w : World) (hF : Fit U) :
    Calls Try.prog 94 #[.agg (wdC s U)] w fun e w' => e = .returned (.bool (decide (U = 0))) ∧ Below w.heap.size w w' := by
  have hU := wd_row w s U 83
  obtain ⟨uu, huu⟩ : ∃ x, wdC s U = x := ⟨_, rfl⟩
  rw [huu] at hU ⊢
  have HU := Lib.hid (show Row ((w.alloc (.cells uu 83)).alloc (.cells #[.int .u64 0, .int .u64 0, .int .u64 0, .int .u64 0, .int .u64 0, .int .u64 0] 81)) w.heap.size 7 (wdAt s U) from hU.alloc _)
  have hZ := zero_row (w.alloc (.cells uu 83)) 81
  simp only [World.size_alloc] at hZ
  have HZ := Lib.hid hZ
  have HBq := Lib.hid (show Below w.heap.size w ((w.alloc (.cells uu 83)).alloc (.cells #[.int .u64 0, .int .u64 0, .int .u64 0, .int .u64 0, .int .u64 0, .int .u64 0] 81)) from ((Below.refl _ w).alloc (Nat.le_refl _) _).alloc (by simp) _)
  have HE := Lib.hid (show decide (dg U 0 = 0 ∧ dg U 1 = 0 ∧ dg U 2 = 0 ∧ dg U 3 = 0 ∧ dg U 4 = 0 ∧ dg U 5 = 0) = decide (U = 0) from decide_eq_decide.2 (fit_zero hF))
  clear hU hZ huu hF
  go_enter Try.func94, Try.ntmps94
  go_upto_region 2 with (fail)
  generalize (w.alloc (.cells uu 83)).alloc (.cells #[.int .u64 0, .int .u64 0, .int .u64 0, .int .u64 0, .int .u64 0, .int .u64 0] 81) = wq at *
  have u0 := HU.out.cell (i := 0) (by omega)
  have u1 := HU.out.cell (i := 1) (by omega)
  have u2 := HU.out.cell (i := 2) (by omega)
  have u3 := HU.out.cell (i := 3) (by omega)
  have u4 := HU.out.cell (i := 4) (by omega)
  have u5 := HU.out.cell (i := 5) (by omega)
  have u6 := HU.out.cell (i := 6) (by omega)
  unfold wdAt at u0 u1 u2 u3 u4 u5 u6
  have z0 := HZ.out.cell (i := 0) (by omega)
  have z1 := HZ.out.cell (i := 1) (by omega)
  have z2 := HZ.out.cell (i := 2) (by omega)
  have z3 := HZ.out.cell (i := 3) (by omega)
  have z4 := HZ.out.cell (i := 4) (by omega)
  have z5 := HZ.out.cell (i := 5) (by omega)
  have he := fun w => arr_eq (dg U 0) (dg U 1) (dg U 2) (dg U 3) (dg U 4) (dg U 5) w
  rw [HE.out] at he
  go_wp2_with fail
  go_ret
  exact ⟨rfl, HBq.out⟩
/-- what Sign answers -/
def sgv (s : Bool) (U : Nat) : Int := if U = 0 then 0 else if s then -1 else 1
theorem sgv_zero (s : Bool) (U : Nat) : sgv s U = 0 ↔ wv s U = 0 := by unfold sgv wv; cases s <;> simp <;> (split <;> omega)
set_option maxRecDepth 100000 in
set_option maxHeartbeats 2000000 in
theorem rsign_any (s : Bool) (U : Nat) (w : World) (hF : Fit U) :
    Calls Try.prog 77 #[.agg (wdC s U)] w fun e w' => e = .returned (.int .i64 (sgv s U)) ∧ Below w.heap.size w w' := by
  have hU := wd_row w s U 83
  obtain ⟨uu, huu⟩ : ∃ x, wdC s U = x := ⟨_, rfl⟩
  rw [huu] at hU ⊢
  have HUU := Lib.hid huu
  have HU := Lib.hid hU
  have HBq := Lib.hid (show Below w.heap.size w (w.alloc (.cells uu 83)) from (Below.refl _ w).alloc (Nat.le_refl _) _)
  have HSZ := Lib.hid (show (w.alloc (.cells uu 83)).heap.size = w.heap.size + 1 by simp)
  have HF := Lib.hid hF
  clear hU huu hF
  go_enter Try.func77, Try.ntmps77
  go_upto_region 1 with (fail)
  generalize w.alloc (.cells uu 83) = wq at *
  have hsz : w.heap.size < wq.heap.size := by have := HSZ.out; omega
  have u0 := HU.out.cell (i := 0) (by omega)
  have u1 := HU.out.cell (i := 1) (by omega)
  have u2 := HU.out.cell (i := 2) (by omega)
  have u3 := HU.out.cell (i := 3) (by omega)
  have u4 := HU.out.cell (i := 4) (by omega)
  have u5 := HU.out.cell (i := 5) (by omega)
  have u6 := HU.out.cell (i := 6) (by omega)
  unfold wdAt at u0 u1 u2 u3 u4 u5 u6
  have HZr := Lib.hid (rzero_any s U wq HF.out)
  unfold wdC at HZr
  go_wp2_with fail
  refine HZr.out.mono ?_
  clear HZr u0 u1 u2 u3 u4 u5 u6
  rintro e w4 ⟨rfl, hb4⟩
  have hB4 := HBq.out.trans (hb4.mono (Nat.le_of_lt hsz))
  have u0 := (HU.out.below hb4 hsz).cell (i := 0) (by omega)
  unfold wdAt at u0
  by_cases h0 : U = 0
  · rw [decide_eq_true h0]
    have HS := Lib.hid (show sgv s U = 0 by unfold sgv; rw [if_pos h0])
    clear h0
    go_wp2_with fail
    go_ret
    exact ⟨by rw [HS.out]; rfl, hB4⟩
  · rw [decide_eq_false h0]
    have H0 := Lib.hid h0
    clear h0
    cases s with
    | true =>
      have HS := Lib.hid (show sgv true U = -1 by unfold sgv; rw [if_neg H0.out]; rfl)
      go_wp2_with fail
      go_ret
      exact ⟨by rw [HS.out]; rfl, hB4⟩
    | false =>
      have HS := Lib.hid (show sgv false U = 1 by unfold sgv; rw [if_neg H0.out]; rfl)
      go_wp2_with fail
      go_ret
      exact ⟨by rw [HS.out]; rfl, hB4⟩
end Go.Proofs.Ytbmcflmflmlmaaa
