/- The walks of sum and Weight of the document's kruskal. Conditions: the weights are in range. -/
import Derived.Test.YtbmcflmflmlmaaaWdR
import Derived.Test.YtbmcflmflmlmaaaRSwp
namespace Go.Proofs.Ytbmcflmflmlmaaa
open Go.RowKit

theorem wv_abs (z : Int) : wv (decide (z < 0)) z.natAbs = z := by
  unfold wv
  by_cases h : z < 0
  · rw [decide_eq_true h, if_pos rfl]; omega
  · rw [decide_eq_false h]; simp; omega
theorem wsOf_take {E : List Ed} {P : List Nat} {q x : Nat} (h : q < P.length) (hx : P.getD q 0 = x) : (wsOf E (P.take (q + 1))).sum = (wsOf E (P.take q)).sum + (eAt E x).w := by
  rw [take_snocN h, hx]; unfold wsOf; rw [List.map_append, List.sum_append]; simp
/-- what sum answers -/
def RSumRes (E : List Ed) (P : List Nat) (w : World) (e : Ending) (w' : World) : Prop :=
  ∃ s U, e = .returned (.agg (wdC s U)) ∧ wv s U = (wsOf E P).sum ∧ U ≤ P.length * 9223372036854775808 ∧ Below w.heap.size w w'
set_option maxRecDepth 100000 in
set_option maxHeartbeats 4000000 in
theorem rsum_any (a pa : Option Addr) (cap pc : Nat) (A PA : Nat → Addr) (E : List Ed) (P : List Nat) (w : World) (hE : ES w w.heap.size (.slice a E.length cap) E A) (hP : Rd 24 1 w w.heap.size (.slice pa P.length pc) P.length (nums .i64 (intsN P)) PA) (hp : ∀ i, i ∈ P → i < E.length) (hl : P.length ≤ 1000000) (hr : ∀ i, i < E.length → inR (eAt E i).w) :
    Calls Try.prog 48 #[.slice a E.length cap, .slice pa P.length pc] w (RSumRes E P w) := by
  have HE := Lib.hid hE; have HP := Lib.hid hP; have HPm := Lib.hid hp; have HRg := Lib.hid hr
  clear hE hP hp hr
  have z1 := wz_row w
  have z2 := wz_row (w.alloc (.cells #[.bool false, .int .u64 0, .int .u64 0, .int .u64 0, .int .u64 0, .int .u64 0, .int .u64 0] 83))
  simp only [World.size_alloc] at z2
  have HZ := Lib.hid (show Row ((w.alloc (.cells #[.bool false, .int .u64 0, .int .u64 0, .int .u64 0, .int .u64 0, .int .u64 0, .int .u64 0] 83)).alloc (.cells #[.bool false, .int .u64 0, .int .u64 0, .int .u64 0, .int .u64 0, .int .u64 0, .int .u64 0] 83)) w.heap.size 7 (wdAt false 0) from z1.alloc _)
  have HD := Lib.hid (show Row ((w.alloc (.cells #[.bool false, .int .u64 0, .int .u64 0, .int .u64 0, .int .u64 0, .int .u64 0, .int .u64 0] 83)).alloc (.cells #[.bool false, .int .u64 0, .int .u64 0, .int .u64 0, .int .u64 0, .int .u64 0, .int .u64 0] 83)) (w.heap.size + 1) 7 (wdAt false 0) from z2)
  have HB := Lib.hid (show Below w.heap.size w ((w.alloc (.cells #[.bool false, .int .u64 0, .int .u64 0, .int .u64 0, .int .u64 0, .int .u64 0, .int .u64 0] 83)).alloc (.cells #[.bool false, .int .u64 0, .int .u64 0, .int .u64 0, .int .u64 0, .int .u64 0, .int .u64 0] 83)) from ((Below.refl _ w).alloc (Nat.le_refl _) _).alloc (by simp) _)
  have HSz := Lib.hid (show w.heap.size + 1 < ((w.alloc (.cells #[.bool false, .int .u64 0, .int .u64 0, .int .u64 0, .int .u64 0, .int .u64 0, .int .u64 0] 83)).alloc (.cells #[.bool false, .int .u64 0, .int .u64 0, .int .u64 0, .int .u64 0, .int .u64 0, .int .u64 0] 83)).heap.size by simp)
  clear z1 z2
  go_enter Try.func48, Try.ntmps48
  go_wp2_with fail
  generalize ((w.alloc (.cells #[.bool false, .int .u64 0, .int .u64 0, .int .u64 0, .int .u64 0, .int .u64 0, .int .u64 0] 83)).alloc (.cells #[.bool false, .int .u64 0, .int .u64 0, .int .u64 0, .int .u64 0, .int .u64 0, .int .u64 0] 83)) = wq at *
  go_loopw [6] (fun iv wr => ∃ (q : Nat) (s : Bool) (U : Nat), q ≤ P.length ∧ iv = .int .i64 (q : Nat) ∧ Hid (wv s U = (wsOf E (P.take q)).sum) ∧ Hid (U ≤ q * 9223372036854775808) ∧ Hid (Row wr (w.heap.size + 1) 7 (wdAt s U)) ∧ Hid (Row wr w.heap.size 7 (wdAt false 0)) ∧ Hid (Below w.heap.size w wr) ∧ Hid (w.heap.size + 1 < wr.heap.size)) (fun iv _ => P.length - (intOf iv).toNat)
  case atStart => exact ⟨0, false, 0, Nat.zero_le _, rfl, Lib.hid (by simp [wv, wsOf]), Lib.hid (by omega), HD, HZ, HB, HSz⟩
  case round =>
    clear HZ HD HB HSz
    obtain ⟨q, s, U, hq, rfl, HVs, HLU, HD, HZ, HB, HSz⟩ := hrel
    by_cases hlt : q < P.length
    · obtain ⟨x, hx⟩ : ∃ x, P.getD q 0 = x := ⟨_, rfl⟩
      have hxl : x < E.length := HPm.out x (by rw [← hx, List.getD_eq_getElem?_getD, List.getElem?_eq_getElem hlt]; exact List.getElem_mem _)
      have HX := Lib.hid hx
      have i0 := HP.out.ix q hlt
      have i1 := HE.out.ix x hxl
      obtain ⟨z, hz⟩ : ∃ z, (eAt E x).w = z := ⟨_, rfl⟩
      have HSC := Lib.hid (show ∀ w5, Below w.heap.size w w5 → w5.cell? (PA q) = some (.int .i64 (x : Nat)) ∧ w5.cell? ⟨(A x).block, (A x).off + 2, none⟩ = some (.int .i64 z) from fun w5 hb5 => by
        have h1 := (HP.out.below hb5).cell q hlt 0 (by omega)
        rw [add_zero] at h1
        unfold nums at h1
        rw [intsN_nth, hx] at h1
        have h2 := ES.w (HE.out.below hb5) hxl
        rw [hz] at h2
        exact ⟨h1, h2⟩)
      have hszr : w.heap.size + 1 < wr.heap.size := HSz.out
      have HSB := Lib.hid (show ∀ w5, Below wr.heap.size wr w5 → w5.cell? (PA q) = some (.int .i64 (x : Nat)) ∧ w5.cell? ⟨(A x).block, (A x).off + 2, none⟩ = some (.int .i64 z) from fun w5 hb5 => HSC.out w5 (HB.out.trans (hb5.mono (by omega))))
      have HS : wr.drew.cell? (PA q) = some (.int .i64 (x : Nat)) ∧ wr.drew.cell? ⟨(A x).block, (A x).off + 2, none⟩ = some (.int .i64 z) := HSC.out _ HB.out.drew
      have hqv : (0 : Int) ≤ q ∧ (q : Int) < P.length := by omega
      have hxv : (0 : Int) ≤ x ∧ (x : Int) < E.length := by omega
      have hzr := HRg.out x hxl
      rw [hz] at hzr
      have hzr2 : z.natAbs ≤ 9223372036854775808 := by unfold inR at hzr; omega
      have hU2 : U ≤ 9223372036854775808000000 := by have := HLU.out; have h3 : q * 9223372036854775808 ≤ 1000000 * 9223372036854775808 := Nat.mul_le_mul_right _ (by omega); omega
      have HLU2 : U ≤ q * 9223372036854775808 := HLU.out
      have HFr := Lib.hid (rfrom_any z wr.drew hzr)
      have HZz := Lib.hid hz
      clear hx hz hzr
      go_wp2_with fail
      refine region_plain (fun w' => w'.cell? (PA q) = some (.int .i64 (x : Nat)) ∧ w'.cell? ⟨(A x).block, (A x).off + 2, none⟩ = some (.int .i64 z)) (by kernel_rfl) ?_
      refine take_at (i := 1) (d := 14) (v := ?_) rfl rfl (by kernel_rfl) (by kernel_rfl) (by kernel_rfl) (fun _ _ _ _ => NormalOnly.any) rfl ?hy1 HS ?rest1
      case hy1 => intro w' hSw; (try dsimp only at hSw); go_simp; try (with_reducible rfl)
      try simp only [List.setIfInBounds_toArray, List.set_cons_zero, List.set_cons_succ]
      refine take_at (i := 2) (d := 15) (v := ?_) rfl rfl (by kernel_rfl) (by kernel_rfl) (by kernel_rfl) (fun _ _ _ _ => NormalOnly.any) rfl ?hy2 HS ?rest2
      case hy2 => intro w' hSw; (try dsimp only at hSw); go_simp; try (with_reducible rfl)
      try simp only [List.setIfInBounds_toArray, List.set_cons_zero, List.set_cons_succ]
      refine take_at (i := 3) (d := 16) (v := ?_) rfl rfl (by kernel_rfl) (by kernel_rfl) (by kernel_rfl) (fun _ _ _ _ => NormalOnly.any) rfl ?hy3 HS ?rest3
      case hy3 => intro w' hSw; (try dsimp only at hSw); go_simp; try (with_reducible rfl)
      try simp only [List.setIfInBounds_toArray, List.set_cons_zero, List.set_cons_succ]
      refine take_at (i := 4) (d := 17) (v := ?_) rfl rfl (by kernel_rfl) (by kernel_rfl) (by kernel_rfl) (fun _ _ _ _ => NormalOnly.any) rfl ?hy4 HS ?rest4
      case hy4 => intro w' hSw; (try dsimp only at hSw); go_simp; try (with_reducible rfl)
      try simp only [List.setIfInBounds_toArray, List.set_cons_zero, List.set_cons_succ]
      refine take_at (i := 5) (d := 18) (v := ?_) rfl rfl (by kernel_rfl) (by kernel_rfl) (by kernel_rfl) (fun _ _ _ _ => NormalOnly.any) rfl ?hy5 HS ?rest5
      case hy5 => intro w' hSw; (try dsimp only at hSw); go_simp; try (with_reducible rfl)
      try simp only [List.setIfInBounds_toArray, List.set_cons_zero, List.set_cons_succ]
      refine take_at (i := 6) (d := 19) (v := ?_) rfl rfl (by kernel_rfl) (by kernel_rfl) (by kernel_rfl) (fun _ _ _ _ => NormalOnly.any) rfl ?hy6 HS ?rest6
      case hy6 => intro w' hSw; (try dsimp only at hSw); go_simp; try (with_reducible rfl)
      try simp only [List.setIfInBounds_toArray, List.set_cons_zero, List.set_cons_succ]
      refine take_at (i := 7) (d := 20) (v := ?_) rfl rfl (by kernel_rfl) (by kernel_rfl) (by kernel_rfl) (fun _ _ _ _ => NormalOnly.any) rfl ?hy7 HS ?rest7
      case hy7 => intro w' hSw; (try dsimp only at hSw); go_simp; try (with_reducible rfl)
      try simp only [List.setIfInBounds_toArray, List.set_cons_zero, List.set_cons_succ]
      refine take_at (i := 8) (d := 21) (v := ?_) rfl rfl (by kernel_rfl) (by kernel_rfl) (by kernel_rfl) (fun _ _ _ _ => NormalOnly.any) rfl ?hy8 HS ?rest8
      case hy8 => intro w' hSw; (try dsimp only at hSw); go_simp; try (with_reducible rfl)
      try simp only [List.setIfInBounds_toArray, List.set_cons_zero, List.set_cons_succ]
      refine wpAnyH_ready (rs := [0, 9]) (by kernel_rfl) (by simp) ?_
      refine AllReadyH.cons rfl (fun K hK => ?_) (AllReadyH.cons rfl (fun K hK => ?_) AllReadyH.nil)
      · have d0 := HD.out.drew.cell (i := 0) (by omega)
        have d1 := HD.out.drew.cell (i := 1) (by omega)
        have d2 := HD.out.drew.cell (i := 2) (by omega)
        have d3 := HD.out.drew.cell (i := 3) (by omega)
        have d4 := HD.out.drew.cell (i := 4) (by omega)
        have d5 := HD.out.drew.cell (i := 5) (by omega)
        have d6 := HD.out.drew.cell (i := 6) (by omega)
        unfold wdAt at d0 d1 d2 d3 d4 d5 d6
        go_simp
        refine hK.out _ _ HS (fun _ => ?_)
        clear hK d0 d1 d2 d3 d4 d5 d6
        refine wpAnyH_ready (rs := [9]) (by kernel_rfl) (by simp) ?_
        refine AllReadyH.cons rfl (fun K hK => ?_) AllReadyH.nil
        go_simp
        refine HFr.out.mono ?_
        rintro e w4 ⟨rfl, hb4⟩
        have hb4 : Below wr.heap.size wr w4 := (Below.refl _ wr).drew.trans hb4
        refine hK.out _ _ (HSB.out _ hb4) (fun _ => ?_)
        clear hK
        refine wpAnyH_ready (rs := [10]) (by kernel_rfl) (by simp) ?_
        refine AllReadyH.cons rfl (fun K hK => ?_) AllReadyH.nil
        unfold wdC
        go_simp
        refine (rplus_any s U (decide (z < 0)) z.natAbs _ (fit_128 (by omega)) (fit_128 (by omega))).mono ?_
        rintro e w5 ⟨r, W, rfl, hW, hle, hb5⟩
        have hb5 : Below wr.heap.size wr w5 := hb4.trans (hb5.mono hb4.size)
        refine hK.out _ _ (HSB.out _ hb5) (fun _ => ?_)
        clear hK
        have HD5 := HD.out.below hb5 hszr; have HZ5 := HZ.out.below hb5 (by omega)
        have hbw5 := HB.out.trans (hb5.mono (show w.heap.size ≤ wr.heap.size by omega))
        have HR := Lib.hid (show Row (((((((w5.setCell ⟨w.heap.size + 1, 0, none⟩ (.bool r)).setCell ⟨w.heap.size + 1, 1, none⟩ (.int .u64 (dg W 0 : Nat))).setCell ⟨w.heap.size + 1, 2, none⟩ (.int .u64 (dg W 1 : Nat))).setCell ⟨w.heap.size + 1, 3, none⟩ (.int .u64 (dg W 2 : Nat))).setCell ⟨w.heap.size + 1, 4, none⟩ (.int .u64 (dg W 3 : Nat))).setCell ⟨w.heap.size + 1, 5, none⟩ (.int .u64 (dg W 4 : Nat))).setCell ⟨w.heap.size + 1, 6, none⟩ (.int .u64 (dg W 5 : Nat))) (w.heap.size + 1) 7 (wdAt r W) from Row.congr (((((((HD5.set 0 (.bool r)).set 1 (.int .u64 (dg W 0 : Nat))).set 2 (.int .u64 (dg W 1 : Nat))).set 3 (.int .u64 (dg W 2 : Nat))).set 4 (.int .u64 (dg W 3 : Nat))).set 5 (.int .u64 (dg W 4 : Nat))).set 6 (.int .u64 (dg W 5 : Nat))) (fun i hi => by
          match i, hi with
          | 0, _ => rfl
          | 1, _ => rfl
          | 2, _ => rfl
          | 3, _ => rfl
          | 4, _ => rfl
          | 5, _ => rfl
          | 6, _ => rfl
          | n + 7, h => omega))
        have HZ6 := Lib.hid ((((((((HZ5.setOther (a := ⟨w.heap.size + 1, 0, none⟩) (by show w.heap.size ≠ w.heap.size + 1; omega) (.bool r)).setOther (a := ⟨w.heap.size + 1, 1, none⟩) (by show w.heap.size ≠ w.heap.size + 1; omega) (.int .u64 (dg W 0 : Nat))).setOther (a := ⟨w.heap.size + 1, 2, none⟩) (by show w.heap.size ≠ w.heap.size + 1; omega) (.int .u64 (dg W 1 : Nat))).setOther (a := ⟨w.heap.size + 1, 3, none⟩) (by show w.heap.size ≠ w.heap.size + 1; omega) (.int .u64 (dg W 2 : Nat))).setOther (a := ⟨w.heap.size + 1, 4, none⟩) (by show w.heap.size ≠ w.heap.size + 1; omega) (.int .u64 (dg W 3 : Nat))).setOther (a := ⟨w.heap.size + 1, 5, none⟩) (by show w.heap.size ≠ w.heap.size + 1; omega) (.int .u64 (dg W 4 : Nat))).setOther (a := ⟨w.heap.size + 1, 6, none⟩) (by show w.heap.size ≠ w.heap.size + 1; omega) (.int .u64 (dg W 5 : Nat))))
        have HB6 := Lib.hid (show Below w.heap.size w (((((((w5.setCell ⟨w.heap.size + 1, 0, none⟩ (.bool r)).setCell ⟨w.heap.size + 1, 1, none⟩ (.int .u64 (dg W 0 : Nat))).setCell ⟨w.heap.size + 1, 2, none⟩ (.int .u64 (dg W 1 : Nat))).setCell ⟨w.heap.size + 1, 3, none⟩ (.int .u64 (dg W 2 : Nat))).setCell ⟨w.heap.size + 1, 4, none⟩ (.int .u64 (dg W 3 : Nat))).setCell ⟨w.heap.size + 1, 5, none⟩ (.int .u64 (dg W 4 : Nat))).setCell ⟨w.heap.size + 1, 6, none⟩ (.int .u64 (dg W 5 : Nat))) from (((((((hbw5.setCell (p := ⟨w.heap.size + 1, 0, none⟩) (by show w.heap.size ≤ w.heap.size + 1; omega) _).setCell (p := ⟨w.heap.size + 1, 1, none⟩) (by show w.heap.size ≤ w.heap.size + 1; omega) _).setCell (p := ⟨w.heap.size + 1, 2, none⟩) (by show w.heap.size ≤ w.heap.size + 1; omega) _).setCell (p := ⟨w.heap.size + 1, 3, none⟩) (by show w.heap.size ≤ w.heap.size + 1; omega) _).setCell (p := ⟨w.heap.size + 1, 4, none⟩) (by show w.heap.size ≤ w.heap.size + 1; omega) _).setCell (p := ⟨w.heap.size + 1, 5, none⟩) (by show w.heap.size ≤ w.heap.size + 1; omega) _).setCell (p := ⟨w.heap.size + 1, 6, none⟩) (by show w.heap.size ≤ w.heap.size + 1; omega) _))
        have HS6 : (((((((w5.setCell ⟨w.heap.size + 1, 0, none⟩ (.bool r)).setCell ⟨w.heap.size + 1, 1, none⟩ (.int .u64 (dg W 0 : Nat))).setCell ⟨w.heap.size + 1, 2, none⟩ (.int .u64 (dg W 1 : Nat))).setCell ⟨w.heap.size + 1, 3, none⟩ (.int .u64 (dg W 2 : Nat))).setCell ⟨w.heap.size + 1, 4, none⟩ (.int .u64 (dg W 3 : Nat))).setCell ⟨w.heap.size + 1, 5, none⟩ (.int .u64 (dg W 4 : Nat))).setCell ⟨w.heap.size + 1, 6, none⟩ (.int .u64 (dg W 5 : Nat))).cell? (PA q) = some (.int .i64 (x : Nat)) ∧ (((((((w5.setCell ⟨w.heap.size + 1, 0, none⟩ (.bool r)).setCell ⟨w.heap.size + 1, 1, none⟩ (.int .u64 (dg W 0 : Nat))).setCell ⟨w.heap.size + 1, 2, none⟩ (.int .u64 (dg W 1 : Nat))).setCell ⟨w.heap.size + 1, 3, none⟩ (.int .u64 (dg W 2 : Nat))).setCell ⟨w.heap.size + 1, 4, none⟩ (.int .u64 (dg W 3 : Nat))).setCell ⟨w.heap.size + 1, 5, none⟩ (.int .u64 (dg W 4 : Nat))).setCell ⟨w.heap.size + 1, 6, none⟩ (.int .u64 (dg W 5 : Nat))).cell? ⟨(A x).block, (A x).off + 2, none⟩ = some (.int .i64 z) := HSC.out _ HB6.out
        have z0 := HD5.cell (i := 0) (by omega)
        have z1 := HD5.cell (i := 1) (by omega)
        have z2 := HD5.cell (i := 2) (by omega)
        have z3 := HD5.cell (i := 3) (by omega)
        have z4 := HD5.cell (i := 4) (by omega)
        have z5 := HD5.cell (i := 5) (by omega)
        have z6 := HD5.cell (i := 6) (by omega)
        have fz := fun i => HD5.frozen i
        unfold wdAt at z0 z1 z2 z3 z4 z5 z6
        have hsw5 : wr.heap.size ≤ w5.heap.size := hb5.size
        have HSz6 := Lib.hid (show w.heap.size + 1 < (((((((w5.setCell ⟨w.heap.size + 1, 0, none⟩ (.bool r)).setCell ⟨w.heap.size + 1, 1, none⟩ (.int .u64 (dg W 0 : Nat))).setCell ⟨w.heap.size + 1, 2, none⟩ (.int .u64 (dg W 1 : Nat))).setCell ⟨w.heap.size + 1, 3, none⟩ (.int .u64 (dg W 2 : Nat))).setCell ⟨w.heap.size + 1, 4, none⟩ (.int .u64 (dg W 3 : Nat))).setCell ⟨w.heap.size + 1, 5, none⟩ (.int .u64 (dg W 4 : Nat))).setCell ⟨w.heap.size + 1, 6, none⟩ (.int .u64 (dg W 5 : Nat))).heap.size by simp [World.setCell]; omega)
        clear HZ5
        unfold wdC
        refine wpAnyH_ready (rs := [11]) (by kernel_rfl) (by simp) ?_
        refine AllReadyH.cons rfl (fun K hK => ?_) AllReadyH.nil
        go_simp
        refine hK.out _ _ HS6 (fun _ => ?_)
        clear hK HS6 z0 z1 z2 z3 z4 z5 z6 fz HD5 HS hsw5
        refine wpAnyH_done (by kernel_rfl) ⟨rfl, ?_⟩ _
        generalize (((((((w5.setCell ⟨w.heap.size + 1, 0, none⟩ (.bool r)).setCell ⟨w.heap.size + 1, 1, none⟩ (.int .u64 (dg W 0 : Nat))).setCell ⟨w.heap.size + 1, 2, none⟩ (.int .u64 (dg W 1 : Nat))).setCell ⟨w.heap.size + 1, 3, none⟩ (.int .u64 (dg W 2 : Nat))).setCell ⟨w.heap.size + 1, 4, none⟩ (.int .u64 (dg W 3 : Nat))).setCell ⟨w.heap.size + 1, 5, none⟩ (.int .u64 (dg W 4 : Nat))).setCell ⟨w.heap.size + 1, 6, none⟩ (.int .u64 (dg W 5 : Nat))) = wz at *
        have HV := Lib.hid (show wv r W = (wsOf E (P.take (q + 1))).sum by rw [hW, HVs.out, wsOf_take hlt HX.out, HZz.out, wv_abs])
        have HLe := Lib.hid (show W ≤ (q + 1) * 9223372036854775808 by rw [Nat.add_mul]; omega)
        clear hW hle
        go_wp2_with fail
        go_roundw
        case rel => exact ⟨q + 1, r, W, by omega, by go_num, HV, HLe, HR, HZ6, HB6, HSz6⟩
        case measure => simp only [intOf]; omega
      · go_simp
        refine HFr.out.mono ?_
        rintro e w4 ⟨rfl, hb4⟩
        have hb4 : Below wr.heap.size wr w4 := (Below.refl _ wr).drew.trans hb4
        refine hK.out _ _ (HSB.out _ hb4) (fun _ => ?_)
        clear hK
        refine wpAnyH_ready (rs := [0]) (by kernel_rfl) (by simp) ?_
        refine AllReadyH.cons rfl (fun K hK => ?_) AllReadyH.nil
        have hD4 := HD.out.below hb4 hszr
        have d0 := hD4.cell (i := 0) (by omega)
        have d1 := hD4.cell (i := 1) (by omega)
        have d2 := hD4.cell (i := 2) (by omega)
        have d3 := hD4.cell (i := 3) (by omega)
        have d4 := hD4.cell (i := 4) (by omega)
        have d5 := hD4.cell (i := 5) (by omega)
        have d6 := hD4.cell (i := 6) (by omega)
        unfold wdAt at d0 d1 d2 d3 d4 d5 d6
        go_simp
        refine hK.out _ _ (HSB.out _ hb4) (fun _ => ?_)
        clear hK hD4 d0 d1 d2 d3 d4 d5 d6
        refine wpAnyH_ready (rs := [10]) (by kernel_rfl) (by simp) ?_
        refine AllReadyH.cons rfl (fun K hK => ?_) AllReadyH.nil
        unfold wdC
        go_simp
        refine (rplus_any s U (decide (z < 0)) z.natAbs _ (fit_128 (by omega)) (fit_128 (by omega))).mono ?_
        rintro e w5 ⟨r, W, rfl, hW, hle, hb5⟩
        have hb5 : Below wr.heap.size wr w5 := hb4.trans (hb5.mono hb4.size)
        refine hK.out _ _ (HSB.out _ hb5) (fun _ => ?_)
        clear hK
        have HD5 := HD.out.below hb5 hszr; have HZ5 := HZ.out.below hb5 (by omega)
        have hbw5 := HB.out.trans (hb5.mono (show w.heap.size ≤ wr.heap.size by omega))
        have HR := Lib.hid (show Row (((((((w5.setCell ⟨w.heap.size + 1, 0, none⟩ (.bool r)).setCell ⟨w.heap.size + 1, 1, none⟩ (.int .u64 (dg W 0 : Nat))).setCell ⟨w.heap.size + 1, 2, none⟩ (.int .u64 (dg W 1 : Nat))).setCell ⟨w.heap.size + 1, 3, none⟩ (.int .u64 (dg W 2 : Nat))).setCell ⟨w.heap.size + 1, 4, none⟩ (.int .u64 (dg W 3 : Nat))).setCell ⟨w.heap.size + 1, 5, none⟩ (.int .u64 (dg W 4 : Nat))).setCell ⟨w.heap.size + 1, 6, none⟩ (.int .u64 (dg W 5 : Nat))) (w.heap.size + 1) 7 (wdAt r W) from Row.congr (((((((HD5.set 0 (.bool r)).set 1 (.int .u64 (dg W 0 : Nat))).set 2 (.int .u64 (dg W 1 : Nat))).set 3 (.int .u64 (dg W 2 : Nat))).set 4 (.int .u64 (dg W 3 : Nat))).set 5 (.int .u64 (dg W 4 : Nat))).set 6 (.int .u64 (dg W 5 : Nat))) (fun i hi => by
          match i, hi with
          | 0, _ => rfl
          | 1, _ => rfl
          | 2, _ => rfl
          | 3, _ => rfl
          | 4, _ => rfl
          | 5, _ => rfl
          | 6, _ => rfl
          | n + 7, h => omega))
        have HZ6 := Lib.hid ((((((((HZ5.setOther (a := ⟨w.heap.size + 1, 0, none⟩) (by show w.heap.size ≠ w.heap.size + 1; omega) (.bool r)).setOther (a := ⟨w.heap.size + 1, 1, none⟩) (by show w.heap.size ≠ w.heap.size + 1; omega) (.int .u64 (dg W 0 : Nat))).setOther (a := ⟨w.heap.size + 1, 2, none⟩) (by show w.heap.size ≠ w.heap.size + 1; omega) (.int .u64 (dg W 1 : Nat))).setOther (a := ⟨w.heap.size + 1, 3, none⟩) (by show w.heap.size ≠ w.heap.size + 1; omega) (.int .u64 (dg W 2 : Nat))).setOther (a := ⟨w.heap.size + 1, 4, none⟩) (by show w.heap.size ≠ w.heap.size + 1; omega) (.int .u64 (dg W 3 : Nat))).setOther (a := ⟨w.heap.size + 1, 5, none⟩) (by show w.heap.size ≠ w.heap.size + 1; omega) (.int .u64 (dg W 4 : Nat))).setOther (a := ⟨w.heap.size + 1, 6, none⟩) (by show w.heap.size ≠ w.heap.size + 1; omega) (.int .u64 (dg W 5 : Nat))))
        have HB6 := Lib.hid (show Below w.heap.size w (((((((w5.setCell ⟨w.heap.size + 1, 0, none⟩ (.bool r)).setCell ⟨w.heap.size + 1, 1, none⟩ (.int .u64 (dg W 0 : Nat))).setCell ⟨w.heap.size + 1, 2, none⟩ (.int .u64 (dg W 1 : Nat))).setCell ⟨w.heap.size + 1, 3, none⟩ (.int .u64 (dg W 2 : Nat))).setCell ⟨w.heap.size + 1, 4, none⟩ (.int .u64 (dg W 3 : Nat))).setCell ⟨w.heap.size + 1, 5, none⟩ (.int .u64 (dg W 4 : Nat))).setCell ⟨w.heap.size + 1, 6, none⟩ (.int .u64 (dg W 5 : Nat))) from (((((((hbw5.setCell (p := ⟨w.heap.size + 1, 0, none⟩) (by show w.heap.size ≤ w.heap.size + 1; omega) _).setCell (p := ⟨w.heap.size + 1, 1, none⟩) (by show w.heap.size ≤ w.heap.size + 1; omega) _).setCell (p := ⟨w.heap.size + 1, 2, none⟩) (by show w.heap.size ≤ w.heap.size + 1; omega) _).setCell (p := ⟨w.heap.size + 1, 3, none⟩) (by show w.heap.size ≤ w.heap.size + 1; omega) _).setCell (p := ⟨w.heap.size + 1, 4, none⟩) (by show w.heap.size ≤ w.heap.size + 1; omega) _).setCell (p := ⟨w.heap.size + 1, 5, none⟩) (by show w.heap.size ≤ w.heap.size + 1; omega) _).setCell (p := ⟨w.heap.size + 1, 6, none⟩) (by show w.heap.size ≤ w.heap.size + 1; omega) _))
        have HS6 : (((((((w5.setCell ⟨w.heap.size + 1, 0, none⟩ (.bool r)).setCell ⟨w.heap.size + 1, 1, none⟩ (.int .u64 (dg W 0 : Nat))).setCell ⟨w.heap.size + 1, 2, none⟩ (.int .u64 (dg W 1 : Nat))).setCell ⟨w.heap.size + 1, 3, none⟩ (.int .u64 (dg W 2 : Nat))).setCell ⟨w.heap.size + 1, 4, none⟩ (.int .u64 (dg W 3 : Nat))).setCell ⟨w.heap.size + 1, 5, none⟩ (.int .u64 (dg W 4 : Nat))).setCell ⟨w.heap.size + 1, 6, none⟩ (.int .u64 (dg W 5 : Nat))).cell? (PA q) = some (.int .i64 (x : Nat)) ∧ (((((((w5.setCell ⟨w.heap.size + 1, 0, none⟩ (.bool r)).setCell ⟨w.heap.size + 1, 1, none⟩ (.int .u64 (dg W 0 : Nat))).setCell ⟨w.heap.size + 1, 2, none⟩ (.int .u64 (dg W 1 : Nat))).setCell ⟨w.heap.size + 1, 3, none⟩ (.int .u64 (dg W 2 : Nat))).setCell ⟨w.heap.size + 1, 4, none⟩ (.int .u64 (dg W 3 : Nat))).setCell ⟨w.heap.size + 1, 5, none⟩ (.int .u64 (dg W 4 : Nat))).setCell ⟨w.heap.size + 1, 6, none⟩ (.int .u64 (dg W 5 : Nat))).cell? ⟨(A x).block, (A x).off + 2, none⟩ = some (.int .i64 z) := HSC.out _ HB6.out
        have z0 := HD5.cell (i := 0) (by omega)
        have z1 := HD5.cell (i := 1) (by omega)
        have z2 := HD5.cell (i := 2) (by omega)
        have z3 := HD5.cell (i := 3) (by omega)
        have z4 := HD5.cell (i := 4) (by omega)
        have z5 := HD5.cell (i := 5) (by omega)
        have z6 := HD5.cell (i := 6) (by omega)
        have fz := fun i => HD5.frozen i
        unfold wdAt at z0 z1 z2 z3 z4 z5 z6
        have hsw5 : wr.heap.size ≤ w5.heap.size := hb5.size
        have HSz6 := Lib.hid (show w.heap.size + 1 < (((((((w5.setCell ⟨w.heap.size + 1, 0, none⟩ (.bool r)).setCell ⟨w.heap.size + 1, 1, none⟩ (.int .u64 (dg W 0 : Nat))).setCell ⟨w.heap.size + 1, 2, none⟩ (.int .u64 (dg W 1 : Nat))).setCell ⟨w.heap.size + 1, 3, none⟩ (.int .u64 (dg W 2 : Nat))).setCell ⟨w.heap.size + 1, 4, none⟩ (.int .u64 (dg W 3 : Nat))).setCell ⟨w.heap.size + 1, 5, none⟩ (.int .u64 (dg W 4 : Nat))).setCell ⟨w.heap.size + 1, 6, none⟩ (.int .u64 (dg W 5 : Nat))).heap.size by simp [World.setCell]; omega)
        clear HZ5
        unfold wdC
        refine wpAnyH_ready (rs := [11]) (by kernel_rfl) (by simp) ?_
        refine AllReadyH.cons rfl (fun K hK => ?_) AllReadyH.nil
        go_simp
        refine hK.out _ _ HS6 (fun _ => ?_)
        clear hK HS6 z0 z1 z2 z3 z4 z5 z6 fz HD5 HS hsw5
        refine wpAnyH_done (by kernel_rfl) ⟨rfl, ?_⟩ _
        generalize (((((((w5.setCell ⟨w.heap.size + 1, 0, none⟩ (.bool r)).setCell ⟨w.heap.size + 1, 1, none⟩ (.int .u64 (dg W 0 : Nat))).setCell ⟨w.heap.size + 1, 2, none⟩ (.int .u64 (dg W 1 : Nat))).setCell ⟨w.heap.size + 1, 3, none⟩ (.int .u64 (dg W 2 : Nat))).setCell ⟨w.heap.size + 1, 4, none⟩ (.int .u64 (dg W 3 : Nat))).setCell ⟨w.heap.size + 1, 5, none⟩ (.int .u64 (dg W 4 : Nat))).setCell ⟨w.heap.size + 1, 6, none⟩ (.int .u64 (dg W 5 : Nat))) = wz at *
        have HV := Lib.hid (show wv r W = (wsOf E (P.take (q + 1))).sum by rw [hW, HVs.out, wsOf_take hlt HX.out, HZz.out, wv_abs])
        have HLe := Lib.hid (show W ≤ (q + 1) * 9223372036854775808 by rw [Nat.add_mul]; omega)
        clear hW hle
        go_wp2_with fail
        go_roundw
        case rel => exact ⟨q + 1, r, W, by omega, by go_num, HV, HLe, HR, HZ6, HB6, HSz6⟩
        case measure => simp only [intOf]; omega
    · obtain rfl : q = P.length := by omega
      have d0 := HD.out.cell (i := 0) (by omega)
      have d1 := HD.out.cell (i := 1) (by omega)
      have d2 := HD.out.cell (i := 2) (by omega)
      have d3 := HD.out.cell (i := 3) (by omega)
      have d4 := HD.out.cell (i := 4) (by omega)
      have d5 := HD.out.cell (i := 5) (by omega)
      have d6 := HD.out.cell (i := 6) (by omega)
      have z0 := HZ.out.cell (i := 0) (by omega)
      have z1 := HZ.out.cell (i := 1) (by omega)
      have z2 := HZ.out.cell (i := 2) (by omega)
      have z3 := HZ.out.cell (i := 3) (by omega)
      have z4 := HZ.out.cell (i := 4) (by omega)
      have z5 := HZ.out.cell (i := 5) (by omega)
      have z6 := HZ.out.cell (i := 6) (by omega)
      have fz := fun i => HZ.out.frozen i
      have HR := Lib.hid (show Row (((((((wr.setCell ⟨w.heap.size, 0, none⟩ (.bool s)).setCell ⟨w.heap.size, 1, none⟩ (.int .u64 (dg U 0 : Nat))).setCell ⟨w.heap.size, 2, none⟩ (.int .u64 (dg U 1 : Nat))).setCell ⟨w.heap.size, 3, none⟩ (.int .u64 (dg U 2 : Nat))).setCell ⟨w.heap.size, 4, none⟩ (.int .u64 (dg U 3 : Nat))).setCell ⟨w.heap.size, 5, none⟩ (.int .u64 (dg U 4 : Nat))).setCell ⟨w.heap.size, 6, none⟩ (.int .u64 (dg U 5 : Nat))) w.heap.size 7 (wdAt s U) from Row.congr (((((((HZ.out.set 0 (.bool s)).set 1 (.int .u64 (dg U 0 : Nat))).set 2 (.int .u64 (dg U 1 : Nat))).set 3 (.int .u64 (dg U 2 : Nat))).set 4 (.int .u64 (dg U 3 : Nat))).set 5 (.int .u64 (dg U 4 : Nat))).set 6 (.int .u64 (dg U 5 : Nat))) (fun i hi => by
        match i, hi with
        | 0, _ => rfl
        | 1, _ => rfl
        | 2, _ => rfl
        | 3, _ => rfl
        | 4, _ => rfl
        | 5, _ => rfl
        | 6, _ => rfl
        | n + 7, h => omega))
      have HB6 := Lib.hid (show Below w.heap.size w (((((((wr.setCell ⟨w.heap.size, 0, none⟩ (.bool s)).setCell ⟨w.heap.size, 1, none⟩ (.int .u64 (dg U 0 : Nat))).setCell ⟨w.heap.size, 2, none⟩ (.int .u64 (dg U 1 : Nat))).setCell ⟨w.heap.size, 3, none⟩ (.int .u64 (dg U 2 : Nat))).setCell ⟨w.heap.size, 4, none⟩ (.int .u64 (dg U 3 : Nat))).setCell ⟨w.heap.size, 5, none⟩ (.int .u64 (dg U 4 : Nat))).setCell ⟨w.heap.size, 6, none⟩ (.int .u64 (dg U 5 : Nat))) from (((((((HB.out.setCell (p := ⟨w.heap.size, 0, none⟩) (Nat.le_refl _) _).setCell (p := ⟨w.heap.size, 1, none⟩) (Nat.le_refl _) _).setCell (p := ⟨w.heap.size, 2, none⟩) (Nat.le_refl _) _).setCell (p := ⟨w.heap.size, 3, none⟩) (Nat.le_refl _) _).setCell (p := ⟨w.heap.size, 4, none⟩) (Nat.le_refl _) _).setCell (p := ⟨w.heap.size, 5, none⟩) (Nat.le_refl _) _).setCell (p := ⟨w.heap.size, 6, none⟩) (Nat.le_refl _) _))
      have hV := HVs.out
      rw [List.take_length] at hV
      have HV := Lib.hid hV
      clear hV
      unfold wdAt at d0 d1 d2 d3 d4 d5 d6 z0 z1 z2 z3 z4 z5 z6
      go_wp2_with fail
      generalize (((((((wr.setCell ⟨w.heap.size, 0, none⟩ (.bool s)).setCell ⟨w.heap.size, 1, none⟩ (.int .u64 (dg U 0 : Nat))).setCell ⟨w.heap.size, 2, none⟩ (.int .u64 (dg U 1 : Nat))).setCell ⟨w.heap.size, 3, none⟩ (.int .u64 (dg U 2 : Nat))).setCell ⟨w.heap.size, 4, none⟩ (.int .u64 (dg U 3 : Nat))).setCell ⟨w.heap.size, 5, none⟩ (.int .u64 (dg U 4 : Nat))).setCell ⟨w.heap.size, 6, none⟩ (.int .u64 (dg U 5 : Nat))) = wz at *
      have s0 := HR.out.cell (i := 0) (by omega)
      have s1 := HR.out.cell (i := 1) (by omega)
      have s2 := HR.out.cell (i := 2) (by omega)
      have s3 := HR.out.cell (i := 3) (by omega)
      have s4 := HR.out.cell (i := 4) (by omega)
      have s5 := HR.out.cell (i := 5) (by omega)
      have s6 := HR.out.cell (i := 6) (by omega)
      unfold wdAt at s0 s1 s2 s3 s4 s5 s6
      exact bodyPost_ret (v := .agg (wdC s U)) (by simp [results, Try.results48, go_sem, s0, s1, s2, s3, s4, s5, s6, wdC]) rfl ⟨s, U, rfl, HV.out, HLU.out, HB6.out⟩
set_option maxRecDepth 100000 in
set_option maxHeartbeats 1000000 in
theorem rweight_any (B : Nat) (a : Option Addr) (cap : Nat) (A : Nat → Addr) (n : Int) (E : List Ed) (w : World) (hS : ES w B (.slice a E.length cap) E A) (hB : B ≤ w.heap.size) (hm : E.length ≤ 9223372036854775807) (hr : ∀ i, i < E.length → inR (eAt E i).w) :
    Calls Try.prog 21 #[.int .i64 n, .slice a E.length cap] w (WgtRes n E w) := by
  have HF := Lib.hid (rforest_any B a cap A n E w hS hB hm)
  have HS := Lib.hid hS; have HR := Lib.hid hr
  clear hS hr
  go_enter Try.func21, Try.ntmps21
  go_wp2_with fail
  refine HF.out.mono ?_
  clear HF
  rintro e w1 ⟨hb1, ⟨h0, rfl⟩ | ⟨h0, o, v, ho, rfl, hv⟩⟩
  · obtain ⟨ee, hee⟩ : ∃ ee, gErr n E = ee := ⟨_, rfl⟩
    have H0 := Lib.hid h0; have HE := Lib.hid hee
    rw [hee] at h0 ⊢
    have hz : (ee != 0) = true := by simpa using h0
    clear h0 hee
    go_wp2_with fail
    go_ret2
    exact ⟨hb1, .inl ⟨H0.out, by rw [HE.out]; rfl⟩⟩
  · obtain ⟨fa, fc, FA, rfl, hF⟩ := ownI_rd hv
    have hml : E.length ≤ 16384 := by obtain ⟨k, _, G⟩ := gErr_zero h0; exact G.m_le
    have hfl : (frs E o).length ≤ 1000000 := by have := frs_len E o; rw [ho.len] at this; omega
    have HSm := Lib.hid (rsum_any a fa cap fc A FA E (frs E o) w1 ((HS.out.below (hb1.mono hB)).mono (Nat.le_trans hB hb1.size)) hF (fun i hi => frs_mem ho hi) hfl HR.out)
    have HO := Lib.hid ho; have H0 := Lib.hid h0
    clear hv hF ho h0
    go_wp2_with fail
    refine HSm.out.mono ?_
    rintro e w2 ⟨s, U, rfl, hV, hU, hb2⟩
    have hFU : Fit U := fit_128 (by have h3 : (frs E o).length * 9223372036854775808 ≤ 1000000 * 9223372036854775808 := Nat.mul_le_mul_right _ hfl; omega)
    have HI := Lib.hid (rint_any s U w2 hFU)
    rw [hV] at HI
    have HB := Lib.hid (hb1.trans (hb2.mono hb1.size))
    clear HSm hV hU hFU hb2
    have hs12 := hb1.size
    go_wp2_with fail
    refine HI.out.mono ?_
    rintro e w3 ⟨hb3, ⟨hin, rfl⟩ | ⟨hin, rfl⟩⟩
    · have HIn := Lib.hid hin
      have HB3 := Lib.hid (HB.out.trans (hb3.mono HB.out.size))
      clear hin hb3
      go_wp2_with fail
      go_ret2
      refine ⟨HB3.out, .inr ⟨H0.out, o, HO.out, ?_⟩⟩
      unfold sumW sumO wSum
      rw [if_pos HIn.out, if_pos HIn.out]; rfl
    · have HIn := Lib.hid hin
      have HB3 := Lib.hid (HB.out.trans (hb3.mono HB.out.size))
      clear hin hb3
      go_wp2_with fail
      go_ret2
      refine ⟨HB3.out, .inr ⟨H0.out, o, HO.out, ?_⟩⟩
      unfold sumW sumO wSum
      rw [if_neg HIn.out, if_neg HIn.out]; rfl
end Go.Proofs.Ytbmcflmflmlmaaa
