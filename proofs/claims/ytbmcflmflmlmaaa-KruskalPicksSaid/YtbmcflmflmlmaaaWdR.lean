/- The walks of Order and Int of the document's package of numbers, and of sum of the document's kruskal. Conditions: the magnitudes are below 2^128. -/
import Derived.Test.YtbmcflmflmlmaaaWdQ
import Derived.Test.YtbmcflmflmlmaaaWgt
namespace Go.Proofs.Ytbmcflmflmlmaaa
open Go.RowKit

/-- what Order answers -/
def OrderRes (s : Bool) (U : Nat) (t : Bool) (V : Nat) (w : World) (e : Ending) (w' : World) : Prop := ∃ x : Int, e = .returned (.int .i64 x) ∧ (x = 0 ↔ wv s U = wv t V) ∧ Below w.heap.size w w'
theorem fit_128 {U : Nat} (h : U ≤ 680564733841876926926749214863536422912) : Fit U := fit_of (by omega)
theorem wv_not (t : Bool) (V : Nat) : wv (!t) V = - wv t V := by cases t <;> simp [wv]
set_option maxRecDepth 100000 in
set_option maxHeartbeats 2000000 in
theorem wide_order (s : Bool) (U : Nat) (t : Bool) (V : Nat) (w : World) (hU : U ≤ 340282366920938463463374607431768211456) (hV : V ≤ 340282366920938463463374607431768211456) :
    Calls Try.prog 61 #[.agg (wdC s U), .agg (wdC t V)] w (OrderRes s U t V w) := by
  have H1 := Lib.hid hU; have H2 := Lib.hid hV
  clear hU hV
  have hU := wd_row w s U 83
  have hV := wd_row (w.alloc (.cells (wdC s U) 83)) t V 83
  rw [World.size_alloc] at hV
  obtain ⟨uu, huu⟩ : ∃ x, wdC s U = x := ⟨_, rfl⟩
  obtain ⟨vv, hvv⟩ : ∃ x, wdC t V = x := ⟨_, rfl⟩
  rw [huu] at hU hV ⊢; rw [hvv] at hV ⊢
  have HU := Lib.hid (show Row ((w.alloc (.cells uu 83)).alloc (.cells vv 83)) w.heap.size 7 (wdAt s U) from hU.alloc _)
  have HV := Lib.hid (show Row ((w.alloc (.cells uu 83)).alloc (.cells vv 83)) (w.heap.size + 1) 7 (wdAt t V) from hV)
  have HBq := Lib.hid (show Below w.heap.size w ((w.alloc (.cells uu 83)).alloc (.cells vv 83)) from ((Below.refl _ w).alloc (Nat.le_refl _) _).alloc (by simp) _)
  have HSZ := Lib.hid (show ((w.alloc (.cells uu 83)).alloc (.cells vv 83)).heap.size = w.heap.size + 1 + 1 by simp)
  clear hU hV huu hvv
  go_enter Try.func61, Try.ntmps61
  go_upto_region 1 with (fail)
  generalize ((w.alloc (.cells uu 83)).alloc (.cells vv 83)) = wq at *
  have hsz3 : w.heap.size + 1 < wq.heap.size := by have := HSZ.out; omega
  have HSB := Lib.hid (show ∀ w5, Below wq.heap.size wq w5 → w5.cell? ⟨w.heap.size, 0, none⟩ = some (.bool s) ∧ w5.cell? ⟨w.heap.size, 1, none⟩ = some (.int .u64 (dg U 0 : Nat)) ∧ w5.cell? ⟨w.heap.size, 2, none⟩ = some (.int .u64 (dg U 1 : Nat)) ∧ w5.cell? ⟨w.heap.size, 3, none⟩ = some (.int .u64 (dg U 2 : Nat)) ∧ w5.cell? ⟨w.heap.size, 4, none⟩ = some (.int .u64 (dg U 3 : Nat)) ∧ w5.cell? ⟨w.heap.size, 5, none⟩ = some (.int .u64 (dg U 4 : Nat)) ∧ w5.cell? ⟨w.heap.size, 6, none⟩ = some (.int .u64 (dg U 5 : Nat)) ∧ w5.cell? ⟨w.heap.size + 1, 0, none⟩ = some (.bool t) ∧ w5.cell? ⟨w.heap.size + 1, 1, none⟩ = some (.int .u64 (dg V 0 : Nat)) ∧ w5.cell? ⟨w.heap.size + 1, 2, none⟩ = some (.int .u64 (dg V 1 : Nat)) ∧ w5.cell? ⟨w.heap.size + 1, 3, none⟩ = some (.int .u64 (dg V 2 : Nat)) ∧ w5.cell? ⟨w.heap.size + 1, 4, none⟩ = some (.int .u64 (dg V 3 : Nat)) ∧ w5.cell? ⟨w.heap.size + 1, 5, none⟩ = some (.int .u64 (dg V 4 : Nat)) ∧ w5.cell? ⟨w.heap.size + 1, 6, none⟩ = some (.int .u64 (dg V 5 : Nat)) from fun w5 hb5 => by
    have HU5 := HU.out.below hb5 (by omega); have HV5 := HV.out.below hb5 (by omega)
    exact ⟨HU5.cell (i := 0) (by omega), HU5.cell (i := 1) (by omega), HU5.cell (i := 2) (by omega), HU5.cell (i := 3) (by omega), HU5.cell (i := 4) (by omega), HU5.cell (i := 5) (by omega), HU5.cell (i := 6) (by omega), HV5.cell (i := 0) (by omega), HV5.cell (i := 1) (by omega), HV5.cell (i := 2) (by omega), HV5.cell (i := 3) (by omega), HV5.cell (i := 4) (by omega), HV5.cell (i := 5) (by omega), HV5.cell (i := 6) (by omega)⟩)
  have HS : wq.cell? ⟨w.heap.size, 0, none⟩ = some (.bool s) ∧ wq.cell? ⟨w.heap.size, 1, none⟩ = some (.int .u64 (dg U 0 : Nat)) ∧ wq.cell? ⟨w.heap.size, 2, none⟩ = some (.int .u64 (dg U 1 : Nat)) ∧ wq.cell? ⟨w.heap.size, 3, none⟩ = some (.int .u64 (dg U 2 : Nat)) ∧ wq.cell? ⟨w.heap.size, 4, none⟩ = some (.int .u64 (dg U 3 : Nat)) ∧ wq.cell? ⟨w.heap.size, 5, none⟩ = some (.int .u64 (dg U 4 : Nat)) ∧ wq.cell? ⟨w.heap.size, 6, none⟩ = some (.int .u64 (dg U 5 : Nat)) ∧ wq.cell? ⟨w.heap.size + 1, 0, none⟩ = some (.bool t) ∧ wq.cell? ⟨w.heap.size + 1, 1, none⟩ = some (.int .u64 (dg V 0 : Nat)) ∧ wq.cell? ⟨w.heap.size + 1, 2, none⟩ = some (.int .u64 (dg V 1 : Nat)) ∧ wq.cell? ⟨w.heap.size + 1, 3, none⟩ = some (.int .u64 (dg V 2 : Nat)) ∧ wq.cell? ⟨w.heap.size + 1, 4, none⟩ = some (.int .u64 (dg V 3 : Nat)) ∧ wq.cell? ⟨w.heap.size + 1, 5, none⟩ = some (.int .u64 (dg V 4 : Nat)) ∧ wq.cell? ⟨w.heap.size + 1, 6, none⟩ = some (.int .u64 (dg V 5 : Nat)) := HSB.out wq (Below.refl _ _)
  go_wp2_with fail
  refine region_plain (fun w' => w'.cell? ⟨w.heap.size, 0, none⟩ = some (.bool s) ∧ w'.cell? ⟨w.heap.size, 1, none⟩ = some (.int .u64 (dg U 0 : Nat)) ∧ w'.cell? ⟨w.heap.size, 2, none⟩ = some (.int .u64 (dg U 1 : Nat)) ∧ w'.cell? ⟨w.heap.size, 3, none⟩ = some (.int .u64 (dg U 2 : Nat)) ∧ w'.cell? ⟨w.heap.size, 4, none⟩ = some (.int .u64 (dg U 3 : Nat)) ∧ w'.cell? ⟨w.heap.size, 5, none⟩ = some (.int .u64 (dg U 4 : Nat)) ∧ w'.cell? ⟨w.heap.size, 6, none⟩ = some (.int .u64 (dg U 5 : Nat)) ∧ w'.cell? ⟨w.heap.size + 1, 0, none⟩ = some (.bool t) ∧ w'.cell? ⟨w.heap.size + 1, 1, none⟩ = some (.int .u64 (dg V 0 : Nat)) ∧ w'.cell? ⟨w.heap.size + 1, 2, none⟩ = some (.int .u64 (dg V 1 : Nat)) ∧ w'.cell? ⟨w.heap.size + 1, 3, none⟩ = some (.int .u64 (dg V 2 : Nat)) ∧ w'.cell? ⟨w.heap.size + 1, 4, none⟩ = some (.int .u64 (dg V 3 : Nat)) ∧ w'.cell? ⟨w.heap.size + 1, 5, none⟩ = some (.int .u64 (dg V 4 : Nat)) ∧ w'.cell? ⟨w.heap.size + 1, 6, none⟩ = some (.int .u64 (dg V 5 : Nat))) (by kernel_rfl) ?_
  refine take_at (i := 0) (d := 5) (v := ?_) rfl rfl (by kernel_rfl) (by kernel_rfl) (by kernel_rfl) (fun _ _ _ _ => NormalOnly.any) rfl ?hy1 HS ?rest1
  case hy1 => intro w' hSw; (try dsimp only at hSw); go_simp; try (with_reducible rfl)
  try simp only [List.setIfInBounds_toArray, List.set_cons_zero, List.set_cons_succ]
  refine take_at (i := 1) (d := 6) (v := ?_) rfl rfl (by kernel_rfl) (by kernel_rfl) (by kernel_rfl) (fun _ _ _ _ => NormalOnly.any) rfl ?hy2 HS ?rest2
  case hy2 => intro w' hSw; (try dsimp only at hSw); go_simp; try (with_reducible rfl)
  try simp only [List.setIfInBounds_toArray, List.set_cons_zero, List.set_cons_succ]
  refine wpAnyH_ready (rs := [2]) (by kernel_rfl) (by simp) ?_
  refine AllReadyH.cons rfl (fun K hK => ?_) AllReadyH.nil
  go_simp
  refine (rneg_any t V _).mono ?_
  rintro e w3 ⟨rfl, hb3⟩
  have hb3 : Below wq.heap.size wq w3 := (Below.refl _ wq).drew.trans hb3
  refine hK.out _ _ (HSB.out _ hb3) (fun _ => ?_)
  clear hK
  refine wpAnyH_ready (rs := [3]) (by kernel_rfl) (by simp) ?_
  refine AllReadyH.cons rfl (fun K hK => ?_) AllReadyH.nil
  unfold wdC
  go_simp
  refine (rplus_any s U (!t) V _ (fit_128 (by have := H1.out; omega)) (fit_128 (by have := H2.out; omega))).mono ?_
  rintro e w4 ⟨r, W, rfl, hW, hle, hb4⟩
  have hb4 : Below wq.heap.size wq w4 := hb3.trans (hb4.mono hb3.size)
  refine hK.out _ _ (HSB.out _ hb4) (fun _ => ?_)
  clear hK
  refine wpAnyH_ready (rs := [4]) (by kernel_rfl) (by simp) ?_
  refine AllReadyH.cons rfl (fun K hK => ?_) AllReadyH.nil
  unfold wdC
  go_simp
  refine (rsign_any r W _ (fit_128 (by have := H1.out; have := H2.out; omega))).mono ?_
  rintro e w5 ⟨rfl, hb5⟩
  have hb5 : Below wq.heap.size wq w5 := hb4.trans (hb5.mono hb4.size)
  have HS := HSB.out _ hb5
  refine hK.out _ _ HS (fun _ => ?_)
  clear hK
  refine take_at (i := 5) (d := 4) (v := ?_) rfl rfl (by kernel_rfl) (by kernel_rfl) (by kernel_rfl) (fun _ _ _ _ => NormalOnly.any) rfl ?hy3 HS ?rest3
  case hy3 => intro w' hSw; (try dsimp only at hSw); go_simp; try (with_reducible rfl)
  try simp only [List.setIfInBounds_toArray, List.set_cons_zero, List.set_cons_succ]
  refine wpAnyH_done (by kernel_rfl) ⟨rfl, ?_⟩ _
  have HX := Lib.hid (show sgv r W = 0 ↔ wv s U = wv t V by rw [sgv_zero, hW, wv_not]; omega)
  clear HS hW hle
  go_wp2_with fail
  go_ret
  exact ⟨_, rfl, HX.out, HBq.out.trans (hb5.mono (by omega))⟩
theorem up_two {U : Nat} (h : Fit U) : up U 2 = 0 ↔ (dg U 2 = 0 ∧ dg U 3 = 0 ∧ dg U 4 = 0 ∧ dg U 5 = 0) := by
  have h2 := up_split U 2; have h3 := up_split U 3; have h4 := up_split U 4; have h5 := up_split U 5
  have h6 : up U (5 + 1) = 0 := h
  simp only [Nat.reduceAdd] at *
  omega
theorem low_two (U : Nat) : U = 18446744073709551616 * up U 2 + (dg U 1 * 4294967296 + dg U 0) := by
  have h0 := up_split U 0; have h1 := up_split U 1
  have e0 : up U 0 = U := rfl
  simp only [Nat.zero_add, Nat.reduceAdd] at *
  omega
/-- what Int answers -/
def IntRes (x : Int) (w : World) (e : Ending) (w' : World) : Prop := Below w.heap.size w w' ∧ ((inR x ∧ e = .returned (.tuple #[.int .i64 x, .bool true])) ∨ (¬ inR x ∧ e = .returned (.tuple #[.int .i64 0, .bool false])))
set_option maxRecDepth 100000 in
set_option maxHeartbeats 2000000 in
theorem rint_any (s : Bool) (U : Nat) (w : World) (hF : Fit U) :
    Calls Try.prog 47 #[.agg (wdC s U)] w (IntRes (wv s U) w) := by
  have hU := wd_row w s U 83
  obtain ⟨uu, huu⟩ : ∃ x, wdC s U = x := ⟨_, rfl⟩
  rw [huu] at hU ⊢
  have HU := Lib.hid hU
  have HBq := Lib.hid (show Below w.heap.size w (w.alloc (.cells uu 83)) from (Below.refl _ w).alloc (Nat.le_refl _) _)
  have H2 := Lib.hid (up_two hF)
  have HL := Lib.hid (low_two U)
  clear hU huu hF
  go_enter Try.func47, Try.ntmps47
  go_upto_region 1 with (fail)
  generalize w.alloc (.cells uu 83) = wq at *
  have u0 : wq.cell? ⟨w.heap.size, 0, none⟩ = some (.bool s) := HU.out.cell (i := 0) (by omega)
  have u1 : wq.cell? ⟨w.heap.size, 1, none⟩ = some (.int .u64 (dg U 0 : Nat)) := HU.out.cell (i := 1) (by omega)
  have u2 : wq.cell? ⟨w.heap.size, 2, none⟩ = some (.int .u64 (dg U 1 : Nat)) := HU.out.cell (i := 2) (by omega)
  have u3 : wq.cell? ⟨w.heap.size, 3, none⟩ = some (.int .u64 (dg U 2 : Nat)) := HU.out.cell (i := 3) (by omega)
  have u4 : wq.cell? ⟨w.heap.size, 4, none⟩ = some (.int .u64 (dg U 3 : Nat)) := HU.out.cell (i := 4) (by omega)
  have u5 : wq.cell? ⟨w.heap.size, 5, none⟩ = some (.int .u64 (dg U 4 : Nat)) := HU.out.cell (i := 5) (by omega)
  have u6 : wq.cell? ⟨w.heap.size, 6, none⟩ = some (.int .u64 (dg U 5 : Nat)) := HU.out.cell (i := 6) (by omega)
  have l0 := dg_lt U 0; have l1 := dg_lt U 1
  generalize dg U 0 = d0 at *
  generalize dg U 1 = d1 at *
  generalize dg U 2 = d2 at *
  generalize dg U 3 = d3 at *
  generalize dg U 4 = d4 at *
  generalize dg U 5 = d5 at *
  have big : ¬ (d2 = 0 ∧ d3 = 0 ∧ d4 = 0 ∧ d5 = 0) → ¬ inR (wv s U) := fun h => by
    have h1 : up U 2 ≠ 0 := fun c => h (H2.out.1 c)
    have h2 := HL.out
    unfold inR wv
    cases s <;> simp <;> omega
  have HBig := Lib.hid big
  clear big
  by_cases e2 : d2 = 0
  · have k2 : ((d2 : Int) != 0) = false := by simp [e2]
    by_cases e3 : d3 = 0
    · have k3 : ((d3 : Int) != 0) = false := by simp [e3]
      by_cases e4 : d4 = 0
      · have k4 : ((d4 : Int) != 0) = false := by simp [e4]
        by_cases e5 : d5 = 0
        · have k5 : ((d5 : Int) != 0) = false := by simp [e5]
          have hUv : U = d1 * 4294967296 + d0 := by have h1 := H2.out.2 ⟨e2, e3, e4, e5⟩; have h2 := HL.out; rw [h1] at h2; omega
          have HUv := Lib.hid hUv
          have m1 : IntKind.u64.wrap ((d1 : Int) * 4294967296) = (d1 : Int) * 4294967296 := IntWalk.u64_in _ (by omega)
          have m2 : IntKind.u64.wrap ((d1 : Int) * 4294967296 + (d0 : Int)) = (U : Int) := by rw [IntWalk.u64_in _ (by omega)]; omega
          have m3 : (d1 : Int) * 4294967296 + (d0 : Int) = (U : Int) := by omega
          have hu64 : (0 : Int) ≤ (U : Int) ∧ (U : Int) ≤ 18446744073709551615 := by omega
          clear e2 e3 e4 e5 hUv
          cases s with
          | false =>
            by_cases hg : 9223372036854775807 < U
            · have g1 : decide ((U : Int) > 9223372036854775807) = true := decide_eq_true (by omega)
              have HN := Lib.hid (show ¬ inR (wv false U) by unfold inR wv; simp; omega)
              clear hg
              go_wp2_with fail
              go_ret2
              exact ⟨HBq.out, .inr ⟨HN.out, rfl⟩⟩
            · have g1 : decide ((U : Int) > 9223372036854775807) = false := decide_eq_false (by omega)
              have HN := Lib.hid (show inR (wv false U) by unfold inR wv; simp; omega)
              have hg2 : (U : Int) ≤ 9223372036854775807 := by omega
              clear hg
              go_wp2_with fail
              go_ret2
              exact ⟨HBq.out, .inl ⟨HN.out, rfl⟩⟩
          | true =>
            by_cases hg : 9223372036854775808 < U
            · have g1 : decide ((U : Int) > 9223372036854775808) = true := decide_eq_true (by omega)
              have HN := Lib.hid (show ¬ inR (wv true U) by unfold inR wv; simp; omega)
              clear hg
              go_wp2_with fail
              go_ret2
              exact ⟨HBq.out, .inr ⟨HN.out, rfl⟩⟩
            · have g1 : decide ((U : Int) > 9223372036854775808) = false := decide_eq_false (by omega)
              have HN := Lib.hid (show inR (wv true U) by unfold inR wv; simp; omega)
              have hg2 : (U : Int) ≤ 9223372036854775808 := by omega
              by_cases h0 : U = 0
              · have q0 : ((U : Int) == 0) = true := by simp [h0]
                have HE := Lib.hid (show wv true U = 0 by rw [h0]; rfl)
                clear h0 hg
                go_wp2_with fail
                go_ret2
                exact ⟨HBq.out, .inl ⟨HN.out, by rw [HE.out]; rfl⟩⟩
              · have q0 : ((U : Int) == 0) = false := by simp; omega
                have HE := Lib.hid (show -((U : Int) - 1) - 1 = wv true U by unfold wv; simp; omega)
                have hp1 : 1 ≤ (U : Int) := by omega
                clear h0 hg
                go_wp2_with fail
                go_ret2
                exact ⟨HBq.out, .inl ⟨HN.out, by rw [← HE.out]; rfl⟩⟩
        · have k5 : ((d5 : Int) != 0) = true := by simp; omega
          have HN := Lib.hid (HBig.out fun c => e5 c.2.2.2)
          clear e2 e3 e4 e5
          go_wp2_with fail
          go_ret2
          exact ⟨HBq.out, .inr ⟨HN.out, rfl⟩⟩
      · have k4 : ((d4 : Int) != 0) = true := by simp; omega
        have HN := Lib.hid (HBig.out fun c => e4 c.2.2.1)
        clear e2 e3 e4
        go_wp2_with fail
        go_ret2
        exact ⟨HBq.out, .inr ⟨HN.out, rfl⟩⟩
    · have k3 : ((d3 : Int) != 0) = true := by simp; omega
      have HN := Lib.hid (HBig.out fun c => e3 c.2.1)
      clear e2 e3
      go_wp2_with fail
      go_ret2
      exact ⟨HBq.out, .inr ⟨HN.out, rfl⟩⟩
  · have k2 : ((d2 : Int) != 0) = true := by simp; omega
    have HN := Lib.hid (HBig.out fun c => e2 c.1)
    clear e2
    go_wp2_with fail
    go_ret2
    exact ⟨HBq.out, .inr ⟨HN.out, rfl⟩⟩
end Go.Proofs.Ytbmcflmflmlmaaa
