/- The walk of the law ClusterGrows. Conditions: the links are in range. -/
import Derived.Test.YtibdggbejogciaaCvB
import Derived.Test.YtibdggbejogciaaCk
import Derived.Test.YtibdggbejogciaaCvPl
namespace Go.Proofs.Ytibdggbejogciaa
open Go.RowKit

set_option maxRecDepth 100000 in
set_option maxHeartbeats 4000000 in
theorem cgrows_walk (B : Nat) (a : Option Addr) (cap : Nat) (A : Nat → Addr) (L : List Lk) (θ η : Int) (w : World) (hS : LS w B (.slice a L.length cap) L A) (hB : B ≤ w.heap.size) (hr : LkR L) :
    Calls Try.prog 4 #[.slice a L.length cap, .int .i64 θ, .int .i64 η] w fun e w' => e = .returned (.bool true) ∧ Below w.heap.size w w' := by
  have HS := Lib.hid hS; have HR := Lib.hid hr
  clear hS hr
  by_cases hl : L.length ≤ 120
  · have k0 : decide ((L.length : Int) > 120) = false := decide_eq_false (by omega)
    have k0' : decide ((120 : Int) < (L.length : Int)) = false := decide_eq_false (by omega)
    by_cases hg : θ > η
    · have hle : η ≤ θ := by omega
      have k1 : decide (θ > η) = true := decide_eq_true hg
      have k1' : decide (η < θ) = true := decide_eq_true hg
      go_enter Try.func4, Try.ntmps4
      go_wp2_with fail
      refine (made_any B a cap A L w HS.out hB HR.out (by omega)).mono ?_
      rintro e w1 ⟨vb, rfl, hv, b1⟩
      have HV1 := Lib.hid hv; have B1 := Lib.hid b1
      clear hv b1
      go_wp2_with fail
      refine (clabels_any vb 30 _ η w1 HV1.out).mono ?_
      rintro e w2 ⟨v2, rfl, hl2, b2⟩
      obtain ⟨la, lc, LA, rfl, hLA⟩ := hl2.rd
      have HV2 := Lib.hid (HV1.out.at b2); have B2 := Lib.hid (B1.out.trans (b2.mono B1.out.size))
      have HLA2 := Lib.hid hLA
      clear hl2 hLA b2 HV1 B1
      go_wp2_with fail
      refine (clabels_any vb 30 _ θ w2 HV2.out).mono ?_
      rintro e w3 ⟨v3, rfl, hl3, b3⟩
      obtain ⟨ra, rc, RA, rfl, hRA⟩ := hl3.rd
      have HV3 := Lib.hid (HV2.out.at b3); have B3 := Lib.hid (B2.out.trans (b3.mono B2.out.size))
      have HLA3 := Lib.hid ((HLA2.out.below b3).mono b3.size)
      have HRA3 := Lib.hid hRA
      clear hl3 hRA b3 HV2 B2 HLA2
      go_wp2_with fail
      refine (cv_count HV3.out η).mono ?_
      rintro e w4 ⟨rfl, b4⟩
      have HV4 := Lib.hid (HV3.out.at b4); have B4 := Lib.hid (B3.out.trans (b4.mono B3.out.size))
      have HLA4 := Lib.hid ((HLA3.out.below b4).mono b4.size)
      have HRA4 := Lib.hid ((HRA3.out.below b4).mono b4.size)
      clear b4 HV3 B3 HLA3 HRA3
      go_wp2_with fail
      refine (cv_count HV4.out θ).mono ?_
      rintro e w5 ⟨rfl, b5⟩
      have B5 := Lib.hid (B4.out.trans (b5.mono B4.out.size))
      have HLA5 := Lib.hid ((HLA4.out.below b5).mono b5.size)
      have HRA5 := Lib.hid ((HRA4.out.below b5).mono b5.size)
      have hcc : decide ((cntN 30 (lbW (bltE 30 L) η) : Int) < (cntN 30 (lbW (bltE 30 L) θ) : Int)) = false := by
        have := cntW_le (n := 30) (E := bltE 30 L) hle
        exact decide_eq_false (by omega)
      have hcc' : decide (cntN 30 (lbW (bltE 30 L) η) < cntN 30 (lbW (bltE 30 L) θ)) = false := by
        have := cntW_le (n := 30) (E := bltE 30 L) hle
        exact decide_eq_false (by omega)
      clear b5 HV4 B4 HLA4 HRA4
      go_wp2_with fail
      go_loopw [10] (fun iv wr => ∃ k : Nat, k ≤ 30 ∧ iv = .int .i64 (k : Nat) ∧ Hid (∃ q, wr = w5.drewN q)) (fun iv _ => 30 - (intOf iv).toNat)
      case atStart => exact ⟨0, by omega, rfl, Lib.hid ⟨0, rfl⟩⟩
      case round =>
        obtain ⟨k, hk, rfl, HW⟩ := hrel
        by_cases hlt : k < 30
        · have bel : Below w5.heap.size w5 wr := by obtain ⟨q, rfl⟩ := HW.out; exact below_drewN (Below.refl _ _) _
          have hL := HLA5.out.below bel
          have hR := HRA5.out.below bel
          obtain ⟨x, hx⟩ : ∃ x, lbW (bltE 30 L) η k = x := ⟨_, rfl⟩
          obtain ⟨y, hy⟩ : ∃ y, lbW (bltE 30 L) θ k = y := ⟨_, rfl⟩
          have hc := lbW_coarse (E := bltE 30 L) hle k
          have hxk := lbW_le (E := bltE 30 L) η k
          have i1 := hL.ix k hlt
          have i2 := hR.ix k hlt
          have l1 := lab_cell hL hlt
          have l2 := lab_cell hR hlt
          rw [hx] at hc hxk l1
          rw [hy] at hc l2
          have hx30 : x < 30 := by omega
          have i3 := hR.ix x hx30
          have l3 := lab_cell hR hx30
          rw [hc.1] at l3
          have k1 : decide ((x : Int) < 0) = false := decide_eq_false (by omega)
          have k2 : decide ((x : Int) > (k : Int)) = false := decide_eq_false (by omega)
          have k3 : ((y : Int) != (y : Int)) = false := by simp
          have k4 : decide ((y : Int) > (x : Int)) = false := decide_eq_false (by omega)
          have k2' : decide ((k : Int) < (x : Int)) = false := decide_eq_false (by omega)
          have k4' : decide ((x : Int) < (y : Int)) = false := decide_eq_false (by omega)
          have k2n : decide (k < x) = false := decide_eq_false (by omega)
          have k4n : decide (x < y) = false := decide_eq_false (by omega)
          clear hL hR bel hx hy hc
          go_wp2_with fail
          go_quiet (fail)
          go_wp2_with fail
          go_roundw
          case rel =>
            refine ⟨k + 1, by omega, by go_num, Lib.hid ?_⟩
            obtain ⟨q, rfl⟩ := HW.out
            exact ⟨_, World.drewN_drewN _ _ _⟩
          case measure => simp only [intOf]; omega
        · have hkn : k = 30 := by omega
          subst hkn
          go_wp2_with fail
          refine (works_any wr).mono ?_
          rintro e w6 ⟨rfl, b6⟩
          go_wp2_with fail
          go_ret
          refine ⟨rfl, ?_⟩
          obtain ⟨q, rfl⟩ := HW.out
          exact (below_drewN B5.out q).trans (b6.mono (by have := B5.out.size; simpa using this))
    · have hle : θ ≤ η := by omega
      have k1 : decide (θ > η) = false := decide_eq_false hg
      have k1' : decide (η < θ) = false := decide_eq_false hg
      go_enter Try.func4, Try.ntmps4
      go_wp2_with fail
      refine (made_any B a cap A L w HS.out hB HR.out (by omega)).mono ?_
      rintro e w1 ⟨vb, rfl, hv, b1⟩
      have HV1 := Lib.hid hv; have B1 := Lib.hid b1
      clear hv b1
      go_wp2_with fail
      refine (clabels_any vb 30 _ θ w1 HV1.out).mono ?_
      rintro e w2 ⟨v2, rfl, hl2, b2⟩
      obtain ⟨la, lc, LA, rfl, hLA⟩ := hl2.rd
      have HV2 := Lib.hid (HV1.out.at b2); have B2 := Lib.hid (B1.out.trans (b2.mono B1.out.size))
      have HLA2 := Lib.hid hLA
      clear hl2 hLA b2 HV1 B1
      go_wp2_with fail
      refine (clabels_any vb 30 _ η w2 HV2.out).mono ?_
      rintro e w3 ⟨v3, rfl, hl3, b3⟩
      obtain ⟨ra, rc, RA, rfl, hRA⟩ := hl3.rd
      have HV3 := Lib.hid (HV2.out.at b3); have B3 := Lib.hid (B2.out.trans (b3.mono B2.out.size))
      have HLA3 := Lib.hid ((HLA2.out.below b3).mono b3.size)
      have HRA3 := Lib.hid hRA
      clear hl3 hRA b3 HV2 B2 HLA2
      go_wp2_with fail
      refine (cv_count HV3.out θ).mono ?_
      rintro e w4 ⟨rfl, b4⟩
      have HV4 := Lib.hid (HV3.out.at b4); have B4 := Lib.hid (B3.out.trans (b4.mono B3.out.size))
      have HLA4 := Lib.hid ((HLA3.out.below b4).mono b4.size)
      have HRA4 := Lib.hid ((HRA3.out.below b4).mono b4.size)
      clear b4 HV3 B3 HLA3 HRA3
      go_wp2_with fail
      refine (cv_count HV4.out η).mono ?_
      rintro e w5 ⟨rfl, b5⟩
      have B5 := Lib.hid (B4.out.trans (b5.mono B4.out.size))
      have HLA5 := Lib.hid ((HLA4.out.below b5).mono b5.size)
      have HRA5 := Lib.hid ((HRA4.out.below b5).mono b5.size)
      have hcc : decide ((cntN 30 (lbW (bltE 30 L) θ) : Int) < (cntN 30 (lbW (bltE 30 L) η) : Int)) = false := by
        have := cntW_le (n := 30) (E := bltE 30 L) hle
        exact decide_eq_false (by omega)
      have hcc' : decide (cntN 30 (lbW (bltE 30 L) θ) < cntN 30 (lbW (bltE 30 L) η)) = false := by
        have := cntW_le (n := 30) (E := bltE 30 L) hle
        exact decide_eq_false (by omega)
      clear b5 HV4 B4 HLA4 HRA4
      go_wp2_with fail
      go_loopw [10] (fun iv wr => ∃ k : Nat, k ≤ 30 ∧ iv = .int .i64 (k : Nat) ∧ Hid (∃ q, wr = w5.drewN q)) (fun iv _ => 30 - (intOf iv).toNat)
      case atStart => exact ⟨0, by omega, rfl, Lib.hid ⟨0, rfl⟩⟩
      case round =>
        obtain ⟨k, hk, rfl, HW⟩ := hrel
        by_cases hlt : k < 30
        · have bel : Below w5.heap.size w5 wr := by obtain ⟨q, rfl⟩ := HW.out; exact below_drewN (Below.refl _ _) _
          have hL := HLA5.out.below bel
          have hR := HRA5.out.below bel
          obtain ⟨x, hx⟩ : ∃ x, lbW (bltE 30 L) θ k = x := ⟨_, rfl⟩
          obtain ⟨y, hy⟩ : ∃ y, lbW (bltE 30 L) η k = y := ⟨_, rfl⟩
          have hc := lbW_coarse (E := bltE 30 L) hle k
          have hxk := lbW_le (E := bltE 30 L) θ k
          have i1 := hL.ix k hlt
          have i2 := hR.ix k hlt
          have l1 := lab_cell hL hlt
          have l2 := lab_cell hR hlt
          rw [hx] at hc hxk l1
          rw [hy] at hc l2
          have hx30 : x < 30 := by omega
          have i3 := hR.ix x hx30
          have l3 := lab_cell hR hx30
          rw [hc.1] at l3
          have k1 : decide ((x : Int) < 0) = false := decide_eq_false (by omega)
          have k2 : decide ((x : Int) > (k : Int)) = false := decide_eq_false (by omega)
          have k3 : ((y : Int) != (y : Int)) = false := by simp
          have k4 : decide ((y : Int) > (x : Int)) = false := decide_eq_false (by omega)
          have k2' : decide ((k : Int) < (x : Int)) = false := decide_eq_false (by omega)
          have k4' : decide ((x : Int) < (y : Int)) = false := decide_eq_false (by omega)
          have k2n : decide (k < x) = false := decide_eq_false (by omega)
          have k4n : decide (x < y) = false := decide_eq_false (by omega)
          clear hL hR bel hx hy hc
          go_wp2_with fail
          go_quiet (fail)
          go_wp2_with fail
          go_roundw
          case rel =>
            refine ⟨k + 1, by omega, by go_num, Lib.hid ?_⟩
            obtain ⟨q, rfl⟩ := HW.out
            exact ⟨_, World.drewN_drewN _ _ _⟩
          case measure => simp only [intOf]; omega
        · have hkn : k = 30 := by omega
          subst hkn
          go_wp2_with fail
          refine (works_any wr).mono ?_
          rintro e w6 ⟨rfl, b6⟩
          go_wp2_with fail
          go_ret
          refine ⟨rfl, ?_⟩
          obtain ⟨q, rfl⟩ := HW.out
          exact (below_drewN B5.out q).trans (b6.mono (by have := B5.out.size; simpa using this))
  · have k0 : decide ((L.length : Int) > 120) = true := decide_eq_true (by omega)
    have k0' : decide ((120 : Int) < (L.length : Int)) = true := decide_eq_true (by omega)
    go_enter Try.func4, Try.ntmps4
    go_wp2_with fail
    refine (works_any w).mono ?_
    rintro e w1 ⟨rfl, b1⟩
    go_wp2_with fail
    go_ret
    exact ⟨rfl, b1⟩
end Go.Proofs.Ytibdggbejogciaa
