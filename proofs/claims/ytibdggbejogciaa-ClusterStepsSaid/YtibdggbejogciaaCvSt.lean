/- The walk of the law ClusterSteps. Conditions: the links are in range. -/
import Derived.Test.YtibdggbejogciaaCvB
import Derived.Test.YtibdggbejogciaaCk
import Derived.Test.YtibdggbejogciaaCvPs
import Derived.IntWalk
import Derived.Lib.SlicesCompact
namespace Go.Proofs.Ytibdggbejogciaa
open Go.RowKit Go.Lib

theorem cpt_len (d : Array Int) (m : Nat) : (compactUpTo d m).length ≤ m := by
  unfold compactUpTo
  rw [List.length_map]
  have := List.length_filter_le (keeps d) (List.range m)
  rwa [List.length_range] at this
theorem stp_len (E : List Ed) (f : List Nat) : (stp E f).length ≤ f.length := by
  have := cpt_len (ws E f).toArray (ws E f).length
  rw [ws_len] at this; unfold stp; rw [ws_len]; exact this
set_option maxRecDepth 100000 in
set_option maxHeartbeats 8000000 in
theorem csteps_walk (B : Nat) (a : Option Addr) (cap : Nat) (A : Nat → Addr) (L : List Lk) (θ η : Int) (w : World) (hS : LS w B (.slice a L.length cap) L A) (hB : B ≤ w.heap.size) (hr : LkR L) :
    Calls Try.prog 6 #[.slice a L.length cap, .int .i64 θ, .int .i64 η] w fun e w' => e = .returned (.bool true) ∧ Below w.heap.size w w' := by
  have HS := Lib.hid hS; have HR := Lib.hid hr
  clear hS hr
  by_cases hl : L.length ≤ 120
  · have k0 : decide ((L.length : Int) > 120) = false := decide_eq_false (by omega)
    have k0' : decide ((120 : Int) < (L.length : Int)) = false := decide_eq_false (by omega)
    by_cases hg : θ > η
    · have hle : η ≤ θ := by omega
      have k1 : decide (θ > η) = true := decide_eq_true hg
      have k1' : decide (η < θ) = true := decide_eq_true hg
      go_enter Try.func6, Try.ntmps6
      go_wp2_with fail
      refine (made_any B a cap A L w HS.out hB HR.out (by omega)).mono ?_
      rintro e w1 ⟨vb, rfl, hv, b1⟩
      have HV1 := Lib.hid hv; have B1 := Lib.hid b1
      clear hv b1
      go_wp2_with fail
      refine (steps_any vb 30 _ w1 HV1.out).mono ?_
      rintro e w2 ⟨o, ho, hs⟩
      obtain ⟨sa, sc, SA, rfl, hS2, b2⟩ := hs.rds
      have hsl := steps_law HV1.out.ok ho hle
      have hup := stp_up ho
      obtain ⟨l, hl⟩ : ∃ l, stp (bltE 30 L) (frs (bltE 30 L) o) = l := ⟨_, rfl⟩
      have hll : l.length ≤ 16384 := by
        have h1 := stp_len (bltE 30 L) (frs (bltE 30 L) o)
        have h2 := frs_len (bltE 30 L) o
        have h3 := ho.perm.length_eq
        rw [List.length_range] at h3
        have h4 := bltE_len 30 L
        rw [hl] at h1; omega
      rw [hl] at hS2 hsl hup ⊢
      obtain ⟨n, hn⟩ : ∃ n, l.length = n := ⟨_, rfl⟩
      rw [hn] at hS2 hll ⊢
      have HL := Lib.hid hsl; have HU := Lib.hid hup; have HSt := Lib.hid hS2; have HNn := Lib.hid hn
      have HV2 := Lib.hid (HV1.out.at b2); have B2 := Lib.hid (B1.out.trans (b2.mono B1.out.size))
      clear hs hsl hup hS2 hn b2 HV1 B1 hl ho
      go_wp2_with fail
      go_loopw [9, 10] (fun bv iv wr => ∃ k : Nat, k ≤ n ∧ iv = .int .i64 (k : Nat) ∧ bv = .bool (btw (l.take k) η θ) ∧ Hid (Below w2.heap.size w2 wr)) (fun _ iv _ => n - (intOf iv).toNat)
      case atStart => exact ⟨0, Nat.zero_le _, rfl, rfl, Lib.hid (Below.refl _ _)⟩
      case round =>
        obtain ⟨k, hk, rfl, rfl, BW⟩ := hrel
        by_cases hlt : k < n
        · have hR := HSt.out.below BW.out
          have i1 := hR.ix k hlt
          have l1 := hR.cell k hlt 0 (by omega)
          rw [add_zero] at l1
          unfold nums at l1
          have hT := btw_take (l := l) (θ := η) (η := θ) (k := k) (by have := HNn.out; omega)
          obtain ⟨x, hx⟩ : ∃ x, nth l k = x := ⟨_, rfl⟩
          rw [hx] at l1 hT
          have HT := Lib.hid hT
          have hstart : (k = 0 ∧ decide ((k : Int) > 0) = false ∧ decide ((0 : Int) < k) = false ∧ decide (0 < k) = false) ∨ ∃ j, k = j + 1 := by
            by_cases h0 : k = 0
            · exact .inl ⟨h0, decide_eq_false (by omega), decide_eq_false (by omega), decide_eq_false (by omega)⟩
            · exact .inr ⟨k - 1, by omega⟩
          rcases hstart with ⟨h0, kz, kz', kz''⟩ | ⟨j, hkj⟩
          · clear hR hT h0
            by_cases hc : η < x
            · have d1 : decide (x > η) = true := decide_eq_true hc
              have d1' : decide (η < x) = true := decide_eq_true hc
              by_cases hc2 : x ≤ θ
              · have d2 : decide (x ≤ θ) = true := decide_eq_true hc2
                rw [d1', d2, Bool.and_self, Bool.or_true] at HT
                go_wp2_with fail
                go_quiet (fail)
                go_wp2_with fail
                go_roundw
                case rel => exact ⟨k + 1, by omega, by go_num, by first | rw [HT.out] | rfl, Lib.hid (below_drewN BW.out _)⟩
                case measure => simp only [intOf]; omega
              · have d2 : decide (x ≤ θ) = false := decide_eq_false hc2
                rw [d1', d2, Bool.and_false, Bool.or_false] at HT
                go_wp2_with fail
                go_quiet (fail)
                go_wp2_with fail
                go_roundw
                case rel => exact ⟨k + 1, by omega, by go_num, by first | rw [HT.out] | rfl, Lib.hid (below_drewN BW.out _)⟩
                case measure => simp only [intOf]; omega
            · have d1 : decide (x > η) = false := decide_eq_false hc
              have d1' : decide (η < x) = false := decide_eq_false hc
              rw [d1', Bool.false_and, Bool.or_false] at HT
              go_wp2_with fail
              go_quiet (fail)
              go_wp2_with fail
              go_roundw
              case rel => exact ⟨k + 1, by omega, by go_num, by first | rw [HT.out] | rfl, Lib.hid (below_drewN BW.out _)⟩
              case measure => simp only [intOf]; omega
          · have kz : decide ((k : Int) > 0) = true := decide_eq_true (by omega)
            have kz' : decide ((0 : Int) < (k : Int)) = true := decide_eq_true (by omega)
            have kz2 : decide (0 < k) = true := decide_eq_true (by omega)
            have hw1 : IntKind.i64.wrap ((k : Int) - 1) = ((j : Nat) : Int) := by rw [IntWalk.i64_in _ (by omega)]; omega
            have i2 := hR.ix j (by omega)
            have l2 := hR.cell j (by omega) 0 (by omega)
            rw [add_zero] at l2
            unfold nums at l2
            have hy := up_nth HU.out (k := j) (by have := HNn.out; omega)
            rw [← hkj, hx] at hy
            obtain ⟨y, hyy⟩ : ∃ y, nth l j = y := ⟨_, rfl⟩
            rw [hyy] at hy l2
            have d0 : decide (y ≥ x) = false := decide_eq_false (by omega)
            have d0' : decide (x ≤ y) = false := decide_eq_false (by omega)
            clear hR hT hkj
            by_cases hc : η < x
            · have d1 : decide (x > η) = true := decide_eq_true hc
              have d1' : decide (η < x) = true := decide_eq_true hc
              by_cases hc2 : x ≤ θ
              · have d2 : decide (x ≤ θ) = true := decide_eq_true hc2
                rw [d1', d2, Bool.and_self, Bool.or_true] at HT
                go_wp2_with fail
                go_quiet (fail)
                go_wp2_with fail
                go_roundw
                case rel => exact ⟨k + 1, by omega, by go_num, by first | rw [HT.out] | rfl, Lib.hid (below_drewN BW.out _)⟩
                case measure => simp only [intOf]; omega
              · have d2 : decide (x ≤ θ) = false := decide_eq_false hc2
                rw [d1', d2, Bool.and_false, Bool.or_false] at HT
                go_wp2_with fail
                go_quiet (fail)
                go_wp2_with fail
                go_roundw
                case rel => exact ⟨k + 1, by omega, by go_num, by first | rw [HT.out] | rfl, Lib.hid (below_drewN BW.out _)⟩
                case measure => simp only [intOf]; omega
            · have d1 : decide (x > η) = false := decide_eq_false hc
              have d1' : decide (η < x) = false := decide_eq_false hc
              rw [d1', Bool.false_and, Bool.or_false] at HT
              go_wp2_with fail
              go_quiet (fail)
              go_wp2_with fail
              go_roundw
              case rel => exact ⟨k + 1, by omega, by go_num, by first | rw [HT.out] | rfl, Lib.hid (below_drewN BW.out _)⟩
              case measure => simp only [intOf]; omega
        · have hkn : k = n := by omega
          subst hkn
          rw [List.take_of_length_le (by have := HNn.out; omega)]
          rcases HL.out with ⟨h1, h2, h3⟩ | ⟨h1, h2, h3⟩
          · rw [h1]
            have HE := Lib.hid h2; have HC := Lib.hid h3
            clear h1 h2 h3 HL HSt
            go_wp2_with fail
            refine (clabels_any vb 30 _ η wr (HV2.out.at BW.out)).mono ?_
            rintro e w3 ⟨v3, rfl, hl3, b3⟩
            obtain ⟨la, lc, LA, rfl, hLA⟩ := hl3.rd
            have HV3 := Lib.hid ((HV2.out.at BW.out).at b3)
            have B3 := Lib.hid ((B2.out.trans (BW.out.mono B2.out.size)).trans (b3.mono (Nat.le_trans B2.out.size BW.out.size)))
            have HLA3 := Lib.hid hLA
            clear hl3 hLA b3 HV2 B2 BW
            go_wp2_with fail
            refine (clabels_any vb 30 _ θ w3 HV3.out).mono ?_
            rintro e w4 ⟨v4, rfl, hl4, b4⟩
            obtain ⟨ra, rc, RA, rfl, hRA⟩ := hl4.rd
            have HV4 := Lib.hid (HV3.out.at b4)
            have B4 := Lib.hid (B3.out.trans (b4.mono B3.out.size))
            have HN := Lib.hid (numbers_n w4.heap.size 30 30 la ra lc rc LA RA _ _ w4 (by rw [intsN_len, labs_len]) (by rw [intsN_len, labs_len]) ((HLA3.out.below b4).mono b4.size) hRA (by decide))
            clear hl4 hRA b4 HV3 B3 HLA3
            go_wp2_with fail
            refine HN.out.mono ?_
            rintro e w5 ⟨rfl, q, rfl⟩
            rw [decide_eq_true HE.out]
            have HV5 := Lib.hid (HV4.out.at (below_drewN (Below.refl _ _) q))
            have B5 := Lib.hid (below_drewN B4.out q)
            obtain ⟨w5, hw5⟩ : ∃ x, x = w4.drewN q := ⟨_, rfl⟩
            rw [← hw5] at HV5 B5 ⊢
            clear hw5 HN HV4 B4
            go_wp2_with fail
            refine (cv_count HV5.out η).mono ?_
            rintro e w6 ⟨rfl, b6⟩
            have HV6 := Lib.hid (HV5.out.at b6)
            have B6 := Lib.hid (B5.out.trans (b6.mono B5.out.size))
            clear HV5 B5 b6
            go_wp2_with fail
            refine (cv_count HV6.out θ).mono ?_
            rintro e w7 ⟨rfl, b7⟩
            have B7 := Lib.hid (B6.out.trans (b7.mono B6.out.size))
            have kc : (((cntN 30 (lbW (bltE 30 L) η) : Nat) : Int) == ((cntN 30 (lbW (bltE 30 L) θ) : Nat) : Int)) = true := by rw [HC.out]; simp
            have kc' : (cntN 30 (lbW (bltE 30 L) η) == cntN 30 (lbW (bltE 30 L) θ)) = true := by rw [HC.out]; simp
            have kc2 : decide (cntN 30 (lbW (bltE 30 L) η) = cntN 30 (lbW (bltE 30 L) θ)) = true := decide_eq_true HC.out
            clear HV6 B6 b7
            go_wp2_with fail
            refine (works_any w7).mono ?_
            rintro e w8 ⟨rfl, b8⟩
            go_wp2_with fail
            go_ret
            exact ⟨rfl, B7.out.trans (b8.mono B7.out.size)⟩
          · rw [h1]
            have HE := Lib.hid h2; have HC := Lib.hid h3
            clear h1 h2 h3 HL HSt
            go_wp2_with fail
            refine (clabels_any vb 30 _ η wr (HV2.out.at BW.out)).mono ?_
            rintro e w3 ⟨v3, rfl, hl3, b3⟩
            obtain ⟨la, lc, LA, rfl, hLA⟩ := hl3.rd
            have HV3 := Lib.hid ((HV2.out.at BW.out).at b3)
            have B3 := Lib.hid ((B2.out.trans (BW.out.mono B2.out.size)).trans (b3.mono (Nat.le_trans B2.out.size BW.out.size)))
            have HLA3 := Lib.hid hLA
            clear hl3 hLA b3 HV2 B2 BW
            go_wp2_with fail
            refine (clabels_any vb 30 _ θ w3 HV3.out).mono ?_
            rintro e w4 ⟨v4, rfl, hl4, b4⟩
            obtain ⟨ra, rc, RA, rfl, hRA⟩ := hl4.rd
            have HV4 := Lib.hid (HV3.out.at b4)
            have B4 := Lib.hid (B3.out.trans (b4.mono B3.out.size))
            have HN := Lib.hid (numbers_n w4.heap.size 30 30 la ra lc rc LA RA _ _ w4 (by rw [intsN_len, labs_len]) (by rw [intsN_len, labs_len]) ((HLA3.out.below b4).mono b4.size) hRA (by decide))
            clear hl4 hRA b4 HV3 B3 HLA3
            go_wp2_with fail
            refine HN.out.mono ?_
            rintro e w5 ⟨rfl, q, rfl⟩
            rw [decide_eq_false HE.out]
            have HV5 := Lib.hid (HV4.out.at (below_drewN (Below.refl _ _) q))
            have B5 := Lib.hid (below_drewN B4.out q)
            obtain ⟨w5, hw5⟩ : ∃ x, x = w4.drewN q := ⟨_, rfl⟩
            rw [← hw5] at HV5 B5 ⊢
            clear hw5 HN HV4 B4
            go_wp2_with fail
            refine (cv_count HV5.out η).mono ?_
            rintro e w6 ⟨rfl, b6⟩
            have HV6 := Lib.hid (HV5.out.at b6)
            have B6 := Lib.hid (B5.out.trans (b6.mono B5.out.size))
            clear HV5 B5 b6
            go_wp2_with fail
            refine (cv_count HV6.out θ).mono ?_
            rintro e w7 ⟨rfl, b7⟩
            have B7 := Lib.hid (B6.out.trans (b7.mono B6.out.size))
            have kc : (((cntN 30 (lbW (bltE 30 L) η) : Nat) : Int) == ((cntN 30 (lbW (bltE 30 L) θ) : Nat) : Int)) = false := by have := HC.out; simp; omega
            have kc' : (cntN 30 (lbW (bltE 30 L) η) == cntN 30 (lbW (bltE 30 L) θ)) = false := by have := HC.out; simp; omega
            have kc2 : decide (cntN 30 (lbW (bltE 30 L) η) = cntN 30 (lbW (bltE 30 L) θ)) = false := decide_eq_false HC.out
            clear HV6 B6 b7
            go_wp2_with fail
            refine (works_any w7).mono ?_
            rintro e w8 ⟨rfl, b8⟩
            go_wp2_with fail
            go_ret
            exact ⟨rfl, B7.out.trans (b8.mono B7.out.size)⟩
    · have hle : θ ≤ η := by omega
      have k1 : decide (θ > η) = false := decide_eq_false hg
      have k1' : decide (η < θ) = false := decide_eq_false hg
      go_enter Try.func6, Try.ntmps6
      go_wp2_with fail
      refine (made_any B a cap A L w HS.out hB HR.out (by omega)).mono ?_
      rintro e w1 ⟨vb, rfl, hv, b1⟩
      have HV1 := Lib.hid hv; have B1 := Lib.hid b1
      clear hv b1
      go_wp2_with fail
      refine (steps_any vb 30 _ w1 HV1.out).mono ?_
      rintro e w2 ⟨o, ho, hs⟩
      obtain ⟨sa, sc, SA, rfl, hS2, b2⟩ := hs.rds
      have hsl := steps_law HV1.out.ok ho hle
      have hup := stp_up ho
      obtain ⟨l, hl⟩ : ∃ l, stp (bltE 30 L) (frs (bltE 30 L) o) = l := ⟨_, rfl⟩
      have hll : l.length ≤ 16384 := by
        have h1 := stp_len (bltE 30 L) (frs (bltE 30 L) o)
        have h2 := frs_len (bltE 30 L) o
        have h3 := ho.perm.length_eq
        rw [List.length_range] at h3
        have h4 := bltE_len 30 L
        rw [hl] at h1; omega
      rw [hl] at hS2 hsl hup ⊢
      obtain ⟨n, hn⟩ : ∃ n, l.length = n := ⟨_, rfl⟩
      rw [hn] at hS2 hll ⊢
      have HL := Lib.hid hsl; have HU := Lib.hid hup; have HSt := Lib.hid hS2; have HNn := Lib.hid hn
      have HV2 := Lib.hid (HV1.out.at b2); have B2 := Lib.hid (B1.out.trans (b2.mono B1.out.size))
      clear hs hsl hup hS2 hn b2 HV1 B1 hl ho
      go_wp2_with fail
      go_loopw [9, 10] (fun bv iv wr => ∃ k : Nat, k ≤ n ∧ iv = .int .i64 (k : Nat) ∧ bv = .bool (btw (l.take k) θ η) ∧ Hid (Below w2.heap.size w2 wr)) (fun _ iv _ => n - (intOf iv).toNat)
      case atStart => exact ⟨0, Nat.zero_le _, rfl, rfl, Lib.hid (Below.refl _ _)⟩
      case round =>
        obtain ⟨k, hk, rfl, rfl, BW⟩ := hrel
        by_cases hlt : k < n
        · have hR := HSt.out.below BW.out
          have i1 := hR.ix k hlt
          have l1 := hR.cell k hlt 0 (by omega)
          rw [add_zero] at l1
          unfold nums at l1
          have hT := btw_take (l := l) (θ := θ) (η := η) (k := k) (by have := HNn.out; omega)
          obtain ⟨x, hx⟩ : ∃ x, nth l k = x := ⟨_, rfl⟩
          rw [hx] at l1 hT
          have HT := Lib.hid hT
          have hstart : (k = 0 ∧ decide ((k : Int) > 0) = false ∧ decide ((0 : Int) < k) = false ∧ decide (0 < k) = false) ∨ ∃ j, k = j + 1 := by
            by_cases h0 : k = 0
            · exact .inl ⟨h0, decide_eq_false (by omega), decide_eq_false (by omega), decide_eq_false (by omega)⟩
            · exact .inr ⟨k - 1, by omega⟩
          rcases hstart with ⟨h0, kz, kz', kz''⟩ | ⟨j, hkj⟩
          · clear hR hT h0
            by_cases hc : θ < x
            · have d1 : decide (x > θ) = true := decide_eq_true hc
              have d1' : decide (θ < x) = true := decide_eq_true hc
              by_cases hc2 : x ≤ η
              · have d2 : decide (x ≤ η) = true := decide_eq_true hc2
                rw [d1', d2, Bool.and_self, Bool.or_true] at HT
                go_wp2_with fail
                go_quiet (fail)
                go_wp2_with fail
                go_roundw
                case rel => exact ⟨k + 1, by omega, by go_num, by first | rw [HT.out] | rfl, Lib.hid (below_drewN BW.out _)⟩
                case measure => simp only [intOf]; omega
              · have d2 : decide (x ≤ η) = false := decide_eq_false hc2
                rw [d1', d2, Bool.and_false, Bool.or_false] at HT
                go_wp2_with fail
                go_quiet (fail)
                go_wp2_with fail
                go_roundw
                case rel => exact ⟨k + 1, by omega, by go_num, by first | rw [HT.out] | rfl, Lib.hid (below_drewN BW.out _)⟩
                case measure => simp only [intOf]; omega
            · have d1 : decide (x > θ) = false := decide_eq_false hc
              have d1' : decide (θ < x) = false := decide_eq_false hc
              rw [d1', Bool.false_and, Bool.or_false] at HT
              go_wp2_with fail
              go_quiet (fail)
              go_wp2_with fail
              go_roundw
              case rel => exact ⟨k + 1, by omega, by go_num, by first | rw [HT.out] | rfl, Lib.hid (below_drewN BW.out _)⟩
              case measure => simp only [intOf]; omega
          · have kz : decide ((k : Int) > 0) = true := decide_eq_true (by omega)
            have kz' : decide ((0 : Int) < (k : Int)) = true := decide_eq_true (by omega)
            have kz2 : decide (0 < k) = true := decide_eq_true (by omega)
            have hw1 : IntKind.i64.wrap ((k : Int) - 1) = ((j : Nat) : Int) := by rw [IntWalk.i64_in _ (by omega)]; omega
            have i2 := hR.ix j (by omega)
            have l2 := hR.cell j (by omega) 0 (by omega)
            rw [add_zero] at l2
            unfold nums at l2
            have hy := up_nth HU.out (k := j) (by have := HNn.out; omega)
            rw [← hkj, hx] at hy
            obtain ⟨y, hyy⟩ : ∃ y, nth l j = y := ⟨_, rfl⟩
            rw [hyy] at hy l2
            have d0 : decide (y ≥ x) = false := decide_eq_false (by omega)
            have d0' : decide (x ≤ y) = false := decide_eq_false (by omega)
            clear hR hT hkj
            by_cases hc : θ < x
            · have d1 : decide (x > θ) = true := decide_eq_true hc
              have d1' : decide (θ < x) = true := decide_eq_true hc
              by_cases hc2 : x ≤ η
              · have d2 : decide (x ≤ η) = true := decide_eq_true hc2
                rw [d1', d2, Bool.and_self, Bool.or_true] at HT
                go_wp2_with fail
                go_quiet (fail)
                go_wp2_with fail
                go_roundw
                case rel => exact ⟨k + 1, by omega, by go_num, by first | rw [HT.out] | rfl, Lib.hid (below_drewN BW.out _)⟩
                case measure => simp only [intOf]; omega
              · have d2 : decide (x ≤ η) = false := decide_eq_false hc2
                rw [d1', d2, Bool.and_false, Bool.or_false] at HT
                go_wp2_with fail
                go_quiet (fail)
                go_wp2_with fail
                go_roundw
                case rel => exact ⟨k + 1, by omega, by go_num, by first | rw [HT.out] | rfl, Lib.hid (below_drewN BW.out _)⟩
                case measure => simp only [intOf]; omega
            · have d1 : decide (x > θ) = false := decide_eq_false hc
              have d1' : decide (θ < x) = false := decide_eq_false hc
              rw [d1', Bool.false_and, Bool.or_false] at HT
              go_wp2_with fail
              go_quiet (fail)
              go_wp2_with fail
              go_roundw
              case rel => exact ⟨k + 1, by omega, by go_num, by first | rw [HT.out] | rfl, Lib.hid (below_drewN BW.out _)⟩
              case measure => simp only [intOf]; omega
        · have hkn : k = n := by omega
          subst hkn
          rw [List.take_of_length_le (by have := HNn.out; omega)]
          rcases HL.out with ⟨h1, h2, h3⟩ | ⟨h1, h2, h3⟩
          · rw [h1]
            have HE := Lib.hid h2; have HC := Lib.hid h3
            clear h1 h2 h3 HL HSt
            go_wp2_with fail
            refine (clabels_any vb 30 _ θ wr (HV2.out.at BW.out)).mono ?_
            rintro e w3 ⟨v3, rfl, hl3, b3⟩
            obtain ⟨la, lc, LA, rfl, hLA⟩ := hl3.rd
            have HV3 := Lib.hid ((HV2.out.at BW.out).at b3)
            have B3 := Lib.hid ((B2.out.trans (BW.out.mono B2.out.size)).trans (b3.mono (Nat.le_trans B2.out.size BW.out.size)))
            have HLA3 := Lib.hid hLA
            clear hl3 hLA b3 HV2 B2 BW
            go_wp2_with fail
            refine (clabels_any vb 30 _ η w3 HV3.out).mono ?_
            rintro e w4 ⟨v4, rfl, hl4, b4⟩
            obtain ⟨ra, rc, RA, rfl, hRA⟩ := hl4.rd
            have HV4 := Lib.hid (HV3.out.at b4)
            have B4 := Lib.hid (B3.out.trans (b4.mono B3.out.size))
            have HN := Lib.hid (numbers_n w4.heap.size 30 30 la ra lc rc LA RA _ _ w4 (by rw [intsN_len, labs_len]) (by rw [intsN_len, labs_len]) ((HLA3.out.below b4).mono b4.size) hRA (by decide))
            clear hl4 hRA b4 HV3 B3 HLA3
            go_wp2_with fail
            refine HN.out.mono ?_
            rintro e w5 ⟨rfl, q, rfl⟩
            rw [decide_eq_true HE.out]
            have HV5 := Lib.hid (HV4.out.at (below_drewN (Below.refl _ _) q))
            have B5 := Lib.hid (below_drewN B4.out q)
            obtain ⟨w5, hw5⟩ : ∃ x, x = w4.drewN q := ⟨_, rfl⟩
            rw [← hw5] at HV5 B5 ⊢
            clear hw5 HN HV4 B4
            go_wp2_with fail
            refine (cv_count HV5.out θ).mono ?_
            rintro e w6 ⟨rfl, b6⟩
            have HV6 := Lib.hid (HV5.out.at b6)
            have B6 := Lib.hid (B5.out.trans (b6.mono B5.out.size))
            clear HV5 B5 b6
            go_wp2_with fail
            refine (cv_count HV6.out η).mono ?_
            rintro e w7 ⟨rfl, b7⟩
            have B7 := Lib.hid (B6.out.trans (b7.mono B6.out.size))
            have kc : (((cntN 30 (lbW (bltE 30 L) θ) : Nat) : Int) == ((cntN 30 (lbW (bltE 30 L) η) : Nat) : Int)) = true := by rw [HC.out]; simp
            have kc' : (cntN 30 (lbW (bltE 30 L) θ) == cntN 30 (lbW (bltE 30 L) η)) = true := by rw [HC.out]; simp
            have kc2 : decide (cntN 30 (lbW (bltE 30 L) θ) = cntN 30 (lbW (bltE 30 L) η)) = true := decide_eq_true HC.out
            clear HV6 B6 b7
            go_wp2_with fail
            refine (works_any w7).mono ?_
            rintro e w8 ⟨rfl, b8⟩
            go_wp2_with fail
            go_ret
            exact ⟨rfl, B7.out.trans (b8.mono B7.out.size)⟩
          · rw [h1]
            have HE := Lib.hid h2; have HC := Lib.hid h3
            clear h1 h2 h3 HL HSt
            go_wp2_with fail
            refine (clabels_any vb 30 _ θ wr (HV2.out.at BW.out)).mono ?_
            rintro e w3 ⟨v3, rfl, hl3, b3⟩
            obtain ⟨la, lc, LA, rfl, hLA⟩ := hl3.rd
            have HV3 := Lib.hid ((HV2.out.at BW.out).at b3)
            have B3 := Lib.hid ((B2.out.trans (BW.out.mono B2.out.size)).trans (b3.mono (Nat.le_trans B2.out.size BW.out.size)))
            have HLA3 := Lib.hid hLA
            clear hl3 hLA b3 HV2 B2 BW
            go_wp2_with fail
            refine (clabels_any vb 30 _ η w3 HV3.out).mono ?_
            rintro e w4 ⟨v4, rfl, hl4, b4⟩
            obtain ⟨ra, rc, RA, rfl, hRA⟩ := hl4.rd
            have HV4 := Lib.hid (HV3.out.at b4)
            have B4 := Lib.hid (B3.out.trans (b4.mono B3.out.size))
            have HN := Lib.hid (numbers_n w4.heap.size 30 30 la ra lc rc LA RA _ _ w4 (by rw [intsN_len, labs_len]) (by rw [intsN_len, labs_len]) ((HLA3.out.below b4).mono b4.size) hRA (by decide))
            clear hl4 hRA b4 HV3 B3 HLA3
            go_wp2_with fail
            refine HN.out.mono ?_
            rintro e w5 ⟨rfl, q, rfl⟩
            rw [decide_eq_false HE.out]
            have HV5 := Lib.hid (HV4.out.at (below_drewN (Below.refl _ _) q))
            have B5 := Lib.hid (below_drewN B4.out q)
            obtain ⟨w5, hw5⟩ : ∃ x, x = w4.drewN q := ⟨_, rfl⟩
            rw [← hw5] at HV5 B5 ⊢
            clear hw5 HN HV4 B4
            go_wp2_with fail
            refine (cv_count HV5.out θ).mono ?_
            rintro e w6 ⟨rfl, b6⟩
            have HV6 := Lib.hid (HV5.out.at b6)
            have B6 := Lib.hid (B5.out.trans (b6.mono B5.out.size))
            clear HV5 B5 b6
            go_wp2_with fail
            refine (cv_count HV6.out η).mono ?_
            rintro e w7 ⟨rfl, b7⟩
            have B7 := Lib.hid (B6.out.trans (b7.mono B6.out.size))
            have kc : (((cntN 30 (lbW (bltE 30 L) θ) : Nat) : Int) == ((cntN 30 (lbW (bltE 30 L) η) : Nat) : Int)) = false := by have := HC.out; simp; omega
            have kc' : (cntN 30 (lbW (bltE 30 L) θ) == cntN 30 (lbW (bltE 30 L) η)) = false := by have := HC.out; simp; omega
            have kc2 : decide (cntN 30 (lbW (bltE 30 L) θ) = cntN 30 (lbW (bltE 30 L) η)) = false := decide_eq_false HC.out
            clear HV6 B6 b7
            go_wp2_with fail
            refine (works_any w7).mono ?_
            rintro e w8 ⟨rfl, b8⟩
            go_wp2_with fail
            go_ret
            exact ⟨rfl, B7.out.trans (b8.mono B7.out.size)⟩
  · have k0 : decide ((L.length : Int) > 120) = true := decide_eq_true (by omega)
    have k0' : decide ((120 : Int) < (L.length : Int)) = true := decide_eq_true (by omega)
    go_enter Try.func6, Try.ntmps6
    go_wp2_with fail
    refine (works_any w).mono ?_
    rintro e w1 ⟨rfl, b1⟩
    go_wp2_with fail
    go_ret
    exact ⟨rfl, b1⟩
end Go.Proofs.Ytibdggbejogciaa
