/- The walk of the law ClusterAgrees. Conditions: the links are in range. -/
import Derived.Test.YtibdggbejogciaaCvB
import Derived.Test.YtibdggbejogciaaCk
import Derived.Test.YtibdggbejogciaaCvPa
import Derived.IntWalk
namespace Go.Proofs.Ytibdggbejogciaa
open Go.RowKit

set_option maxRecDepth 100000 in
set_option maxHeartbeats 8000000 in
theorem cagrees_walk (B : Nat) (a : Option Addr) (cap : Nat) (A : Nat → Addr) (L : List Lk) (θ : Int) (w : World) (hS : LS w B (.slice a L.length cap) L A) (hB : B ≤ w.heap.size) (hr : LkR L) :
    Calls Try.prog 5 #[.slice a L.length cap, .int .i64 θ] w fun e w' => e = .returned (.bool true) ∧ Below w.heap.size w w' := by
  have HS := Lib.hid hS; have HR := Lib.hid hr
  clear hS hr
  by_cases hl : L.length ≤ 120
  · have k0 : decide ((L.length : Int) > 120) = false := decide_eq_false (by omega)
    have k0' : decide ((120 : Int) < (L.length : Int)) = false := decide_eq_false (by omega)
    go_enter Try.func5, Try.ntmps5
    go_wp2_with fail
    refine (made_any B a cap A L w HS.out hB HR.out (by omega)).mono ?_
    rintro e w1 ⟨vb, rfl, hv, b1⟩
    have HV1 := Lib.hid hv; have B1 := Lib.hid b1
    clear hv b1
    obtain ⟨E, hE⟩ : ∃ E, bltE 30 L = E := ⟨_, rfl⟩
    rw [hE] at HV1
    clear hE HS HR
    go_wp2_with fail
    refine (clabels_any vb 30 _ θ w1 HV1.out).mono ?_
    rintro e w2 ⟨v2, rfl, hl2, b2⟩
    obtain ⟨la, lc, LA, rfl, hLA⟩ := hl2.rd
    have HV2 := Lib.hid (HV1.out.at b2); have B2 := Lib.hid (B1.out.trans (b2.mono B1.out.size))
    have HLA2 := Lib.hid hLA
    clear hl2 hLA b2 HV1 B1
    go_wp2_with fail
    refine (cv_all HV2.out θ).mono ?_
    rintro e w3 h3
    obtain ⟨pa, pc, PA, rfl, hPA, b3⟩ := h3.rd
    have HV3 := Lib.hid (HV2.out.at b3); have B3 := Lib.hid (B2.out.trans (b3.mono B2.out.size))
    have HLA3 := Lib.hid ((HLA2.out.below b3).mono b3.size)
    have HP3 := Lib.hid hPA
    clear h3 hPA b3 HV2 B2 HLA2
    obtain ⟨f, hf⟩ : ∃ f, lbW E θ = f := ⟨_, rfl⟩
    have K : LabOk f := by rw [← hf]; exact labO_ok E _
    rw [hf] at HLA3 HP3 ⊢
    obtain ⟨l, hll⟩ : ∃ l, lbL f 30 = l := ⟨_, rfl⟩
    have hlL : l.length ≤ 30 := by rw [← hll]; exact lbL_le f 30
    have hcn : cntN 30 f = l.length := by rw [← hll, lbL_len]
    have hAt : ∀ k, k < l.length → l.getD k 0 < 30 ∧ f (l.getD k 0) = l.getD k 0 := fun k hk => by rw [← hll] at hk ⊢; exact lbL_at hk
    have hUp : ∀ k, k + 1 < l.length → l.getD k 0 < l.getD (k + 1) 0 := fun k hk => by rw [← hll] at hk ⊢; unfold lbL at hk ⊢; exact filt_up hk
    have hSm : smN 30 f l = 30 := by rw [← hll]; exact sm_all K
    unfold GpR at HP3
    rw [hll] at HP3 ⊢
    have HF := Lib.hid hf; have HK := Lib.hid K; have HL := Lib.hid hll; have HC := Lib.hid hcn; have HA := Lib.hid hAt; have HU := Lib.hid hUp; have HSm := Lib.hid hSm
    clear hf K hll hcn hAt hUp hSm
    obtain ⟨n, hn⟩ : ∃ n, l.length = n := ⟨_, rfl⟩
    have Hn := Lib.hid hn
    rw [hn] at hlL HP3 ⊢
    clear hn
    go_wp2_with fail
    refine (cv_row HV3.out θ).mono ?_
    rintro e w4 ⟨rfl, b4⟩
    rw [HF.out, HL.out, HC.out, Hn.out]
    obtain ⟨lg, hlg⟩ : ∃ x, lgN 30 f l = x := ⟨_, rfl⟩
    obtain ⟨sq, hsq⟩ : ∃ x, sqN 30 f l = x := ⟨_, rfl⟩
    rw [hlg, hsq]
    have Hlg := Lib.hid hlg; have Hsq := Lib.hid hsq
    clear hlg hsq
    have bb : Below w3.heap.size w3 (w4.alloc (.cells #[.int .i64 (lg : Nat), .int .i64 (n : Nat), .int .i64 (sq : Nat)] 42)) := b4.alloc b4.size _
    have hrw := row3 w4 (.int .i64 (lg : Nat)) (.int .i64 (n : Nat)) (.int .i64 (sq : Nat)) 42
    obtain ⟨wz, hwz⟩ : ∃ x, x = w4.alloc (.cells #[.int .i64 (lg : Nat), .int .i64 (n : Nat), .int .i64 (sq : Nat)] 42) := ⟨_, rfl⟩
    rw [← hwz] at bb hrw
    have hrlt : w4.heap.size < wz.heap.size := by rw [hwz]; simp
    have HVz := Lib.hid (HV3.out.at bb); have Bz := Lib.hid (B3.out.trans (bb.mono B3.out.size))
    have HLz := Lib.hid ((HLA3.out.below bb).mono bb.size)
    have HPz := Lib.hid ((HP3.out.below bb).mono bb.size)
    have HRz := Lib.hid hrw
    have HWz := Lib.hid hwz
    clear bb hrw hwz b4 HV3 B3 HLA3 HP3
    go_wp2_with fail
    rw [← HWz.out]
    refine (cv_count HVz.out θ).mono ?_
    rintro e w5 ⟨rfl, b5⟩
    rw [HF.out, HC.out, Hn.out]
    obtain ⟨rb, hrb⟩ : ∃ x, w4.heap.size = x := ⟨_, rfl⟩
    rw [hrb] at HRz hrlt ⊢
    have hR5 := HRz.out.below b5 hrlt
    have HV5 := Lib.hid (HVz.out.at b5); have B5 := Lib.hid (Bz.out.trans (b5.mono Bz.out.size))
    have HL5 := Lib.hid ((HLz.out.below b5).mono b5.size)
    have HP5 := Lib.hid ((HPz.out.below b5).mono b5.size)
    have r1 : w5.cell? ⟨rb, 1, none⟩ = some (.int .i64 (n : Nat)) := hR5.cell (i := 1) (by omega)
    have hrl5 : rb < w5.heap.size := Nat.lt_of_lt_of_le hrlt b5.size
    have HR5 := Lib.hid hR5
    clear hR5 b5 HVz Bz HLz HPz HRz HWz hrb hrlt
    go_wp2_with fail
    go_loopw [9, 10, 11, 12] (fun sv qv gv iv wr => ∃ k : Nat, k ≤ n ∧ iv = .int .i64 (k : Nat) ∧ sv = .int .i64 (smN 30 f (l.take k) : Nat) ∧ qv = .int .i64 (sqN 30 f (l.take k) : Nat) ∧ gv = .int .i64 (lgN 30 f (l.take k) : Nat) ∧ Hid (Below w5.heap.size w5 wr)) (fun _ _ _ iv _ => n - (intOf iv).toNat)
    case atStart => exact ⟨0, Nat.zero_le _, rfl, rfl, rfl, rfl, Lib.hid (Below.refl _ _)⟩
    case round =>
      obtain ⟨k, hk, rfl, rfl, rfl, rfl, BW⟩ := hrel
      by_cases hlt : k < n
      · clear r1
        have hkl : k < l.length := by have := Hn.out; omega
        have hSS := take_snoc0 hkl
        have e1 := smN_snoc 30 f (l.take k) (l.getD k 0)
        have e2 := sqN_snoc 30 f (l.take k) (l.getD k 0)
        have e3 := lgN_snoc 30 f (l.take k) (l.getD k 0)
        rw [← hSS] at e1 e2 e3
        have z1 := smN_le 30 f (l.take k)
        have z2 := sqN_le 30 f (l.take k)
        have z3 := lgN_le 30 f (l.take k)
        have ztk : (l.take k).length ≤ 30 := by rw [List.length_take]; omega
        have z4 := clsN_le 30 f (l.getD k 0)
        have hat := HA.out k hkl
        have i1 := HP5.out.ix k hlt
        obtain ⟨a, ha⟩ : ∃ a, l.getD k 0 = a := ⟨_, rfl⟩
        obtain ⟨s, hs⟩ : ∃ s, clsN 30 f a = s := ⟨_, rfl⟩
        have HQ : ∀ W', Below w5.heap.size w5 W' → W'.cell? (PA k) = some (.int .i64 (a : Nat)) ∧ W'.cell? ⟨(PA k).block, (PA k).off + 1, none⟩ = some (.int .i64 (s : Nat)) := fun W' hW => by
          have hP := HP5.out.below hW
          have q0 := hP.cell k hlt 0 (by omega)
          have q1 : W'.cell? ⟨(PA k).block, (PA k).off + 1, none⟩ = some (gpC 30 f l k 1) := hP.cell k hlt 1 (by omega)
          rw [add_zero] at q0
          unfold gpC at q0 q1
          rw [if_pos rfl, ha] at q0
          rw [if_neg (by omega), ha, hs] at q1
          exact ⟨q0, q1⟩
        have hprev : k = 0 ∨ ∃ j b, k = j + 1 ∧ b < a ∧ ∀ W', Below w5.heap.size w5 W' → W'.cell? (PA j) = some (.int .i64 (b : Nat)) := by
          by_cases h0 : k = 0
          · exact .inl h0
          · have h1 := HU.out (k - 1) (by omega)
            rw [show k - 1 + 1 = k by omega, ha] at h1
            refine .inr ⟨k - 1, l.getD (k - 1) 0, by omega, h1, fun W' hW => ?_⟩
            have q0 := (HP5.out.below hW).cell (k - 1) (by omega) 0 (by omega)
            rw [add_zero] at q0
            unfold gpC at q0
            rw [if_pos rfl] at q0
            exact q0
        rw [ha] at e1 e2 e3 z4 hat
        rw [hs] at e1 e2 e3 z4
        obtain ⟨t1, ht1⟩ : ∃ t, smN 30 f (l.take k) = t := ⟨_, rfl⟩
        obtain ⟨t2, ht2⟩ : ∃ t, sqN 30 f (l.take k) = t := ⟨_, rfl⟩
        obtain ⟨t3, ht3⟩ : ∃ t, lgN 30 f (l.take k) = t := ⟨_, rfl⟩
        rw [ht1] at e1 z1 ⊢; rw [ht2] at e2 z2 ⊢; rw [ht3] at e3 z3 ⊢
        have y1 : (l.take k).length * 30 ≤ 30 * 30 := Nat.mul_le_mul_right _ ztk
        have y2 : (l.take k).length * (30 * 30) ≤ 30 * (30 * 30) := Nat.mul_le_mul_right _ ztk
        have y3 : s * s ≤ 30 * 30 := Nat.mul_le_mul z4 z4
        obtain ⟨pp, hpp⟩ : ∃ p, s * s = p := ⟨_, rfl⟩
        rw [hpp] at y3 e2
        have m1 : IntKind.i64.wrap ((t1 : Int) + (s : Int)) = ((t1 + s : Nat) : Int) := by rw [IntWalk.i64_in _ (by omega)]; omega
        have m2 : IntKind.i64.wrap ((s : Int) * (s : Int)) = (pp : Int) := by
          have h1 : ((s : Int) * (s : Int)) = (pp : Int) := by rw [← hpp]; exact (Int.natCast_mul s s).symm
          rw [h1, IntWalk.i64_in _ (by omega)]
        have m3 : IntKind.i64.wrap ((t2 : Int) + (pp : Int)) = ((t2 + pp : Nat) : Int) := by rw [IntWalk.i64_in _ (by omega)]; omega
        have hls : (lvs 30 f a).length = s := by rw [← hs]; exact lvs_cls hat.2
        have E1 := Lib.hid e1; have E2 := Lib.hid e2; have E3 := Lib.hid e3
        have M := Lib.hid (And.intro m1 (And.intro m2 m3))
        have HFa := Lib.hid hat.2; have HSa := Lib.hid hs; have HQh := Lib.hid HQ; have HPv := Lib.hid hprev; have HLs := Lib.hid hls
        have ha30 := hat.1
        have hpa := HP5.out.lt k hlt
        have q0 := (HQ wr BW.out).1
        clear hSS e1 e2 e3 hat hs ht1 ht2 ht3 ha HQ hprev m1 m2 m3 hpp hls
        go_wp2_with fail
        refine (of_in vb 30 a _ θ wr (HV5.out.at BW.out) ha30).mono ?_
        rintro e w6 ⟨rfl, b6⟩
        rw [HF.out, HFa.out, HSa.out]
        unfold grpV
        have b7 : Below w5.heap.size w5 (w6.alloc (.cells #[.int .i64 (a : Nat), .int .i64 (s : Nat)] 45)) := (BW.out.trans (b6.mono BW.out.size)).alloc (Nat.le_trans BW.out.size b6.size) _
        have rg : Row (w6.alloc (.cells #[.int .i64 (a : Nat), .int .i64 (s : Nat)] 45)) w6.heap.size 2 (fun i => (#[Value.int .i64 (a : Nat), .int .i64 (s : Nat)] : Array Value).getD i undef) := Row.lit w6 _ _ (by simp) (fun i hi => by
          match i, hi with
          | 0, _ => rfl
          | 1, _ => rfl
          | n + 2, h => omega)
        have p0 := (HQh.out _ b7).1
        have HV7 := Lib.hid (HV5.out.at b7)
        have Rg := Lib.hid rg
        have B7 := Lib.hid b7
        clear q0 b6 b7 rg
        go_wp2_with fail
        refine (members_in vb 30 a _ θ _ HV7.out ha30).mono ?_
        rintro e w8 ⟨v8, rfl, hm, b8⟩
        rw [HF.out, HFa.out] at hm
        obtain ⟨ma, mc, MA, rfl, hMr⟩ := ownI_rd hm
        have B8 := Lib.hid (B7.out.trans (b8.mono B7.out.size))
        have R8 := Rg.out.below b8 (by simp)
        have hg8 : w6.heap.size < w8.heap.size := Nat.lt_of_lt_of_le (by simp) b8.size
        obtain ⟨gb, hgb⟩ : ∃ x, w6.heap.size = x := ⟨_, rfl⟩
        rw [hgb] at R8 hg8 ⊢
        obtain ⟨m, hmm⟩ : ∃ m, lvs 30 f a = m := ⟨_, rfl⟩
        have hms : m.length = s := by rw [← hmm]; exact HLs.out
        have HMat := Lib.hid (show ∀ j, j < m.length → m.getD j 0 < 30 ∧ f (m.getD j 0) = a from fun j hj => by rw [← hmm] at hj ⊢; exact lvs_at hj)
        have HMup := Lib.hid (show ∀ j, j + 1 < m.length → m.getD j 0 < m.getD (j + 1) 0 from fun j hj => by rw [← hmm] at hj ⊢; unfold lvs at hj ⊢; exact filt_up hj)
        rw [hmm, hms] at hMr ⊢
        have HMr := Lib.hid hMr; have Hms := Lib.hid hms; have HR8 := Lib.hid R8
        have q0 := (HQh.out _ B8.out).1
        have q1 := (HQh.out _ B8.out).2
        have g0 : w8.cell? ⟨gb, 0, none⟩ = some (.int .i64 (a : Nat)) := R8.cell (i := 0) (by omega)
        have g1 : w8.cell? ⟨gb, 1, none⟩ = some (.int .i64 (s : Nat)) := R8.cell (i := 1) (by omega)
        have hge := fun w => group_neq (a : Nat) (s : Nat) (a : Nat) (s : Nat) w
        simp only [decide_true, Bool.and_self, Bool.not_true] at hge
        have kss : ((s : Int) != (s : Int)) = false := by simp
        have Hge := Lib.hid hge
        clear p0 HV7 Rg B7 hm b8 R8 hgb hmm hms hMr
        rcases HPv.out with h0 | ⟨j0, b0, hkj, hba, hcj⟩
        · have kz : decide ((k : Int) > 0) = false := decide_eq_false (by omega)
          have kz' : decide ((0 : Int) < (k : Int)) = false := decide_eq_false (by omega)
          have kz2 : decide (0 < k) = false := decide_eq_false (by omega)
          clear h0
          go_wp2_with fail
          go_quiet (fail)
          go_wp2_with fail
          clear q0 q1 g0 g1 hge
          go_loopw [17] (fun jv wj => ∃ j : Nat, j ≤ s ∧ jv = .int .i64 (j : Nat) ∧ Hid (Below w8.heap.size w8 wj)) (fun jv _ => s - (intOf jv).toNat)
          case atStart => exact ⟨0, Nat.zero_le _, rfl, Lib.hid (below_drewN (Below.refl _ _) _)⟩
          case round =>
            obtain ⟨j, hj, rfl, BJ⟩ := hrel
            have g0 : wr.cell? ⟨gb, 0, none⟩ = some (.int .i64 (a : Nat)) := (HR8.out.below BJ.out hg8).cell (i := 0) (by omega)
            have g1 : wr.cell? ⟨gb, 1, none⟩ = some (.int .i64 (s : Nat)) := (HR8.out.below BJ.out hg8).cell (i := 1) (by omega)
            have BJ5 := Lib.hid (B8.out.trans (BJ.out.mono B8.out.size))
            by_cases hjs : j < s
            · have hjm : j < m.length := by have := Hms.out; omega
              obtain ⟨hx30, hfx⟩ := HMat.out j hjm
              have hM := HMr.out.below BJ.out
              have im := hM.ix j hjs
              have cm := hM.cell j hjs 0 (by omega)
              rw [add_zero] at cm
              unfold nums at cm
              rw [intsN_nth] at cm
              have hjp : j = 0 ∨ ∃ i y : Nat, j = i + 1 ∧ i < s ∧ y < m.getD j 0 ∧ wr.cell? (MA i) = some (.int .i64 (y : Nat)) := by
                by_cases h0 : j = 0
                · exact .inl h0
                · have h1 := HMup.out (j - 1) (by omega)
                  rw [show j - 1 + 1 = j by omega] at h1
                  have c2 := hM.cell (j - 1) (by omega) 0 (by omega)
                  rw [add_zero] at c2
                  unfold nums at c2
                  rw [intsN_nth] at c2
                  exact .inr ⟨j - 1, m.getD (j - 1) 0, by omega, by omega, h1, c2⟩
              obtain ⟨x, hx⟩ : ∃ x, m.getD j 0 = x := ⟨_, rfl⟩
              rw [hx] at hx30 hfx cm hjp
              have il := HL5.out.ix x hx30
              have cl := lab_cell (HL5.out.below BJ5.out) hx30
              rw [hfx] at cl
              have k1 : decide ((x : Int) < 0) = false := decide_eq_false (by omega)
              have k2 : decide ((x : Int) ≥ 30) = false := decide_eq_false (by omega)
              have k2' : decide ((30 : Int) ≤ (x : Int)) = false := decide_eq_false (by omega)
              have k2n : decide (30 ≤ x) = false := decide_eq_false (by omega)
              have kaa : ((a : Int) != (a : Int)) = false := by simp
              have HFx := Lib.hid (And.intro hfx (show clsN 30 f x = s by rw [← HSa.out]; exact clsN_label (by rw [hfx, HFa.out])))
              have HVJ := Lib.hid (fun q => HV5.out.at (below_drewN BJ5.out q))
              clear hM hx hfx kz
              rcases hjp with h0 | ⟨i0, y0, hji, hi0, hyx, cy⟩
              · have kj : decide ((j : Int) > 0) = false := decide_eq_false (by omega)
                have kj' : decide ((0 : Int) < (j : Int)) = false := decide_eq_false (by omega)
                have kj2 : decide (0 < j) = false := decide_eq_false (by omega)
                clear h0
                go_wp2_with fail
                go_quiet (fail)
                go_wp2_with fail
                refine (of_in vb 30 x _ θ _ (HVJ.out _) hx30).mono ?_
                rintro e w9 ⟨rfl, b9⟩
                rw [HF.out, HFx.out.1, HFx.out.2]
                unfold grpV
                have bb9 : Below w8.heap.size w8 (w9.alloc (.cells #[.int .i64 (a : Nat), .int .i64 (s : Nat)] 45)) := ((below_drewN BJ.out _).trans (b9.mono (by have := BJ.out.size; simpa using this))).alloc (Nat.le_trans (by have := BJ.out.size; simpa using this) b9.size) _
                have rg := HR8.out.below bb9 hg8
                have h0 : (w9.alloc (.cells #[.int .i64 (a : Nat), .int .i64 (s : Nat)] 45)).cell? ⟨gb, 0, none⟩ = some (.int .i64 (a : Nat)) := rg.cell (i := 0) (by omega)
                have h1 : (w9.alloc (.cells #[.int .i64 (a : Nat), .int .i64 (s : Nat)] 45)).cell? ⟨gb, 1, none⟩ = some (.int .i64 (s : Nat)) := rg.cell (i := 1) (by omega)
                have BB := Lib.hid bb9
                have hge := Hge.out
                clear rg b9 bb9 HFx
                go_wp2_with fail
                go_roundw
                case rel => exact ⟨j + 1, by omega, by go_num, BB⟩
                case measure => simp only [intOf]; omega
              · have kj : decide ((j : Int) > 0) = true := decide_eq_true (by omega)
                have kj' : decide ((0 : Int) < (j : Int)) = true := decide_eq_true (by omega)
                have kj2 : decide (0 < j) = true := decide_eq_true (by omega)
                have hw2 : IntKind.i64.wrap ((j : Int) - 1) = ((i0 : Nat) : Int) := by rw [IntWalk.i64_in _ (by omega)]; omega
                have ii := HMr.out.ix i0 hi0
                have f0 : decide ((y0 : Int) ≥ (x : Int)) = false := decide_eq_false (by omega)
                have f0' : decide ((x : Int) ≤ (y0 : Int)) = false := decide_eq_false (by omega)
                have f02 : decide (x ≤ y0) = false := decide_eq_false (by omega)
                clear hji
                go_wp2_with fail
                go_quiet (fail)
                go_wp2_with fail
                refine (of_in vb 30 x _ θ _ (HVJ.out _) hx30).mono ?_
                rintro e w9 ⟨rfl, b9⟩
                rw [HF.out, HFx.out.1, HFx.out.2]
                unfold grpV
                have bb9 : Below w8.heap.size w8 (w9.alloc (.cells #[.int .i64 (a : Nat), .int .i64 (s : Nat)] 45)) := ((below_drewN BJ.out _).trans (b9.mono (by have := BJ.out.size; simpa using this))).alloc (Nat.le_trans (by have := BJ.out.size; simpa using this) b9.size) _
                have rg := HR8.out.below bb9 hg8
                have h0 : (w9.alloc (.cells #[.int .i64 (a : Nat), .int .i64 (s : Nat)] 45)).cell? ⟨gb, 0, none⟩ = some (.int .i64 (a : Nat)) := rg.cell (i := 0) (by omega)
                have h1 : (w9.alloc (.cells #[.int .i64 (a : Nat), .int .i64 (s : Nat)] 45)).cell? ⟨gb, 1, none⟩ = some (.int .i64 (s : Nat)) := rg.cell (i := 1) (by omega)
                have BB := Lib.hid bb9
                have hge := Hge.out
                clear rg b9 bb9 HFx
                go_wp2_with fail
                go_roundw
                case rel => exact ⟨j + 1, by omega, by go_num, BB⟩
                case measure => simp only [intOf]; omega
            · have hjs2 : j = s := by omega
              subst hjs2
              obtain ⟨m1, m2, m3⟩ := M.out
              by_cases hgt : j > t3
              · have dg : decide ((j : Int) > (t3 : Int)) = true := decide_eq_true (by omega)
                have dg' : decide ((t3 : Int) < (j : Int)) = true := decide_eq_true (by omega)
                have dg2 : decide (t3 < j) = true := decide_eq_true (by omega)
                go_wp2_with fail
                go_roundw
                case rel => exact ⟨k + 1, by omega, by go_num, by rw [E1.out]; first | rfl | (simp; done), by rw [E2.out]; first | rfl | (simp; done), by rw [E3.out, Nat.max_eq_right (by omega)], BJ5⟩
                case measure => simp only [intOf]; omega
              · have dg : decide ((j : Int) > (t3 : Int)) = false := decide_eq_false (by omega)
                have dg' : decide ((t3 : Int) < (j : Int)) = false := decide_eq_false (by omega)
                have dg2 : decide (t3 < j) = false := decide_eq_false (by omega)
                go_wp2_with fail
                go_roundw
                case rel => exact ⟨k + 1, by omega, by go_num, by rw [E1.out]; first | rfl | (simp; done), by rw [E2.out]; first | rfl | (simp; done), by rw [E3.out, Nat.max_eq_left (by omega)], BJ5⟩
                case measure => simp only [intOf]; omega
        · have kz : decide ((k : Int) > 0) = true := decide_eq_true (by omega)
          have kz' : decide ((0 : Int) < (k : Int)) = true := decide_eq_true (by omega)
          have kz2 : decide (0 < k) = true := decide_eq_true (by omega)
          have hw1 : IntKind.i64.wrap ((k : Int) - 1) = ((j0 : Nat) : Int) := by rw [IntWalk.i64_in _ (by omega)]; omega
          have ij := HP5.out.ix j0 (by omega)
          have qj := hcj _ B8.out
          have d0 : decide ((b0 : Int) ≥ (a : Int)) = false := decide_eq_false (by omega)
          have d0' : decide ((a : Int) ≤ (b0 : Int)) = false := decide_eq_false (by omega)
          have d02 : decide (a ≤ b0) = false := decide_eq_false (by omega)
          clear hcj hkj
          go_wp2_with fail
          go_quiet (fail)
          go_wp2_with fail
          clear q0 q1 g0 g1 hge
          go_loopw [17] (fun jv wj => ∃ j : Nat, j ≤ s ∧ jv = .int .i64 (j : Nat) ∧ Hid (Below w8.heap.size w8 wj)) (fun jv _ => s - (intOf jv).toNat)
          case atStart => exact ⟨0, Nat.zero_le _, rfl, Lib.hid (below_drewN (Below.refl _ _) _)⟩
          case round =>
            obtain ⟨j, hj, rfl, BJ⟩ := hrel
            have g0 : wr.cell? ⟨gb, 0, none⟩ = some (.int .i64 (a : Nat)) := (HR8.out.below BJ.out hg8).cell (i := 0) (by omega)
            have g1 : wr.cell? ⟨gb, 1, none⟩ = some (.int .i64 (s : Nat)) := (HR8.out.below BJ.out hg8).cell (i := 1) (by omega)
            have BJ5 := Lib.hid (B8.out.trans (BJ.out.mono B8.out.size))
            by_cases hjs : j < s
            · have hjm : j < m.length := by have := Hms.out; omega
              obtain ⟨hx30, hfx⟩ := HMat.out j hjm
              have hM := HMr.out.below BJ.out
              have im := hM.ix j hjs
              have cm := hM.cell j hjs 0 (by omega)
              rw [add_zero] at cm
              unfold nums at cm
              rw [intsN_nth] at cm
              have hjp : j = 0 ∨ ∃ i y : Nat, j = i + 1 ∧ i < s ∧ y < m.getD j 0 ∧ wr.cell? (MA i) = some (.int .i64 (y : Nat)) := by
                by_cases h0 : j = 0
                · exact .inl h0
                · have h1 := HMup.out (j - 1) (by omega)
                  rw [show j - 1 + 1 = j by omega] at h1
                  have c2 := hM.cell (j - 1) (by omega) 0 (by omega)
                  rw [add_zero] at c2
                  unfold nums at c2
                  rw [intsN_nth] at c2
                  exact .inr ⟨j - 1, m.getD (j - 1) 0, by omega, by omega, h1, c2⟩
              obtain ⟨x, hx⟩ : ∃ x, m.getD j 0 = x := ⟨_, rfl⟩
              rw [hx] at hx30 hfx cm hjp
              have il := HL5.out.ix x hx30
              have cl := lab_cell (HL5.out.below BJ5.out) hx30
              rw [hfx] at cl
              have k1 : decide ((x : Int) < 0) = false := decide_eq_false (by omega)
              have k2 : decide ((x : Int) ≥ 30) = false := decide_eq_false (by omega)
              have k2' : decide ((30 : Int) ≤ (x : Int)) = false := decide_eq_false (by omega)
              have k2n : decide (30 ≤ x) = false := decide_eq_false (by omega)
              have kaa : ((a : Int) != (a : Int)) = false := by simp
              have HFx := Lib.hid (And.intro hfx (show clsN 30 f x = s by rw [← HSa.out]; exact clsN_label (by rw [hfx, HFa.out])))
              have HVJ := Lib.hid (fun q => HV5.out.at (below_drewN BJ5.out q))
              clear hM hx hfx kz
              rcases hjp with h0 | ⟨i0, y0, hji, hi0, hyx, cy⟩
              · have kj : decide ((j : Int) > 0) = false := decide_eq_false (by omega)
                have kj' : decide ((0 : Int) < (j : Int)) = false := decide_eq_false (by omega)
                have kj2 : decide (0 < j) = false := decide_eq_false (by omega)
                clear h0
                go_wp2_with fail
                go_quiet (fail)
                go_wp2_with fail
                refine (of_in vb 30 x _ θ _ (HVJ.out _) hx30).mono ?_
                rintro e w9 ⟨rfl, b9⟩
                rw [HF.out, HFx.out.1, HFx.out.2]
                unfold grpV
                have bb9 : Below w8.heap.size w8 (w9.alloc (.cells #[.int .i64 (a : Nat), .int .i64 (s : Nat)] 45)) := ((below_drewN BJ.out _).trans (b9.mono (by have := BJ.out.size; simpa using this))).alloc (Nat.le_trans (by have := BJ.out.size; simpa using this) b9.size) _
                have rg := HR8.out.below bb9 hg8
                have h0 : (w9.alloc (.cells #[.int .i64 (a : Nat), .int .i64 (s : Nat)] 45)).cell? ⟨gb, 0, none⟩ = some (.int .i64 (a : Nat)) := rg.cell (i := 0) (by omega)
                have h1 : (w9.alloc (.cells #[.int .i64 (a : Nat), .int .i64 (s : Nat)] 45)).cell? ⟨gb, 1, none⟩ = some (.int .i64 (s : Nat)) := rg.cell (i := 1) (by omega)
                have BB := Lib.hid bb9
                have hge := Hge.out
                clear rg b9 bb9 HFx
                go_wp2_with fail
                go_roundw
                case rel => exact ⟨j + 1, by omega, by go_num, BB⟩
                case measure => simp only [intOf]; omega
              · have kj : decide ((j : Int) > 0) = true := decide_eq_true (by omega)
                have kj' : decide ((0 : Int) < (j : Int)) = true := decide_eq_true (by omega)
                have kj2 : decide (0 < j) = true := decide_eq_true (by omega)
                have hw2 : IntKind.i64.wrap ((j : Int) - 1) = ((i0 : Nat) : Int) := by rw [IntWalk.i64_in _ (by omega)]; omega
                have ii := HMr.out.ix i0 hi0
                have f0 : decide ((y0 : Int) ≥ (x : Int)) = false := decide_eq_false (by omega)
                have f0' : decide ((x : Int) ≤ (y0 : Int)) = false := decide_eq_false (by omega)
                have f02 : decide (x ≤ y0) = false := decide_eq_false (by omega)
                clear hji
                go_wp2_with fail
                go_quiet (fail)
                go_wp2_with fail
                refine (of_in vb 30 x _ θ _ (HVJ.out _) hx30).mono ?_
                rintro e w9 ⟨rfl, b9⟩
                rw [HF.out, HFx.out.1, HFx.out.2]
                unfold grpV
                have bb9 : Below w8.heap.size w8 (w9.alloc (.cells #[.int .i64 (a : Nat), .int .i64 (s : Nat)] 45)) := ((below_drewN BJ.out _).trans (b9.mono (by have := BJ.out.size; simpa using this))).alloc (Nat.le_trans (by have := BJ.out.size; simpa using this) b9.size) _
                have rg := HR8.out.below bb9 hg8
                have h0 : (w9.alloc (.cells #[.int .i64 (a : Nat), .int .i64 (s : Nat)] 45)).cell? ⟨gb, 0, none⟩ = some (.int .i64 (a : Nat)) := rg.cell (i := 0) (by omega)
                have h1 : (w9.alloc (.cells #[.int .i64 (a : Nat), .int .i64 (s : Nat)] 45)).cell? ⟨gb, 1, none⟩ = some (.int .i64 (s : Nat)) := rg.cell (i := 1) (by omega)
                have BB := Lib.hid bb9
                have hge := Hge.out
                clear rg b9 bb9 HFx
                go_wp2_with fail
                go_roundw
                case rel => exact ⟨j + 1, by omega, by go_num, BB⟩
                case measure => simp only [intOf]; omega
            · have hjs2 : j = s := by omega
              subst hjs2
              obtain ⟨m1, m2, m3⟩ := M.out
              by_cases hgt : j > t3
              · have dg : decide ((j : Int) > (t3 : Int)) = true := decide_eq_true (by omega)
                have dg' : decide ((t3 : Int) < (j : Int)) = true := decide_eq_true (by omega)
                have dg2 : decide (t3 < j) = true := decide_eq_true (by omega)
                go_wp2_with fail
                go_roundw
                case rel => exact ⟨k + 1, by omega, by go_num, by rw [E1.out]; first | rfl | (simp; done), by rw [E2.out]; first | rfl | (simp; done), by rw [E3.out, Nat.max_eq_right (by omega)], BJ5⟩
                case measure => simp only [intOf]; omega
              · have dg : decide ((j : Int) > (t3 : Int)) = false := decide_eq_false (by omega)
                have dg' : decide ((t3 : Int) < (j : Int)) = false := decide_eq_false (by omega)
                have dg2 : decide (t3 < j) = false := decide_eq_false (by omega)
                go_wp2_with fail
                go_roundw
                case rel => exact ⟨k + 1, by omega, by go_num, by rw [E1.out]; first | rfl | (simp; done), by rw [E2.out]; first | rfl | (simp; done), by rw [E3.out, Nat.max_eq_left (by omega)], BJ5⟩
                case measure => simp only [intOf]; omega
      · have hkn : k = n := by omega
        subst hkn
        have hR := HR5.out.below BW.out hrl5
        have r0 : wr.cell? ⟨rb, 0, none⟩ = some (.int .i64 (lg : Nat)) := hR.cell (i := 0) (by omega)
        have r2 : wr.cell? ⟨rb, 2, none⟩ = some (.int .i64 (sq : Nat)) := hR.cell (i := 2) (by omega)
        rw [List.take_of_length_le (by have := Hn.out; omega), HSm.out, Hsq.out, Hlg.out]
        have k1 : (((30 : Nat) : Int) == 30) = true := rfl
        have k2 : ((sq : Int) == (sq : Int)) = true := by simp
        have k3 : ((lg : Int) == (lg : Int)) = true := by simp
        clear hR
        go_wp2_with fail
        refine (works_any wr).mono ?_
        rintro e w9 ⟨rfl, b9⟩
        go_wp2_with fail
        go_ret
        exact ⟨rfl, (B5.out.trans (BW.out.mono B5.out.size)).trans (b9.mono (Nat.le_trans B5.out.size BW.out.size))⟩
  · have k0 : decide ((L.length : Int) > 120) = true := decide_eq_true (by omega)
    have k0' : decide ((120 : Int) < (L.length : Int)) = true := decide_eq_true (by omega)
    go_enter Try.func5, Try.ntmps5
    go_wp2_with fail
    refine (works_any w).mono ?_
    rintro e w1 ⟨rfl, b1⟩
    go_wp2_with fail
    go_ret
    exact ⟨rfl, b1⟩
end Go.Proofs.Ytibdggbejogciaa
