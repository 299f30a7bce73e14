/- The walk of the law ModularStable: after greedy moves nothing can be gained. No conditions. -/
import Derived.Test.YtemcilmefknbbaaModF
import Derived.Test.YtemcilmefknbbaaModBk
namespace Go.Proofs.Ytemcilmefknbbaa
open Go.RowKit Go.Shelf

theorem mErr_ok {n : Nat} {E : List Ed} {L : List Int} (hL : L.length = n) : mErr (some (n, E)) L.length = 0 := by simp [mErr, hL]; rfl
/-- a gain, where there is one -/
theorem gain_is (B : Nat) (gv : Value) (n : Nat) (E : List Ed) (la : Option Addr) (lc : Nat) (LA : Nat → Addr) (L : List Int) (v : Nat) (t : Int) (w : World) (h : GV w B gv (some (n, E))) (hL : Sl 23 .i64 w B (.slice la L.length lc) L LA) (hB : B ≤ w.heap.size) (hW : LWf L) (ht : (Lit.int .i64 t).wf = true) (hn : L.length = n) (hv : v < n) :
    Calls Try.prog 24 #[gv, .slice la L.length lc, .int .i64 (v : Nat), .int .i64 t] w fun e w' => e = .returned (.tuple #[.agg #[.int .i64 (frN E.length (gainZ E L v t)), .int .i64 (frD E.length (gainZ E L v t))], .int .i64 0]) ∧ Below w.heap.size w w' := by
  have := gain_any B gv (some (n, E)) la lc LA L v t w h hL hB hW ht
  obtain ⟨g1, g2, g3⟩ := ga_ok (E := E) t hn hv
  rw [g1, g2, g3] at this
  exact this
/-- a modularity, where there is one -/
theorem quality_is (B : Nat) (gv : Value) (n : Nat) (E : List Ed) (la : Option Addr) (lc : Nat) (LA : Nat → Addr) (L : List Int) (w : World) (h : GV w B gv (some (n, E))) (hL : Sl 23 .i64 w B (.slice la L.length lc) L LA) (hB : B ≤ w.heap.size) (hW : LWf L) (hn : L.length = n) :
    Calls Try.prog 16 #[gv, .slice la L.length lc] w fun e w' => e = .returned (.tuple #[.agg #[.int .i64 (frN E.length (num E L)), .int .i64 (frD E.length (num E L))], .int .i64 0]) ∧ Below w.heap.size w w' := by
  have := quality_any B gv (some (n, E)) la lc LA L w h hL hB hW
  have h0 := mErr_ok (E := E) hn
  rw [qlN, qlD, if_pos h0, if_pos h0, h0] at this
  exact this
theorem inside_is (B : Nat) (gv : Value) (n : Nat) (E : List Ed) (la : Option Addr) (lc : Nat) (LA : Nat → Addr) (L : List Int) (w : World) (h : GV w B gv (some (n, E))) (hL : Sl 23 .i64 w B (.slice la L.length lc) L LA) (hB : B ≤ w.heap.size) (hn : L.length = n) :
    Calls Try.prog 18 #[gv, .slice la L.length lc] w fun e w' => e = .returned (.tuple #[.int .i64 (inN E L : Int), .int .i64 0]) ∧ Below w.heap.size w w' := by
  have := inside_any B gv (some (n, E)) la lc LA L w h hL hB
  have h0 := mErr_ok (E := E) hn
  rw [insN, if_pos h0, h0] at this
  exact this
set_option maxHeartbeats 1000000 in
theorem less_any (x y z u : Int) (w : World) (h1 : -1073741824 ≤ x ∧ x ≤ 1073741824) (h2 : 0 ≤ u ∧ u ≤ 1073741824) (h3 : -1073741824 ≤ z ∧ z ≤ 1073741824) (h4 : 0 ≤ y ∧ y ≤ 1073741824) :
    Calls Try.prog 26 #[.agg #[.int .i64 x, .int .i64 y], .agg #[.int .i64 z, .int .i64 u]] w fun e w' => e = .returned (.bool (decide (x * u < z * y))) ∧ Below w.heap.size w w' := by
  have b1 := mul_bd h1 h2
  have b2 := mul_bd h3 h4
  have w1 : IntKind.i64.wrap (x * u) = x * u := IntWalk.i64_in _ (by omega)
  have w2 : IntKind.i64.wrap (z * y) = z * y := IntWalk.i64_in _ (by omega)
  have hb : Below w.heap.size w ((w.alloc (.cells #[.int .i64 x, .int .i64 y] 33)).alloc (.cells #[.int .i64 z, .int .i64 u] 33)) := ((Below.refl _ _).alloc (Nat.le_refl _) _).alloc (by simp) _
  have c0 : ((w.alloc (.cells #[.int .i64 x, .int .i64 y] 33)).alloc (.cells #[.int .i64 z, .int .i64 u] 33)).cell? ⟨w.heap.size, 0, none⟩ = some (.int .i64 x) := by go_simp
  have c1 : ((w.alloc (.cells #[.int .i64 x, .int .i64 y] 33)).alloc (.cells #[.int .i64 z, .int .i64 u] 33)).cell? ⟨w.heap.size, 1, none⟩ = some (.int .i64 y) := by go_simp
  have c2 : ((w.alloc (.cells #[.int .i64 x, .int .i64 y] 33)).alloc (.cells #[.int .i64 z, .int .i64 u] 33)).cell? ⟨w.heap.size + 1, 0, none⟩ = some (.int .i64 z) := by go_simp
  have c3 : ((w.alloc (.cells #[.int .i64 x, .int .i64 y] 33)).alloc (.cells #[.int .i64 z, .int .i64 u] 33)).cell? ⟨w.heap.size + 1, 1, none⟩ = some (.int .i64 u) := by go_simp
  go_enter Try.func26, Try.ntmps26
  go_wp2_with fail
  go_ret
  exact ⟨rfl, hb⟩

set_option maxRecDepth 100000 in
set_option maxHeartbeats 4000000 in
theorem stable_walk (n : Int) (a : Option Addr) (c : Nat) (E : List Ed) (la : Option Addr) (lc : Nat) (L : List Int) (w : World) (hS : CS w w.heap.size a c E la lc L) :
    Calls Try.prog 9 #[.agg #[.int .i64 n, .slice a E.length c, .slice la L.length lc]] w fun e w' => e = .returned (.bool true) ∧ Below w.heap.size w w' := by
  have hC := CB.new w n a E.length c la L.length lc 25
  have hb : Below w.heap.size w (w.alloc (.cells #[.int .i64 n, .slice a E.length c, .slice la L.length lc] 25)) := (Below.refl _ _).alloc (Nat.le_refl _) _
  have hs : (w.alloc (.cells #[.int .i64 n, .slice a E.length c, .slice la L.length lc] 25)).heap.size = w.heap.size + 1 := by simp
  have HF := Lib.hid (fits_any w.heap.size n a c E la lc L _ (hS.below hb) (by omega))
  have HC := Lib.hid hC
  have HS := Lib.hid (hS.below hb)
  have c0 := hC.c0; have c1 := hC.c1; have c2 := hC.c2
  clear hC hS
  go_enter Try.func9, Try.ntmps9
  go_wp2_with fail
  refine HF.out.mono ?_
  clear HF
  generalize w.alloc (.cells #[.int .i64 n, .slice a E.length c, .slice la L.length lc] 25) = W0 at *
  clear c0 c1 c2
  rintro e w1 ⟨p, rfl, hG, hb1⟩
  have hC1 := HC.out.below hb1 (by omega)
  have c0 := hC1.c0; have c1 := hC1.c1; have c2 := hC1.c2
  have bel1 : Below w.heap.size w w1 := hb.trans (hb1.mono (by omega))
  have hsz1 : w.heap.size + 1 ≤ w1.heap.size := by have := hb1.size; omega
  have HG := Lib.hid hG
  clear hC1 hG
  cases hf : fitB n E L with
  | false =>
    go_wp2_with fail
    refine (works_any _).mono ?_
    rintro e w2 ⟨rfl, hb2⟩
    go_wp2_with fail
    go_ret
    exact ⟨rfl, stepB0 bel1 hb2⟩
  | true =>
    obtain ⟨k, rfl, G, hk⟩ := fit_true hf
    have HK := Lib.hid hk
    clear hf hk
    have hSm := Lib.hid (fun W => small_any k a E.length c la L.length lc 25 60 W (by omega))
    generalize hsb : decide ((k : Int) ≤ 25 ∧ (E.length : Int) ≤ 60 ∧ (L.length : Int) ≤ 25 + 1) = sb at *
    have hSw : CB w1 w.heap.size k (.slice a E.length c) (.slice la L.length lc) := ⟨c0, c1, c2⟩
    cases sb with
    | false =>
      go_wp2_with fail
      refine (hSm.out _).mono ?_
      rintro e w2 ⟨rfl, hb2⟩
      have bel2 := stepB0 bel1 hb2
      go_wp2_with fail
      refine (works_any _).mono ?_
      rintro e w3 ⟨rfl, hb3⟩
      go_wp2_with fail
      go_ret
      exact ⟨rfl, stepB0 bel2 hb3⟩
    | true =>
      go_wp2_with fail
      refine (hSm.out _).mono ?_
      rintro e w2 ⟨rfl, hb2⟩
      have hC2 := hSw.below hb2 hsz1
      have bel2 := stepB0 bel1 hb2
      have hk30 : k ≤ 25 ∧ E.length ≤ 60 := by simp at hsb; omega
      clear hSm hsb c0 c1 c2
      have c0 := hC2.c0; have c1 := hC2.c1; have c2 := hC2.c2
      have HGV := Lib.hid (show GV w2 w2.heap.size (.pointer p) (some (k, E)) by have := HG.out; rw [gO_some G] at this; exact (this.below hb2).mono hb2.size)
      have hCS2 := (HS.out.below (hb1.mono (by omega))).below (hb2.mono (by omega))
      obtain ⟨LA, hSl⟩ := hCS2.l
      obtain ⟨EA, hES⟩ := hCS2.e
      have hB2 : w.heap.size ≤ w2.heap.size := by have := hb2.size; omega
      have hlt2 : w.heap.size < w2.heap.size := by have := hb2.size; omega
      have HW := Lib.hid HS.out.wf
      have HSl := Lib.hid (hSl.mono hB2)
      have HES := Lib.hid (hES.mono hB2)
      have HGr := Lib.hid (greedy_any w2.heap.size (.pointer p) (some (k, E)) la lc LA L w2 HGV.out HSl.out (Nat.le_refl _) HW.out)
      have HZ := Lib.hid (mErr_ok (E := E) HK.out)
      clear hSl hES hCS2
      go_wp2_with fail
      refine HGr.out.mono ?_
      rintro e w3 ⟨hb3, hres⟩
      rcases hres with ⟨h0, _⟩ | ⟨-, R, ra, rc, RA, hgr, rfl, hRS, hRW⟩
      · exact absurd HZ.out h0
      have hRk : R.length = k := hgr.len.trans HK.out
      subst hRk
      have HGd := Lib.hid (show Greed E L R from hgr)
      have HRW := Lib.hid hRW
      have hC3 := hC2.below hb3 hlt2
      clear c0 c1 c2
      have c0 := hC3.c0; have c1 := hC3.c1; have c2 := hC3.c2
      have hs3 := hb3.size
      have HQ1 := Lib.hid (quality_is w2.heap.size (.pointer p) R.length E la lc LA L w3 (HGV.out.below hb3) (HSl.out.below hb3) hs3 HW.out HK.out)
      have HRS := Lib.hid hRS
      have hbs1 := frN_size (num_lo G HK.out) (num_hi E L)
      have hbs2 := frN_size (num_lo G rfl) (num_hi E R)
      have hds1 := frD_le G.m_le (num E L)
      have hds2 := frD_le G.m_le (num E R)
      have hdp1 := frD_pos E.length (num E L)
      have hdp2 := frD_pos E.length (num E R)
      have hless : decide (frN E.length (num E R) * frD E.length (num E L) < frN E.length (num E L) * frD E.length (num E R)) = false := decide_eq_false (fr_less E.length HGd.out.num_le)
      clear hRW hRS hgr HGr
      have HQ2 := Lib.hid (fun W (hW : Below w3.heap.size w3 W) => quality_is w3.heap.size (.pointer p) R.length E ra rc RA R W (((HGV.out.below hb3).mono hs3).below hW) (HRS.out.below hW) hW.size HRW.out rfl)
      generalize frN E.length (num E L) = N1 at *
      generalize frD E.length (num E L) = D1 at *
      generalize frN E.length (num E R) = N2 at *
      generalize frD E.length (num E R) = D2 at *
      go_wp2_with fail
      refine HQ1.out.mono ?_
      rintro e w4 ⟨rfl, hb4⟩
      have T4 := Two.new w4 N1 D1 33
      have hb5 : Below w3.heap.size w3 (w4.alloc (.cells #[.int .i64 N1, .int .i64 D1] 33)) := hb4.alloc hb4.size _
      have hs5 : (w4.alloc (.cells #[.int .i64 N1, .int .i64 D1] 33)).heap.size = w4.heap.size + 1 := by simp
      clear c0 c1 c2 HQ1
      go_upto_region 8 with fail
      generalize w4.alloc (.cells #[.int .i64 N1, .int .i64 D1] 33) = W5 at *
      have hlt5 : w4.heap.size < W5.heap.size := by omega
      clear hs5
      have HQ3 := Lib.hid (HQ2.out W5 hb5)
      go_wp2_with fail
      refine HQ3.out.mono ?_
      rintro e w6 ⟨rfl, hb6⟩
      have T6 := T4.below hb6 hlt5
      have T7 := Two.new w6 N2 D2 33
      have hs6 := hb6.size
      have hb7 : Below W5.heap.size W5 (w6.alloc (.cells #[.int .i64 N2, .int .i64 D2] 33)) := hb6.alloc hs6 _
      have T8 := T6.below ((Below.refl w6.heap.size w6).alloc (Nat.le_refl _) (.cells #[.int .i64 N2, .int .i64 D2] 33)) (by omega)
      have hs7 : (w6.alloc (.cells #[.int .i64 N2, .int .i64 D2] 33)).heap.size = w6.heap.size + 1 := by simp
      have e0 := T7.c0; have e1 := T7.c1; have e2 := T8.c0; have e3 := T8.c1
      have bel7 : Below w3.heap.size w3 (w6.alloc (.cells #[.int .i64 N2, .int .i64 D2] 33)) := stepB0 hb5 hb7
      clear T4 T6 T7 T8 HQ3 hb4 hb5 hb6 hb7
      go_upto_region 9 with fail
      generalize w6.alloc (.cells #[.int .i64 N2, .int .i64 D2] 33) = W7 at *
      have HLs := Lib.hid (less_any N2 D2 N1 D1 W7 (by omega) (by omega) (by omega) (by omega))
      rw [hless] at HLs
      clear hs7
      go_wp2_with fail
      refine HLs.out.mono ?_
      rintro e w8 ⟨rfl, hb8⟩
      have bel8 := stepB0 bel7 hb8
      clear HLs e0 e1 e2 e3 hless hb8 bel7
      have hC8 := hC3.below bel8 (by omega)
      have HC8 := Lib.hid hC8
      have hs8 := bel8.size
      have HV8 := Lib.hid ((((HGV.out.below hb3).mono hs3).below bel8).mono hs8)
      have HR8 := Lib.hid ((HRS.out.below bel8).mono hs8)
      have HE8 := Lib.hid ((((HES.out.below hb3).mono hs3).below bel8).mono hs8)
      have bel83 : Below w.heap.size w w8 := stepB0 (stepB0 bel2 hb3) bel8
      clear hC8 hC3 hC2 HQ2
      go_wp2_with fail
      go_loopw [11] (fun i wr => ∃ q : Nat, q ≤ E.length ∧ i = .int .i64 q ∧ Below w8.heap.size w8 wr) (fun i _ => E.length - (intOf i).toNat)
      case atStart => exact ⟨0, Nat.zero_le _, rfl, Below.refl _ _⟩
      case round =>
        obtain ⟨q, hq, rfl, bel⟩ := hrel
        have hCr := HC8.out.below bel (by omega)
        have c0 := hCr.c0; have c1 := hCr.c1; have c2 := hCr.c2
        have belw := bel83.trans (bel.mono (by have := bel83.size; omega))
        by_cases hlt : q < E.length
        · obtain ⟨x, y, hx, hy, hxn, hyn, -⟩ := G.nats hlt
          obtain ⟨hg1, hg2⟩ := greed_edge G HGd.out rfl hlt hx hy hxn hyn
          have hf1 := frN_le0 E.length hg1
          have hf2 := frN_le0 E.length hg2
          have h1 := HE8.out.below bel
          have ix := h1.ix q hlt
          have d0 := ES.u h1 hlt
          have d1 := ES.v h1 hlt
          rw [hx] at d0; rw [hy] at d1
          have hR := HR8.out.below bel
          have i0 := hR.ix x hxn
          have i1 := hR.ix y hyn
          have l0 := Sl.at hR hxn
          have l1 := Sl.at hR hyn
          have HA1 := Lib.hid (gain_is w8.heap.size (.pointer p) R.length E ra rc RA R x (nth R y) wr (HV8.out.below bel) hR bel.size HRW.out (HRW.out.nth hyn) rfl hxn)
          have HA2 := Lib.hid (fun W (hW : Below w8.heap.size w8 W) => gain_is w8.heap.size (.pointer p) R.length E ra rc RA R y (nth R x) W (HV8.out.below hW) (HR8.out.below hW) hW.size HRW.out (HRW.out.nth hxn) rfl hyn)
          generalize frN E.length (gainZ E R x (nth R y)) = M1 at *
          generalize frD E.length (gainZ E R x (nth R y)) = K1 at *
          generalize frN E.length (gainZ E R y (nth R x)) = M2 at *
          generalize frD E.length (gainZ E R y (nth R x)) = K2 at *
          clear h1 hg1 hg2 hx hy hR
          go_wp2_with fail
          refine HA1.out.mono ?_
          rintro e w9 ⟨rfl, hb9⟩
          have T9 := Two.new w9 M1 K1 33
          have hb10 : Below wr.heap.size wr (w9.alloc (.cells #[.int .i64 M1, .int .i64 K1] 33)) := hb9.alloc hb9.size _
          have hs10 : (w9.alloc (.cells #[.int .i64 M1, .int .i64 K1] 33)).heap.size = w9.heap.size + 1 := by simp
          have bel10 := stepB0 bel hb10
          have hR := HR8.out.below bel10
          clear i0 i1 l0 l1 HA1 c0 c1 c2 ix d0 d1 hb9 hb10
          have i0 := hR.ix x hxn
          have l0 := Sl.at hR hxn
          clear hR
          go_upto_region 17 with fail
          generalize w9.alloc (.cells #[.int .i64 M1, .int .i64 K1] 33) = W10 at *
          have hlt10 : w9.heap.size < W10.heap.size := by omega
          clear hs10
          have HA3 := Lib.hid (HA2.out W10 bel10)
          clear HA2
          go_wp2_with fail
          refine HA3.out.mono ?_
          rintro e w11 ⟨rfl, hb11⟩
          have T11 := T9.below hb11 hlt10
          have T12 := Two.new w11 M2 K2 33
          have hs11 := hb11.size
          have hb12 : Below W10.heap.size W10 (w11.alloc (.cells #[.int .i64 M2, .int .i64 K2] 33)) := hb11.alloc hs11 _
          have T13 := T11.below ((Below.refl w11.heap.size w11).alloc (Nat.le_refl _) (.cells #[.int .i64 M2, .int .i64 K2] 33)) (by omega)
          have e0 := T12.c0; have e2 := T13.c0
          have bel12 := stepB0 bel10 hb12
          have hn1 : decide (M1 > 0) = false := decide_eq_false (by omega)
          have hn2 : decide (M2 > 0) = false := decide_eq_false (by omega)
          clear T9 T11 T12 T13 HA3 hb11 hb12
          go_upto_region 18 with fail
          generalize w11.alloc (.cells #[.int .i64 M2, .int .i64 K2] 33) = W12 at *
          go_wp2_with fail
          go_roundw
          case rel => exact ⟨q + 1, by omega, by go_num, bel12⟩
          case measure => simp only [intOf]; omega
        · obtain rfl : q = E.length := by omega
          have HGr2 := Lib.hid (greedy_any w8.heap.size (.pointer p) (some (R.length, E)) ra rc RA R wr (HV8.out.below bel) (HR8.out.below bel) bel.size HRW.out)
          have HRr := Lib.hid ((HR8.out.below bel).mono bel.size)
          go_wp2_with fail
          refine HGr2.out.mono ?_
          rintro e w13 ⟨hb13, hres⟩
          rcases hres with ⟨h0, _⟩ | ⟨-, R2, ra2, rc2, RA2, hgr2, rfl, hRS2, -⟩
          · exact absurd (mErr_ok rfl) h0
          obtain rfl : R2 = R := Greed.same hgr2 HGd.out.again
          have HSm := Lib.hid (same_any w13.heap.size ra2 ra rc2 rc RA2 RA R2 w13 hRS2 ((HRr.out.below hb13).mono hb13.size) (Nat.le_refl _) (by omega))
          have bel13 := stepB0 belw hb13
          clear hRS2 hgr2 HGr2
          go_wp2_with fail
          refine HSm.out.mono ?_
          rintro e w14 ⟨rfl, hb14⟩
          go_wp2_with fail
          refine (works_any _).mono ?_
          rintro e w15 ⟨rfl, hb15⟩
          go_wp2_with fail
          go_ret
          exact ⟨rfl, stepB0 (stepB0 bel13 hb14) hb15⟩
end Go.Proofs.Ytemcilmefknbbaa
