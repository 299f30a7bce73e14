/- The document's moved, gain, Gain; the walk of the law ModularGains. No conditions. -/
import Derived.Test.YtemcilmefknbbaaModQl
namespace Go.Proofs.Ytemcilmefknbbaa
open Go.RowKit Go.Shelf

set_option maxHeartbeats 1000000 in
theorem moved_any (B : Nat) (la : Option Addr) (lc : Nat) (LA : Nat → Addr) (L : List Int) (v : Nat) (t : Int) (w : World) (hL : Sl 23 .i64 w B (.slice la L.length lc) L LA) (hB : B ≤ w.heap.size) (hv : v < L.length) (hl : L.length ≤ 1000000) :
    Calls Try.prog 63 #[.slice la L.length lc, .int .i64 (v : Nat), .int .i64 t] w fun e w' => ∃ g cp A, e = .returned (.slice (some ⟨g, 0, none⟩) (L.set v t).length cp) ∧ Sl 23 .i64 w' w'.heap.size (.slice (some ⟨g, 0, none⟩) (L.set v t).length cp) (L.set v t) A ∧ Below w.heap.size w w' := by
  have HL := Lib.hid hL
  clear hL
  go_enter Try.func63, Try.ntmps63
  go_wp2_with (at_builtin; refine Hid.out ?_)
  refine Lib.hid ?_
  refine copiedAny etI rfl _ _ rfl HL.out hB (fun i _ j _ => rfl) _ rfl rfl rfl (by omega) (by omega) ?_
  intro g cp w5 hg5 R5 hb5
  have hR5 := row_copied R5
  have k5 : w5.cell? ⟨g, v, none⟩ = some (.int .i64 (nth L v)) := hR5.cell hv
  have z5 : w5.frozen? ⟨g, v, none⟩ = false := hR5.frozen v
  have HS6 := Lib.hid (sl_set (cap := cp) (hR5.set v (.int .i64 t)) hv)
  have hb6 : Below w.heap.size w (w5.setCell ⟨g, v, none⟩ (.int .i64 t)) := hb5.setCell hg5 _
  have HLn := Lib.hid (show (L.set v t).length = L.length from List.length_set)
  clear hR5 R5 hb5
  go_wp2_with fail
  go_ret
  exact ⟨g, cp, _, by rw [HLn.out]; rfl, HS6.out, hb6⟩
set_option maxRecDepth 100000 in
set_option maxHeartbeats 1000000 in
theorem rgain0_any (B : Nat) (x : Value) (n : Nat) (E : List Ed) (la : Option Addr) (lc : Nat) (LA : Nat → Addr) (L : List Int) (v : Nat) (t : Int) (w : World) (h : RG w B x (some (n, E))) (hL : Sl 23 .i64 w B (.slice la L.length lc) L LA) (hB : B ≤ w.heap.size) (hn : L.length = n) (hv : v < n) :
    Calls Try.prog 42 #[x, .slice la L.length lc, .int .i64 (v : Nat), .int .i64 t] w fun e w' => e = .returned (.int .i64 (gainZ E L v t)) ∧ Below w.heap.size w w' := by
  have G : GOk n E := by obtain ⟨b, _, h2⟩ := h; exact h2.ok
  have hnl := G.n_le
  have HM := Lib.hid (moved_any B la lc LA L v t w hL hB (by omega) (by omega))
  have HX := Lib.hid h; have HL := Lib.hid hL; have HN := Lib.hid hn
  have hx1 := num_hi E L
  have hx2 := num_lo G hn
  have hx3 := mm_le G
  have hx4 := num_hi E (L.set v t)
  have hx5 := num_lo (L := L.set v t) G (by rw [List.length_set]; exact hn)
  have HGz := Lib.hid (show num E (L.set v t) - num E L = gainZ E L v t from rfl)
  have HD := Lib.hid (fun W (hW : Below w.heap.size w W) => rnum_any B x n E la lc LA L W (h.below (hW.mono hB)) (hL.below (hW.mono hB)) (Nat.le_trans hB hW.size) hn)
  have hq1 : -1073741824 ≤ num E L ∧ num E L ≤ 1073741824 := by omega
  have hq2 : -1073741824 ≤ num E (L.set v t) ∧ num E (L.set v t) ≤ 1073741824 := by omega
  clear hx1 hx2 hx3 hx4 hx5 h hL hn G
  go_enter Try.func42, Try.ntmps42
  go_wp2_with fail
  refine HM.out.mono ?_
  rintro e w1 ⟨g, cp, A, rfl, hS, hb1⟩
  have HE := Lib.hid (rnum_any w1.heap.size x n E (some ⟨g, 0, none⟩) cp A (L.set v t) w1 ((HX.out.below (hb1.mono hB)).mono (Nat.le_trans hB hb1.size)) hS (Nat.le_refl _) (by rw [List.length_set]; exact HN.out))
  rw [List.length_set] at HE
  generalize num E (L.set v t) = N2 at *
  generalize num E L = N1 at *
  clear hS HM
  go_wp2_with fail
  refine HE.out.mono ?_
  rintro e w2 ⟨rfl, hb2⟩
  have bel2 := stepB0 hb1 hb2
  go_wp2_with fail
  refine (HD.out _ bel2).mono ?_
  rintro e w3 ⟨rfl, hb3⟩
  have hw : IntKind.i64.wrap (N2 - N1) = N2 - N1 := IntWalk.i64_in _ (by omega)
  go_wp2_with fail
  go_ret
  exact ⟨by rw [← HGz.out]; rfl, stepB0 bel2 hb3⟩

set_option maxRecDepth 100000 in
set_option maxHeartbeats 2000000 in
theorem rgain_any (B : Nat) (x : Value) (o : Option (Nat × List Ed)) (la : Option Addr) (lc : Nat) (LA : Nat → Addr) (L : List Int) (v t : Int) (w : World) (h : RG w B x o) (hL : Sl 23 .i64 w B (.slice la L.length lc) L LA) (hB : B ≤ w.heap.size) :
    Calls Try.prog 25 #[x, .slice la L.length lc, .int .i64 v, .int .i64 t] w fun e w' => e = .returned (.tuple #[.agg #[.int .i64 (gaN o L v t), .int .i64 (gaD o L v t)], .int .i64 (gaE o L v)]) ∧ Below w.heap.size w w' := by
  have hb1 : Below w.heap.size w (w.alloc (.cells #[.int .i64 0, .int .i64 0] 33)) := (Below.refl _ _).alloc (Nat.le_refl _) _
  have hs1 : (w.alloc (.cells #[.int .i64 0, .int .i64 0] 33)).heap.size = w.heap.size + 1 := by simp
  have T1 := Two.new w 0 0 33
  have h1 := h.below (hb1.mono hB)
  have HW := Lib.hid (wrong_any B x o la L.length lc _ h1)
  by_cases hz : mErr o L.length = 0
  · obtain ⟨⟨n, E⟩, rfl, hn⟩ := mErr_zero hz
    have hn' : L.length = n := hn
    have G : GOk n E := by obtain ⟨b, _, h2⟩ := h; exact h2.ok
    rw [hz] at HW
    cases hh : gHas (some (n, E)) v with
    | true =>
      obtain ⟨k, rfl, hk⟩ := gHas_iff.1 hh
      have hk : k < n := hk
      have HH := Lib.hid (rhas_is hh h1)
      obtain ⟨g1, g2, g3⟩ := ga_ok (E := E) t hn' hk
      have hgb := gain_bd G hn' k t
      have HM := Lib.hid (rgain0_any B x n E la lc LA L k t _ h1 (hL.below (hb1.mono hB)) (by omega) hn' hk)
      have HR := Lib.hid (fun W (hW : Below w.heap.size w W) => rrat_any B x n E (gainZ E L k t) W (h.below (hW.mono hB)) (Nat.le_trans hB hW.size) (by omega) (by omega))
      have H1 := Lib.hid g1; have H2 := Lib.hid g2; have H3 := Lib.hid g3
      clear hz hn hn' h1 h hL hh g1 g2 g3
      generalize gainZ E L k t = gz at *
      go_enter Try.func25, Try.ntmps25
      go_wp2_with fail
      generalize w.alloc (.cells #[.int .i64 0, .int .i64 0] 33) = W1 at *
      refine HW.out.mono ?_
      rintro e w1 ⟨rfl, rfl⟩
      go_wp2_with fail
      refine HH.out.mono ?_
      rintro e w1 ⟨rfl, rfl⟩
      go_wp2_with fail
      refine HM.out.mono ?_
      rintro e w2 ⟨rfl, hb2⟩
      have bel2 := stepB0 hb1 hb2
      have T2 := T1.below hb2 (by omega)
      go_wp2_with fail
      refine (HR.out _ bel2).mono ?_
      rintro e w3 ⟨rfl, hb3⟩
      have T3 := T2.below hb3 T2.lt
      have bel3 := stepB0 bel2 hb3
      generalize frN E.length gz = p at *
      generalize frD E.length gz = q at *
      have c0 := T3.c0; have c1 := T3.c1; have z := T3.z
      have T4 := T3.put p q
      have d0 := T4.c0; have d1 := T4.c1
      clear T1 T2 T3 T4 HM HR HW HH
      go_wp2_with fail
      exact bodyPost_ret (v := .tuple #[.agg #[.int .i64 p, .int .i64 q], .int .i64 0]) (by simp [results, Try.results25, go_sem, d0, d1]) rfl ⟨by rw [H1.out, H2.out, H3.out], (bel3.setCell (p := ⟨w.heap.size, 0, none⟩) (Nat.le_refl _) _).setCell (p := ⟨w.heap.size, 1, none⟩) (Nat.le_refl _) _⟩
    | false =>
      have HH := Lib.hid (rhas_is hh h1)
      have g1 : gaE (some (n, E)) L v = 3 := by rw [gaE, if_pos hz, hh]; rfl
      have HX := Lib.hid (show gaN (some (n, E)) L v t = 0 ∧ gaD (some (n, E)) L v t = 0 ∧ gaE (some (n, E)) L v = 3 by rw [gaN, gaD, g1]; exact ⟨rfl, rfl, rfl⟩)
      have c0 := T1.c0; have c1 := T1.c1; have z := T1.z
      have T4 := T1.put 0 0
      have d0 := T4.c0; have d1 := T4.c1
      clear hz hn hn' h1 h hL hh g1 T1 T4
      go_enter Try.func25, Try.ntmps25
      go_wp2_with fail
      generalize w.alloc (.cells #[.int .i64 0, .int .i64 0] 33) = W1 at *
      refine HW.out.mono ?_
      rintro e w1 ⟨rfl, rfl⟩
      go_wp2_with fail
      refine HH.out.mono ?_
      rintro e w1 ⟨rfl, rfl⟩
      go_wp2_with fail
      exact bodyPost_ret (v := .tuple #[.agg #[.int .i64 0, .int .i64 0], .int .i64 3]) (by simp [results, Try.results25, go_sem, d0, d1]) rfl ⟨by rw [HX.out.1, HX.out.2.1, HX.out.2.2], (hb1.setCell (p := ⟨w.heap.size, 0, none⟩) (Nat.le_refl _) _).setCell (p := ⟨w.heap.size, 1, none⟩) (Nat.le_refl _) _⟩
  · have g1 : gaE o L v = mErr o L.length := by rw [gaE, if_neg hz]
    have HX := Lib.hid (show gaN o L v t = 0 ∧ gaD o L v t = 0 ∧ gaE o L v = mErr o L.length by rw [gaN, gaD, g1, if_neg hz, if_neg hz]; exact ⟨rfl, rfl, rfl⟩)
    obtain ⟨ee, hee⟩ : ∃ ee, mErr o L.length = ee := ⟨_, rfl⟩
    rw [hee] at HW hz
    have hb : (ee != 0) = true := by simpa using hz
    have HE2 := Lib.hid hee
    have c0 := T1.c0; have c1 := T1.c1; have z := T1.z
    have T4 := T1.put 0 0
    have d0 := T4.c0; have d1 := T4.c1
    clear hz hee h hL h1 T1 T4 g1
    go_enter Try.func25, Try.ntmps25
    go_wp2_with fail
    generalize w.alloc (.cells #[.int .i64 0, .int .i64 0] 33) = W1 at *
    refine HW.out.mono ?_
    rintro e w1 ⟨rfl, rfl⟩
    go_wp2_with fail
    exact bodyPost_ret (v := .tuple #[.agg #[.int .i64 0, .int .i64 0], .int .i64 ee]) (by simp [results, Try.results25, go_sem, d0, d1]) rfl ⟨by rw [HX.out.1, HX.out.2.1, HX.out.2.2, HE2.out], (hb1.setCell (p := ⟨w.heap.size, 0, none⟩) (Nat.le_refl _) _).setCell (p := ⟨w.heap.size, 1, none⟩) (Nat.le_refl _) _⟩

set_option maxRecDepth 100000 in
set_option maxHeartbeats 4000000 in
theorem gains_walk (n : Int) (a : Option Addr) (c : Nat) (E : List Ed) (la : Option Addr) (lc : Nat) (L : List Int) (v t : Int) (w : World) (hS : CS w w.heap.size a c E la lc L) (ht : (Lit.int .i64 t).wf = true) :
    Calls Try.prog 6 #[.agg #[.int .i64 n, .slice a E.length c, .slice la L.length lc], .int .i64 v, .int .i64 t] w fun e w' => e = .returned (.bool true) ∧ Below w.heap.size w w' := by
  have hC := CB.new w n a E.length c la L.length lc 25
  have hb : Below w.heap.size w (w.alloc (.cells #[.int .i64 n, .slice a E.length c, .slice la L.length lc] 25)) := (Below.refl _ _).alloc (Nat.le_refl _) _
  have hs : (w.alloc (.cells #[.int .i64 n, .slice a E.length c, .slice la L.length lc] 25)).heap.size = w.heap.size + 1 := by simp
  have HC := Lib.hid hC
  have HS := Lib.hid (hS.below hb)
  have hSm := Lib.hid (fun W => small_any n a E.length c la L.length lc 30 80 W (by omega))
  have c0 := hC.c0; have c1 := hC.c1; have c2 := hC.c2
  clear hC hS
  generalize hsb : decide (n ≤ 30 ∧ (E.length : Int) ≤ 80 ∧ (L.length : Int) ≤ 30 + 1) = sb at *
  clear hsb
  go_enter Try.func6, Try.ntmps6
  go_wp2_with fail
  refine (hSm.out _).mono ?_
  generalize w.alloc (.cells #[.int .i64 n, .slice a E.length c, .slice la L.length lc] 25) = W0 at *
  clear c0 c1 c2
  rintro e w1 ⟨rfl, hb1⟩
  have hC1 := HC.out.below hb1 (by omega)
  have c0 := hC1.c0; have c1 := hC1.c1; have c2 := hC1.c2
  have bel1 : Below w.heap.size w w1 := hb.trans (hb1.mono (by omega))
  have hsz1 : w.heap.size + 1 ≤ w1.heap.size := by have := hb1.size; omega
  clear hSm
  cases sb with
  | false =>
    clear hC1
    go_wp2_with fail
    refine (works_any _).mono ?_
    rintro e w2 ⟨rfl, hb2⟩
    go_wp2_with fail
    go_ret
    exact ⟨rfl, stepB0 bel1 hb2⟩
  | true =>
    have HS1 := Lib.hid (HS.out.below (hb1.mono (by omega)))
    have HB := Lib.hid (both_new w.heap.size n a c E la lc L w1 HS1.out (by omega))
    have HC1 := Lib.hid hC1
    clear hC1
    go_wp2_with fail
    refine HB.out.mono ?_
    rintro e w2 ⟨p, r, rfl, hG, hR, hb2⟩
    have bel2 := stepB0 bel1 hb2
    have hlt2 : w.heap.size < w2.heap.size := by have := hb2.size; omega
    have hC2 := HC1.out.below hb2 hsz1
    have HS2 := (HS1.out.below (hb2.mono (by omega))).mono (Nat.le_of_lt hlt2)
    obtain ⟨LA, hSl⟩ := HS2.l
    have HG := Lib.hid hG; have HR := Lib.hid hR; have HL := Lib.hid hSl
    have HW := Lib.hid HS2.wf
    have HC2 := Lib.hid hC2
    clear c0 c1 c2 hG hR hSl HB HS2
    have c0 := hC2.c0; have c1 := hC2.c1; have c2 := hC2.c2
    have HQ1 := Lib.hid (gain_any w2.heap.size (.pointer p) (gO n E) la lc LA L v t w2 HG.out HL.out (Nat.le_refl _) HW.out ht)
    have HQ2 := Lib.hid (fun W (hW : Below w2.heap.size w2 W) => rgain_any w2.heap.size r (gO n E) la lc LA L v t W (HR.out.below hW) (HL.out.below hW) hW.size)
    generalize gaN (gO n E) L v t = N1 at *
    generalize gaD (gO n E) L v t = D1 at *
    generalize gaE (gO n E) L v = e1 at *
    clear hC2
    go_wp2_with fail
    refine HQ1.out.mono ?_
    rintro e w3 ⟨rfl, hb3⟩
    have T3 := Two.new w3 N1 D1 33
    have bel4 : Below w2.heap.size w2 (w3.alloc (.cells #[.int .i64 N1, .int .i64 D1] 33)) := hb3.alloc hb3.size _
    have hs4 : (w3.alloc (.cells #[.int .i64 N1, .int .i64 D1] 33)).heap.size = w3.heap.size + 1 := by simp
    have hC4 := HC2.out.below bel4 hlt2
    clear HQ1 c0 c1 c2
    have c0 := hC4.c0; have c1 := hC4.c1; have c2 := hC4.c2
    clear hC4
    go_upto_region 5 with fail
    generalize w3.alloc (.cells #[.int .i64 N1, .int .i64 D1] 33) = W4 at *
    have hlt4 : w3.heap.size < W4.heap.size := by omega
    have HQ3 := Lib.hid (HQ2.out W4 bel4)
    clear hs4 HQ2
    go_wp2_with fail
    refine HQ3.out.mono ?_
    rintro e w5 ⟨rfl, hb5⟩
    have hs5 := hb5.size
    have T5 := Two.new w5 N1 D1 33
    have bel6 : Below w2.heap.size w2 (w5.alloc (.cells #[.int .i64 N1, .int .i64 D1] 33)) := (stepB0 bel4 hb5).alloc (Nat.le_trans bel4.size hs5) _
    have T6 := (T3.below hb5 hlt4).below ((Below.refl w5.heap.size w5).alloc (Nat.le_refl _) (.cells #[.int .i64 N1, .int .i64 D1] 33)) (by omega)
    have e0 := T5.c0; have e1' := T5.c1; have e2 := T6.c0; have e3 := T6.c1
    have q1 : ∀ w, (binOp .eql 33 (.agg #[.int .i64 N1, .int .i64 D1]) (.agg #[.int .i64 N1, .int .i64 D1])).run Try.prog w = .ok (.bool true) w := fun w => by simpa using frac_eq N1 D1 N1 D1 w
    clear HQ3 c0 c1 c2 T3 T5 T6
    go_upto_region 6 with fail
    generalize w5.alloc (.cells #[.int .i64 N1, .int .i64 D1] 33) = W6 at *
    go_wp2_with fail
    refine (works_any _).mono ?_
    rintro e w9 ⟨rfl, hb9⟩
    go_wp2_with fail
    go_ret
    exact ⟨rfl, stepB0 (stepB0 bel2 bel6) hb9⟩
end Go.Proofs.Ytemcilmefknbbaa
