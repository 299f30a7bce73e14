/- The walk of the law ModularRounds. No conditions. -/
import Derived.Test.YtemcilmefknbbaaModSp
import Derived.Test.YtemcilmefknbbaaModSt
namespace Go.Proofs.Ytemcilmefknbbaa
open Go.RowKit Go.Shelf

set_option maxRecDepth 100000 in
set_option maxHeartbeats 4000000 in
theorem rounds_walk (n : Int) (a : Option Addr) (c : Nat) (E : List Ed) (la : Option Addr) (lc : Nat) (L : List Int) (u v : Int) (hu : 0 ≤ u ∧ u ≤ 255) (hv : 0 ≤ v ∧ v ≤ 255) (w : World) (hS : CS w w.heap.size a c E la lc L) :
    Calls Try.prog 11 #[.agg #[.int .i64 n, .slice a E.length c, .slice la L.length lc], .int .u8 u, .int .u8 v] w fun e w' => e = .returned (.bool true) ∧ Below w.heap.size w w' := by
  have hC := CB.new w n a E.length c la L.length lc 25
  have hb : Below w.heap.size w (w.alloc (.cells #[.int .i64 n, .slice a E.length c, .slice la L.length lc] 25)) := (Below.refl _ _).alloc (Nat.le_refl _) _
  have hs : (w.alloc (.cells #[.int .i64 n, .slice a E.length c, .slice la L.length lc] 25)).heap.size = w.heap.size + 1 := by simp
  have HF := Lib.hid (fits_any w.heap.size n a c E la lc L _ (hS.below hb) (by omega))
  have HC := Lib.hid hC
  have HS := Lib.hid (hS.below hb)
  have c0 := hC.c0; have c1 := hC.c1; have c2 := hC.c2
  clear hC hS
  go_enter Try.func11, Try.ntmps11
  go_wp2_with fail
  refine HF.out.mono ?_
  clear HF
  generalize w.alloc (.cells #[.int .i64 n, .slice a E.length c, .slice la L.length lc] 25) = W0 at *
  clear c0 c1 c2
  rintro e w1 ⟨p, rfl, hG, hb1⟩
  have hC1 := HC.out.below hb1 (by omega)
  have c0 := hC1.c0; have c1 := hC1.c1; have c2 := hC1.c2
  have bel1 : Below w.heap.size w w1 := hb.trans (hb1.mono (by omega))
  have hsz1 : w.heap.size + 1 ≤ w1.heap.size := by have := hb1.size; omega
  have HG := Lib.hid hG
  clear hC1 hG
  cases hf : fitB n E L with
  | false =>
    go_wp2_with fail
    refine (works_any _).mono ?_
    rintro e w2 ⟨rfl, hb2⟩
    go_wp2_with fail
    go_ret
    exact ⟨rfl, stepB0 bel1 hb2⟩
  | true =>
    obtain ⟨k, rfl, G, hk⟩ := fit_true hf
    have HK := Lib.hid hk
    clear hf hk
    have hSm := Lib.hid (fun W => small_any k a E.length c la L.length lc 30 80 W (by omega))
    generalize hsb : decide ((k : Int) ≤ 30 ∧ (E.length : Int) ≤ 80 ∧ (L.length : Int) ≤ 30 + 1) = sb at *
    have hSw : CB w1 w.heap.size k (.slice a E.length c) (.slice la L.length lc) := ⟨c0, c1, c2⟩
    cases sb with
    | false =>
      go_wp2_with fail
      refine (hSm.out _).mono ?_
      rintro e w2 ⟨rfl, hb2⟩
      have bel2 := stepB0 bel1 hb2
      go_wp2_with fail
      refine (works_any _).mono ?_
      rintro e w3 ⟨rfl, hb3⟩
      go_wp2_with fail
      go_ret
      exact ⟨rfl, stepB0 bel2 hb3⟩
    | true =>
      go_wp2_with fail
      refine (hSm.out _).mono ?_
      rintro e w2 ⟨rfl, hb2⟩
      have hC2 := hSw.below hb2 hsz1
      have bel2 := stepB0 bel1 hb2
      have hk30 : k ≤ 30 ∧ E.length ≤ 80 := by simp at hsb; omega
      clear hSm hsb c0 c1 c2
      have c0 := hC2.c0; have c1 := hC2.c1; have c2 := hC2.c2
      have HGV := Lib.hid (show GV w2 w2.heap.size (.pointer p) (some (k, E)) by have := HG.out; rw [gO_some G] at this; exact (this.below hb2).mono hb2.size)
      have hCS2 := (HS.out.below (hb1.mono (by omega))).below (hb2.mono (by omega))
      obtain ⟨LA, hSl⟩ := hCS2.l
      obtain ⟨EA, hES⟩ := hCS2.e
      have hB2 : w.heap.size ≤ w2.heap.size := by have := hb2.size; omega
      have hlt2 : w.heap.size < w2.heap.size := by have := hb2.size; omega
      have HW := Lib.hid HS.out.wf
      have HSl := Lib.hid (hSl.mono hB2)
      have HES := Lib.hid (hES.mono hB2)
      obtain ⟨x, hx, hxu⟩ : ∃ x : Nat, x ≤ 20 ∧ RowKit.wrap64 (u.tmod 21) = x := ⟨(u % 21).toNat, by omega, by rw [Int.tmod_eq_emod_of_nonneg hu.1]; unfold RowKit.wrap64; omega⟩
      obtain ⟨y, hy, hyv⟩ : ∃ y : Nat, y ≤ 20 ∧ RowKit.wrap64 (v.tmod 21) = y := ⟨(v % 21).toNat, by omega, by rw [Int.tmod_eq_emod_of_nonneg hv.1]; unfold RowKit.wrap64; omega⟩
      have HX := Lib.hid hxu; have HY := Lib.hid hyv
      clear hxu hyv hu hv
      have hxy : RowKit.wrap64 ((x : Int) + (y : Int)) = ((x + y : Nat) : Int) := by unfold RowKit.wrap64; omega
      have hLl : L.length ≤ 31 := by have := HK.out; omega
      have HSP := Lib.hid (fun (M : List Int) (ma : Option Addr) (mc : Nat) (MA : Nat → Addr) (r : Nat) (W : World) (hM : M.length = L.length) (hb : Below w2.heap.size w2 W) (hS : Rd 23 1 W W.heap.size (.slice ma L.length mc) L.length (nums .i64 M) MA) (hr : r ≤ 1000) =>
        show Calls Try.prog 27 #[.pointer p, .slice ma L.length mc, .int .i64 (r : Nat)] W fun e W' => ∃ a c A, e = .returned (.tuple #[.slice a L.length c, .int .i64 0]) ∧ Rd 23 1 W' W'.heap.size (.slice a L.length c) L.length (nums .i64 (spr E r M)) A ∧ Below W.heap.size W W' by
          have := spread_any W.heap.size p k E ma mc MA M r W ((HGV.out.below hb).mono hb.size) (by rw [show (Sl 23 .i64 W W.heap.size (.slice ma M.length mc) M MA) = Rd 23 1 W W.heap.size (.slice ma M.length mc) M.length (nums .i64 M) MA from rfl, hM]; exact hS) (Nat.le_refl _) (by rw [hM, HK.out]) hr
          unfold SRes at this
          rw [hM] at this
          exact this)
      have HSA := Lib.hid (fun (M : List Int) (a1 a2 : Option Addr) (c1 c2 : Nat) (A1 A2 : Nat → Addr) (W : World) (hM : M.length = L.length) (h1 : Rd 23 1 W W.heap.size (.slice a1 L.length c1) L.length (nums .i64 M) A1) (h2 : Rd 23 1 W W.heap.size (.slice a2 L.length c2) L.length (nums .i64 M) A2) =>
        show Calls Try.prog 22 #[.slice a1 L.length c1, .slice a2 L.length c2] W fun e w' => e = .returned (.bool true) ∧ Below W.heap.size W w' by
          have := same_any W.heap.size a1 a2 c1 c2 A1 A2 M W (by rw [show (Sl 23 .i64 W W.heap.size (.slice a1 M.length c1) M A1) = Rd 23 1 W W.heap.size (.slice a1 M.length c1) M.length (nums .i64 M) A1 from rfl, hM]; exact h1) (by rw [show (Sl 23 .i64 W W.heap.size (.slice a2 M.length c2) M A2) = Rd 23 1 W W.heap.size (.slice a2 M.length c2) M.length (nums .i64 M) A2 from rfl, hM]; exact h2) (Nat.le_refl _) (by rw [hM]; omega)
          rw [hM] at this
          exact this)
      have H1 := Lib.hid (HSP.out L la lc LA x w2 rfl (Below.refl _ _) HSl.out (by omega))
      have hC2' := Lib.hid hC2
      clear hC2 hES HES
      go_wp2_with fail
      rw [HX.out, HY.out]
      refine H1.out.mono ?_
      rintro e w3 ⟨a1, q1, A1, rfl, hR1, hb3⟩
      have H2 := Lib.hid (HSP.out (spr E x L) a1 q1 A1 y w3 (spr_len _ _ _) hb3 hR1 (by omega))
      clear c0 c1 c2 H1
      have hlt3 : w.heap.size < w3.heap.size := by have := hb3.size; omega
      have hR1' := Lib.hid hR1
      clear hR1
      go_wp2_with fail
      refine H2.out.mono ?_
      rintro e w4 ⟨a2, q2, A2, rfl, hR2, hb4⟩
      have b4 := stepB0 hb3 hb4
      have hC4 := hC2'.out.below b4 hlt2
      have c0 := hC4.c0; have c1 := hC4.c1; have c2 := hC4.c2
      have H3 := Lib.hid (HSP.out L la lc LA (x + y) w4 rfl b4 ((HSl.out.below b4).mono b4.size) (by omega))
      have hR2' := Lib.hid hR2
      clear hR2 H2 hC4
      go_wp2_with fail
      refine H3.out.mono ?_
      rintro e w5 ⟨a3, q3, A3, rfl, hR3, hb5⟩
      have b5 := stepB0 b4 hb5
      have hC5 := hC2'.out.below b5 hlt2
      clear c0 c1 c2 H3
      have c0 := hC5.c0; have c1 := hC5.c1; have c2 := hC5.c2
      have H4 := Lib.hid (HSP.out L la lc LA 0 w5 rfl b5 ((HSl.out.below b5).mono b5.size) (by omega))
      have hR3' := Lib.hid hR3
      clear hR3 hC5
      go_wp2_with fail
      refine H4.out.mono ?_
      rintro e w6 ⟨a4, q4, A4, rfl, hR4, hb6⟩
      have b6 := stepB0 b5 hb6
      have hC6 := hC2'.out.below b6 hlt2
      clear c0 c1 c2 H4
      have c0 := hC6.c0; have c1 := hC6.c1; have c2 := hC6.c2
      have hLk : ((L.length : Int) != (k : Int)) = false := by have := HK.out; simp; omega
      have H5 := Lib.hid (HSA.out (spr E y (spr E x L)) a2 a3 q2 q3 A2 A3 w6 (by rw [spr_len, spr_len]) ((hR2'.out.below (hb5.trans (hb6.mono hb5.size))).mono (by have := hb5.size; have := hb6.size; omega)) (by rw [← spr_add]; exact (hR3'.out.below hb6).mono hb6.size))
      have hR4' := Lib.hid hR4
      clear hR4 hC6
      go_wp2_with fail
      refine H5.out.mono ?_
      rintro e w7 ⟨rfl, hb7⟩
      have b7 := stepB0 b6 hb7
      have hC7 := hC2'.out.below b7 hlt2
      clear c0 c1 c2 H5
      have c0 := hC7.c0; have c1 := hC7.c1; have c2 := hC7.c2
      have H6 := Lib.hid (HSA.out L a4 la q4 lc A4 LA w7 rfl ((hR4'.out.below hb7).mono hb7.size) ((HSl.out.below b7).mono b7.size))
      clear hC7
      go_wp2_with fail
      refine H6.out.mono ?_
      rintro e w8 ⟨rfl, hb8⟩
      have b8 := stepB0 b7 hb8
      have hC8 := hC2'.out.below b8 hlt2
      clear c0 c1 c2 H6
      have hC8' := Lib.hid hC8
      have c0 := hC8.c0; have c1 := hC8.c1; have c2 := hC8.c2
      have hR8 := Lib.hid ((hR3'.out.below (hb6.trans ((hb7.trans (hb8.mono hb7.size)).mono hb6.size))).mono (show w5.heap.size ≤ w8.heap.size by have := hb6.size; have := hb7.size; have := hb8.size; omega))
      have hL8 := Lib.hid ((HSl.out.below b8).mono b8.size)
      have hG8 := Lib.hid ((HGV.out.below b8).mono b8.size)
      have hb28 := stepB0 bel2 b8
      have hlt8 : w.heap.size < w8.heap.size := by have := b8.size; omega
      clear hC8
      go_wp2_with fail
      go_loopw [19] (fun i wr => ∃ j : Nat, j ≤ k ∧ i = .int .i64 (j : Nat) ∧ Below w8.heap.size w8 wr) (fun i _ => k - (intOf i).toNat)
      case atStart => exact ⟨0, Nat.zero_le _, rfl, Below.refl _ _⟩
      case round =>
        clear c0 c1 c2
        obtain ⟨j, hj, rfl, bel⟩ := hrel
        have hC9 := hC8'.out.below bel hlt8
        have c0 := hC9.c0; have c1 := hC9.c1; have c2 := hC9.c2
        by_cases hlt : j < k
        · have hLr := hL8.out.below bel
          have hRr := hR8.out.below bel
          have hjL : j < L.length := by have := HK.out; omega
          have i1 := hLr.ix j hjL
          have i2 := hRr.ix j hjL
          have d1 : ∀ q, (wr.drewN q).cell? (LA j) = some (.int .i64 (nth L j)) := fun _ => by
            have := hLr.cell j hjL 0 (by omega); rwa [add_zero] at this
          have d2 : ∀ q, (wr.drewN q).cell? (A3 j) = some (.int .i64 (nth (spr E (x + y) L) j)) := fun _ => by
            have := hRr.cell j hjL 0 (by omega); rwa [add_zero] at this
          have d3 : ∀ q, (wr.drewN q).cell? ⟨w.heap.size, 2, none⟩ = some (.slice la L.length lc) := fun _ => c2
          have hdg : (gAdj (some (k, E)) (j : Int)).length = deg E j := by
            rw [gAdj, if_pos (gHas_yes (show 0 ≤ (j : Int) ∧ (j : Int) < (k : Int) by omega))]; rfl
          have HD := Lib.hid (fun q => by
            have := degree_any wr.heap.size (.pointer p) (some (k, E)) (j : Int) (wr.drewN q) (((hG8.out.below bel).mono bel.size).below (below_drewN (Below.refl _ _) q))
            rw [hdg] at this; exact this)
          clear hLr hRr hC9 hdg
          by_cases hd : deg E j = 0
          · have hz : (((deg E j : Nat) : Int) == 0) = true := by simp [hd]
            have he : nth (spr E (x + y) L) j = nth L j := spr_alone hd hjL _
            have hz2 : (nth (spr E (x + y) L) j != nth L j) = false := by simpa using he
            go_wp2_with fail
            go_quiet ((go_at_call 29; exact Calls.quiet_of (HD.out _)))
            go_wp2_with fail
            go_roundw
            case rel => exact ⟨j + 1, by omega, by go_num, below_drewN bel _⟩
            case measure => simp only [intOf]; omega
          · have hz : (((deg E j : Nat) : Int) == 0) = false := by simp; omega
            go_wp2_with fail
            go_quiet ((go_at_call 29; exact Calls.quiet_of (HD.out _)))
            go_wp2_with fail
            go_roundw
            case rel => exact ⟨j + 1, by omega, by go_num, below_drewN bel _⟩
            case measure => simp only [intOf]; omega
        · go_wp2_with fail
          refine (works_any _).mono ?_
          rintro e w9 ⟨rfl, hb9⟩
          go_wp2_with fail
          go_ret
          exact ⟨rfl, stepB0 (stepB0 hb28 bel) hb9⟩
end Go.Proofs.Ytemcilmefknbbaa
