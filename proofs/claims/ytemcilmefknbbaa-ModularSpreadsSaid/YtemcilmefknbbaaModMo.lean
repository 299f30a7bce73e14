/- The walk of the law ModularMoves. No conditions. -/
import Derived.Test.YtemcilmefknbbaaModRg
namespace Go.Proofs.Ytemcilmefknbbaa
open Go.RowKit Go.Shelf

set_option maxRecDepth 100000 in
set_option maxHeartbeats 4000000 in
theorem moves_walk (n : Int) (a : Option Addr) (c : Nat) (E : List Ed) (la : Option Addr) (lc : Nat) (L : List Int) (w : World) (hS : CS w w.heap.size a c E la lc L) :
    Calls Try.prog 4 #[.agg #[.int .i64 n, .slice a E.length c, .slice la L.length lc]] w fun e w' => e = .returned (.bool true) ∧ Below w.heap.size w w' := by
  have hC := CB.new w n a E.length c la L.length lc 25
  have hb : Below w.heap.size w (w.alloc (.cells #[.int .i64 n, .slice a E.length c, .slice la L.length lc] 25)) := (Below.refl _ _).alloc (Nat.le_refl _) _
  have hs : (w.alloc (.cells #[.int .i64 n, .slice a E.length c, .slice la L.length lc] 25)).heap.size = w.heap.size + 1 := by simp
  have HC := Lib.hid hC
  have HS := Lib.hid (hS.below hb)
  have hSm := Lib.hid (fun W => small_any n a E.length c la L.length lc 12 30 W (by omega))
  have c0 := hC.c0; have c1 := hC.c1; have c2 := hC.c2
  clear hC hS
  generalize hsb : decide (n ≤ 12 ∧ (E.length : Int) ≤ 30 ∧ (L.length : Int) ≤ 12 + 1) = sb at *
  clear hsb
  go_enter Try.func4, Try.ntmps4
  go_wp2_with fail
  refine (hSm.out _).mono ?_
  generalize w.alloc (.cells #[.int .i64 n, .slice a E.length c, .slice la L.length lc] 25) = W0 at *
  clear c0 c1 c2
  rintro e w1 ⟨rfl, hb1⟩
  have hC1 := HC.out.below hb1 (by omega)
  have c0 := hC1.c0; have c1 := hC1.c1; have c2 := hC1.c2
  have bel1 : Below w.heap.size w w1 := hb.trans (hb1.mono (by omega))
  have hsz1 : w.heap.size + 1 ≤ w1.heap.size := by have := hb1.size; omega
  clear hSm
  cases sb with
  | false =>
    clear hC1
    go_wp2_with fail
    refine (works_any _).mono ?_
    rintro e w2 ⟨rfl, hb2⟩
    go_wp2_with fail
    go_ret
    exact ⟨rfl, stepB0 bel1 hb2⟩
  | true =>
    have HS1 := Lib.hid (HS.out.below (hb1.mono (by omega)))
    have HB := Lib.hid (both_new w.heap.size n a c E la lc L w1 HS1.out (by omega))
    have HC1 := Lib.hid hC1
    clear hC1
    go_wp2_with fail
    refine HB.out.mono ?_
    rintro e w2 ⟨p, r, rfl, hG, hR, hb2⟩
    have bel2 := stepB0 bel1 hb2
    have hlt2 : w.heap.size < w2.heap.size := by have := hb2.size; omega
    have hC2 := HC1.out.below hb2 hsz1
    have HS2 := (HS1.out.below (hb2.mono (by omega))).mono (Nat.le_of_lt hlt2)
    obtain ⟨LA, hSl⟩ := HS2.l
    have HG := Lib.hid hG; have HR := Lib.hid hR; have HL := Lib.hid hSl
    have HW := Lib.hid HS2.wf
    have HC2 := Lib.hid hC2
    clear c0 c1 c2 hG hR hSl HB HS2
    have c0 := hC2.c0; have c1 := hC2.c1; have c2 := hC2.c2
    have HQ1 := Lib.hid (greedy_any w2.heap.size (.pointer p) (gO n E) la lc LA L w2 HG.out HL.out (Nat.le_refl _) HW.out)
    have HQ2 := Lib.hid (fun W (hW : Below w2.heap.size w2 W) => rgreedy_any w2.heap.size r (gO n E) la lc LA L W (HR.out.below hW) (HL.out.below hW) hW.size)
    have HLen := Lib.hid (show mErr (gO n E) L.length = 0 → L.length ≤ 4096 from fun hz => by
      obtain ⟨⟨k, E'⟩, he, hk⟩ := mErr_zero hz
      have hg := HG.out.good
      rw [he] at hg
      have hk : L.length = k := hk
      have := GOk.n_le hg
      omega)
    clear hC2
    go_wp2_with fail
    refine HQ1.out.mono ?_
    rintro e w3 ⟨hb3, hres⟩
    have hC3 := HC2.out.below hb3 hlt2
    clear c0 c1 c2 HQ1
    have c0 := hC3.c0; have c1 := hC3.c1; have c2 := hC3.c2
    have HQ3 := Lib.hid (HQ2.out w3 hb3)
    clear HQ2 hC3
    rcases hres with ⟨h0, rfl⟩ | ⟨h0, R, ra, rc, RA, hgr, rfl, hRS, -⟩
    · have H0 := Lib.hid h0
      obtain ⟨ee, hee⟩ : ∃ ee, mErr (gO n E) L.length = ee := ⟨_, rfl⟩
      rw [hee]
      have HE := Lib.hid hee
      clear h0 hee
      go_wp2_with fail
      refine HQ3.out.mono ?_
      rintro e w4 ⟨hb4, hres⟩
      rcases hres with ⟨-, rfl⟩ | ⟨h1, -⟩
      · rw [HE.out]
        have HSm := Lib.hid (same_any w4.heap.size none none 0 0 (fun _ => ⟨0, 0, none⟩) (fun _ => ⟨0, 0, none⟩) [] w4 (Rd.nil _) (Rd.nil _) (Nat.le_refl _) (by decide))
        have HSm2 : Hid (Calls Try.prog 22 #[.slice none 0 0, .slice none 0 0] w4 fun e w' => e = .returned (.bool true) ∧ Below w4.heap.size w4 w') := HSm
        have bel4 := stepB0 hb3 hb4
        clear HSm
        go_wp2_with fail
        refine HSm2.out.mono ?_
        rintro e w5 ⟨rfl, hb5⟩
        go_wp2_with fail
        refine (works_any _).mono ?_
        rintro e w6 ⟨rfl, hb6⟩
        go_wp2_with fail
        go_ret
        exact ⟨rfl, stepB0 (stepB0 (stepB0 bel2 bel4) hb5) hb6⟩
      · exact absurd h1 H0.out
    · have H0 := Lib.hid h0
      have HRS := Lib.hid hRS
      have HGr := Lib.hid hgr
      have hRl : R.length ≤ 4096 := by rw [hgr.len]; exact HLen.out h0
      clear h0 hRS hgr
      go_wp2_with fail
      refine HQ3.out.mono ?_
      rintro e w4 ⟨hb4, hres⟩
      rcases hres with ⟨h1, -⟩ | ⟨-, R2, ra2, rc2, RA2, hgr2, rfl, hRS2⟩
      · exact absurd H0.out h1
      · obtain rfl : R2 = R := hgr2.same HGr.out
        have HSm := Lib.hid (same_any w4.heap.size ra ra2 rc rc2 RA RA2 R2 w4 ((HRS.out.below hb4).mono hb4.size) hRS2 (Nat.le_refl _) (by omega))
        have bel4 := stepB0 hb3 hb4
        clear hRS2 hgr2
        go_wp2_with fail
        refine HSm.out.mono ?_
        rintro e w5 ⟨rfl, hb5⟩
        go_wp2_with fail
        refine (works_any _).mono ?_
        rintro e w6 ⟨rfl, hb6⟩
        go_wp2_with fail
        go_ret
        exact ⟨rfl, stepB0 (stepB0 (stepB0 bel2 bel4) hb5) hb6⟩
end Go.Proofs.Ytemcilmefknbbaa
