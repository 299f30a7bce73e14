/- The walk of the law ModularSpreads. No conditions. -/
import Derived.Test.YtemcilmefknbbaaModRq
import Derived.Test.YtemcilmefknbbaaModMo
import Derived.Test.YtemcilmefknbbaaModSt
namespace Go.Proofs.Ytemcilmefknbbaa
open Go.RowKit Go.Shelf

/-- the error of Spread -/
def sErr (o : Option (Nat × List Ed)) (k : Nat) (r : Int) : Int := if mErr o k ≠ 0 then mErr o k else if 0 ≤ r ∧ r ≤ 1000 then 0 else 3
theorem sErr_zero {o : Option (Nat × List Ed)} {k : Nat} {r : Int} (h : sErr o k r = 0) : mErr o k = 0 ∧ ∃ q : Nat, r = q ∧ q ≤ 1000 := by
  unfold sErr at h
  split at h
  · rename_i c; exact absurd h c
  · rename_i c
    split at h
    · exact ⟨by omega, r.toNat, by omega, by omega⟩
    · cases h
/-- what Spread answers, whatever it is given -/
def SAll (o : Option (Nat × List Ed)) (L : List Int) (r : Int) (w : World) (e : Ending) (w' : World) : Prop :=
  Below w.heap.size w w' ∧ ((sErr o L.length r ≠ 0 ∧ e = .returned (.tuple #[.slice none 0 0, .int .i64 (sErr o L.length r)])) ∨ (sErr o L.length r = 0 ∧ SRes (gE o) L r.toNat w e w'))
set_option maxRecDepth 100000 in
set_option maxHeartbeats 2000000 in
theorem spread_all (B : Nat) (gv : Value) (o : Option (Nat × List Ed)) (la : Option Addr) (lc : Nat) (LA : Nat → Addr) (L : List Int) (r : Int) (w : World) (h : GV w B gv o) (hL : Sl 23 .i64 w B (.slice la L.length lc) L LA) (hB : B ≤ w.heap.size) :
    Calls Try.prog 27 #[gv, .slice la L.length lc, .int .i64 r] w (SAll o L r w) := by
  by_cases hz : sErr o L.length r = 0
  · obtain ⟨h1, q, rfl, hq⟩ := sErr_zero hz
    obtain ⟨⟨n, E⟩, rfl, hn⟩ := mErr_zero h1
    obtain ⟨p, rfl⟩ := h.ptr
    refine (spread_any B p n E la lc LA L q w h hL hB hn hq).mono fun e w' hr => ?_
    obtain ⟨a, c, A, k1, k2, k3⟩ := id hr
    exact ⟨k3, .inr ⟨hz, by rw [Int.toNat_natCast]; exact hr⟩⟩
  · have HZ := Lib.hid hz
    have HV := Lib.hid (mvalid_any B gv o la L.length lc w h)
    have HE := Lib.hid (show sErr o L.length r = if mErr o L.length ≠ 0 then mErr o L.length else if 0 ≤ r ∧ r ≤ 1000 then 0 else 3 from rfl)
    obtain ⟨p, rfl⟩ := h.ptr
    obtain ⟨ee, hee⟩ : ∃ ee, mErr o L.length = ee := ⟨_, rfl⟩
    rw [hee] at HV HE
    have HEE := Lib.hid hee
    clear h hL hz hee
    by_cases he : ee = 0
    · subst he
      by_cases hr : r < 0
      · have HS := Lib.hid (show sErr o L.length r = 3 by rw [HE.out, if_neg (by simp), if_neg (by omega)])
        have k1 : decide (r < 0) = true := decide_eq_true hr
        clear HE
        go_enter Try.func27, Try.ntmps27
        go_wp2_with fail
        refine HV.out.mono ?_
        rintro e w' ⟨rfl, rfl⟩
        go_wp2_with fail
        go_ret2
        exact ⟨Below.refl _ _, .inl ⟨HZ.out, by rw [HS.out]; rfl⟩⟩
      · have k1 : decide (r < 0) = false := decide_eq_false hr
        by_cases hr2 : r > 1000
        · have k2 : decide (r > 1000) = true := decide_eq_true hr2
          have HS := Lib.hid (show sErr o L.length r = 3 by rw [HE.out, if_neg (by simp), if_neg (by omega)])
          clear HE
          go_enter Try.func27, Try.ntmps27
          go_wp2_with fail
          refine HV.out.mono ?_
          rintro e w' ⟨rfl, rfl⟩
          go_wp2_with fail
          go_ret2
          exact ⟨Below.refl _ _, .inl ⟨HZ.out, by rw [HS.out]; rfl⟩⟩
        · exact absurd (by rw [HE.out, if_neg (by simp), if_pos (by omega)]) HZ.out
    · have hb : (ee != 0) = true := by simpa using he
      have HS := Lib.hid (show sErr o L.length r = ee by rw [HE.out, if_pos he])
      clear HE he
      go_enter Try.func27, Try.ntmps27
      go_wp2_with fail
      refine HV.out.mono ?_
      rintro e w' ⟨rfl, rfl⟩
      go_wp2_with fail
      go_ret2
      exact ⟨Below.refl _ _, .inl ⟨HZ.out, by rw [HS.out]; rfl⟩⟩
set_option maxRecDepth 100000 in
set_option maxHeartbeats 2000000 in
theorem rspread_all (B : Nat) (x : Value) (o : Option (Nat × List Ed)) (la : Option Addr) (lc : Nat) (LA : Nat → Addr) (L : List Int) (r : Int) (w : World) (h : RG w B x o) (hL : Sl 23 .i64 w B (.slice la L.length lc) L LA) (hB : B ≤ w.heap.size) :
    Calls Try.prog 28 #[x, .slice la L.length lc, .int .i64 r] w (SAll o L r w) := by
  by_cases hz : sErr o L.length r = 0
  · obtain ⟨h1, q, rfl, hq⟩ := sErr_zero hz
    obtain ⟨⟨n, E⟩, rfl, hn⟩ := mErr_zero h1
    refine (rspread_any B n x E la lc LA L q w h hL hB hn hq).mono fun e w' hr => ?_
    obtain ⟨a, c, A, k1, k2, k3⟩ := id hr
    exact ⟨k3, .inr ⟨hz, by rw [Int.toNat_natCast]; exact hr⟩⟩
  · have HZ := Lib.hid hz
    have HV := Lib.hid (wrong_any B x o la L.length lc w h)
    have HE := Lib.hid (show sErr o L.length r = if mErr o L.length ≠ 0 then mErr o L.length else if 0 ≤ r ∧ r ≤ 1000 then 0 else 3 from rfl)
    obtain ⟨ee, hee⟩ : ∃ ee, mErr o L.length = ee := ⟨_, rfl⟩
    rw [hee] at HV HE
    clear h hL hz hee
    by_cases he : ee = 0
    · subst he
      by_cases hr : r < 0
      · have HS := Lib.hid (show sErr o L.length r = 3 by rw [HE.out, if_neg (by simp), if_neg (by omega)])
        have k1 : decide (r < 0) = true := decide_eq_true hr
        clear HE
        go_enter Try.func28, Try.ntmps28
        go_wp2_with fail
        refine HV.out.mono ?_
        rintro e w' ⟨rfl, rfl⟩
        go_wp2_with fail
        go_ret2
        exact ⟨Below.refl _ _, .inl ⟨HZ.out, by rw [HS.out]; rfl⟩⟩
      · have k1 : decide (r < 0) = false := decide_eq_false hr
        by_cases hr2 : r > 1000
        · have k2 : decide (r > 1000) = true := decide_eq_true hr2
          have HS := Lib.hid (show sErr o L.length r = 3 by rw [HE.out, if_neg (by simp), if_neg (by omega)])
          clear HE
          go_enter Try.func28, Try.ntmps28
          go_wp2_with fail
          refine HV.out.mono ?_
          rintro e w' ⟨rfl, rfl⟩
          go_wp2_with fail
          go_ret2
          exact ⟨Below.refl _ _, .inl ⟨HZ.out, by rw [HS.out]; rfl⟩⟩
        · exact absurd (by rw [HE.out, if_neg (by simp), if_pos (by omega)]) HZ.out
    · have hb : (ee != 0) = true := by simpa using he
      have HS := Lib.hid (show sErr o L.length r = ee by rw [HE.out, if_pos he])
      clear HE he
      go_enter Try.func28, Try.ntmps28
      go_wp2_with fail
      refine HV.out.mono ?_
      rintro e w' ⟨rfl, rfl⟩
      go_wp2_with fail
      go_ret2
      exact ⟨Below.refl _ _, .inl ⟨HZ.out, by rw [HS.out]; rfl⟩⟩

theorem sErr_in {o : Option (Nat × List Ed)} {k : Nat} {r : Int} (h : 0 ≤ r ∧ r ≤ 1000) : sErr o k r = mErr o k := by
  unfold sErr
  by_cases c : mErr o k = 0
  · rw [if_neg (by simp [c]), if_pos h, c]
  · rw [if_pos c]
set_option maxRecDepth 100000 in
set_option maxHeartbeats 4000000 in
theorem spreads_walk (n : Int) (a : Option Addr) (c : Nat) (E : List Ed) (la : Option Addr) (lc : Nat) (L : List Int) (r : Int) (w : World) (hS : CS w w.heap.size a c E la lc L) :
    Calls Try.prog 10 #[.agg #[.int .i64 n, .slice a E.length c, .slice la L.length lc], .int .i64 r] w fun e w' => e = .returned (.bool true) ∧ Below w.heap.size w w' := by
  have hC := CB.new w n a E.length c la L.length lc 25
  have hb : Below w.heap.size w (w.alloc (.cells #[.int .i64 n, .slice a E.length c, .slice la L.length lc] 25)) := (Below.refl _ _).alloc (Nat.le_refl _) _
  have hs : (w.alloc (.cells #[.int .i64 n, .slice a E.length c, .slice la L.length lc] 25)).heap.size = w.heap.size + 1 := by simp
  have HC := Lib.hid hC
  have HS := Lib.hid (hS.below hb)
  have hSm := Lib.hid (fun W => small_any n a E.length c la L.length lc 30 80 W (by omega))
  have c0 := hC.c0; have c1 := hC.c1; have c2 := hC.c2
  clear hC hS
  generalize hsb : decide (n ≤ 30 ∧ (E.length : Int) ≤ 80 ∧ (L.length : Int) ≤ 30 + 1) = sb at *
  clear hsb
  go_enter Try.func10, Try.ntmps10
  go_wp2_with fail
  refine (hSm.out _).mono ?_
  generalize w.alloc (.cells #[.int .i64 n, .slice a E.length c, .slice la L.length lc] 25) = W0 at *
  clear c0 c1 c2
  rintro e w1 ⟨rfl, hb1⟩
  have hC1 := HC.out.below hb1 (by omega)
  have c0 := hC1.c0; have c1 := hC1.c1; have c2 := hC1.c2
  have bel1 : Below w.heap.size w w1 := hb.trans (hb1.mono (by omega))
  have hsz1 : w.heap.size + 1 ≤ w1.heap.size := by have := hb1.size; omega
  clear hSm
  cases sb with
  | false =>
    clear hC1
    go_wp2_with fail
    refine (works_any _).mono ?_
    rintro e w2 ⟨rfl, hb2⟩
    go_wp2_with fail
    go_ret
    exact ⟨rfl, stepB0 bel1 hb2⟩
  | true =>
    have HS1 := Lib.hid (HS.out.below (hb1.mono (by omega)))
    have HB := Lib.hid (both_new w.heap.size n a c E la lc L w1 HS1.out (by omega))
    have HC1 := Lib.hid hC1
    clear hC1
    go_wp2_with fail
    refine HB.out.mono ?_
    rintro e w2 ⟨p, x, rfl, hG, hR, hb2⟩
    have bel2 := stepB0 bel1 hb2
    have hlt2 : w.heap.size < w2.heap.size := by have := hb2.size; omega
    have hC2 := HC1.out.below hb2 hsz1
    have HS2 := (HS1.out.below (hb2.mono (by omega))).mono (Nat.le_of_lt hlt2)
    obtain ⟨LA, hSl⟩ := HS2.l
    have HG := Lib.hid hG; have HR := Lib.hid hR; have HL := Lib.hid hSl
    have HW := Lib.hid HS2.wf
    have HC2 := Lib.hid hC2
    clear c0 c1 c2 hG hR hSl HB HS2
    have c0 := hC2.c0; have c1 := hC2.c1; have c2 := hC2.c2
    have HQ1 := Lib.hid (fun r => spread_all w2.heap.size (.pointer p) (gO n E) la lc LA L r w2 HG.out HL.out (Nat.le_refl _))
    have HQ2 := Lib.hid (fun W (hW : Below w2.heap.size w2 W) r => rspread_all w2.heap.size x (gO n E) la lc LA L r W (HR.out.below hW) (HL.out.below hW) hW.size)
    have HLen := Lib.hid (show mErr (gO n E) L.length = 0 → (L.length : Int) = n ∧ L.length ≤ 4096 from fun hz => by
      obtain ⟨⟨k, E'⟩, he, hk⟩ := mErr_zero hz
      have hg := HG.out.good
      have hk : L.length = k := hk
      by_cases h0 : gErr n E = 0
      · obtain ⟨q, rfl, G⟩ := gErr_zero h0
        rw [gO_some G] at he
        cases he
        exact ⟨by omega, by have := GOk.n_le G; omega⟩
      · rw [gO_none h0] at he; cases he)
    clear hC2
    generalize gO n E = o at *
    by_cases hbig : r > 8 ∧ r ≤ 1000
    · have k1 : decide (r > 8) = true := decide_eq_true hbig.1
      have k2 : decide (r ≤ 1000) = true := decide_eq_true hbig.2
      have H1 := HQ1.out r
      have H2 := HQ2.out
      have HI := Lib.hid (sErr_in (o := o) (k := L.length) (r := r) (by omega))
      have HI0 := Lib.hid (sErr_in (o := o) (k := L.length) (r := 0) (by omega))
      have H1 := Lib.hid H1
      clear HQ1 H2
      go_wp2_with fail
      refine H1.out.mono ?_
      rintro e w3 ⟨hb3, hres⟩
      rw [HI.out] at hres
      have hC3 := HC2.out.below hb3 hlt2
      clear c0 c1 c2 H1
      have c0 := hC3.c0; have c1 := hC3.c1; have c2 := hC3.c2
      have HQ3 := Lib.hid (HQ2.out w3 hb3 0)
      clear HQ2 hC3
      rcases hres with ⟨h0, rfl⟩ | ⟨h0, ra, rc, RA, rfl, hRS, -⟩
      · have H0 := Lib.hid h0
        obtain ⟨ee, hee⟩ : ∃ ee, mErr o L.length = ee := ⟨_, rfl⟩
        rw [hee] at h0 ⊢
        have hne : (ee != 0) = true := by simpa using h0
        have HE := Lib.hid hee
        clear h0 hee
        go_wp2_with fail
        refine HQ3.out.mono ?_
        rintro e w4 ⟨hb4, hres⟩
        rw [HI0.out] at hres
        rcases hres with ⟨-, rfl⟩ | ⟨h1, -⟩
        · rw [HE.out]
          have bel4 := stepB0 hb3 hb4
          go_wp2_with fail
          refine (works_any _).mono ?_
          rintro e w6 ⟨rfl, hb6⟩
          go_wp2_with fail
          go_ret
          exact ⟨rfl, stepB0 (stepB0 bel2 bel4) hb6⟩
        · exact absurd h1 H0.out
      · have H0 := Lib.hid h0
        have hLn := (HLen.out h0).1
        have hz : ((L.length : Int) == n) = true := by simpa using hLn
        clear h0 hLn
        go_wp2_with fail
        refine HQ3.out.mono ?_
        rintro e w4 ⟨hb4, hres⟩
        rw [HI0.out] at hres
        rcases hres with ⟨h1, -⟩ | ⟨-, sa, sc, SA, rfl, -, -⟩
        · exact absurd H0.out h1
        · have bel4 := stepB0 hb3 hb4
          have c0 := (HC2.out.below (stepB0 hb3 hb4) hlt2).c0
          go_wp2_with fail
          refine (works_any _).mono ?_
          rintro e w6 ⟨rfl, hb6⟩
          go_wp2_with fail
          go_ret
          exact ⟨rfl, stepB0 (stepB0 bel2 bel4) hb6⟩
    · have H1 := Lib.hid (HQ1.out r)
      clear HQ1
      have go : ∀ (hk : decide (r > 8) = true → decide (r ≤ 1000) = false), True := fun _ => trivial
      clear go
      obtain ⟨k1, hk1⟩ : ∃ k1, decide (r > 8) = k1 := ⟨_, rfl⟩
      obtain ⟨k2, hk2⟩ : ∃ k2, decide (r ≤ 1000) = k2 := ⟨_, rfl⟩
      have hkk : (k1 && k2) = false := by
        rw [← hk1, ← hk2]
        by_cases h8 : r > 8
        · have : ¬ r ≤ 1000 := fun h => hbig ⟨h8, h⟩
          simp [this]
        · simp [h8]
      have HB := Lib.hid hbig
      clear hbig
      cases k1 with
      | false =>
        clear hk2 hkk
        go_wp2_with fail
        refine H1.out.mono ?_
        rintro e w3 ⟨hb3, hres⟩
        have hC3 := HC2.out.below hb3 hlt2
        clear c0 c1 c2 H1
        have c0 := hC3.c0; have c1 := hC3.c1; have c2 := hC3.c2
        have HQ3 := Lib.hid (HQ2.out w3 hb3 r)
        clear HQ2 hC3
        rcases hres with ⟨h0, rfl⟩ | ⟨h0, ra, rc, RA, rfl, hRS, -⟩
        · have H0 := Lib.hid h0
          obtain ⟨ee, hee⟩ : ∃ ee, sErr o L.length r = ee := ⟨_, rfl⟩
          rw [hee]
          have HE := Lib.hid hee
          clear h0 hee
          go_wp2_with fail
          refine HQ3.out.mono ?_
          rintro e w4 ⟨hb4, hres⟩
          rcases hres with ⟨-, rfl⟩ | ⟨h1, -⟩
          · rw [HE.out]
            have HSm := Lib.hid (same_any w4.heap.size none none 0 0 (fun _ => ⟨0, 0, none⟩) (fun _ => ⟨0, 0, none⟩) [] w4 (Rd.nil _) (Rd.nil _) (Nat.le_refl _) (by decide))
            have HSm2 : Hid (Calls Try.prog 22 #[.slice none 0 0, .slice none 0 0] w4 fun e w' => e = .returned (.bool true) ∧ Below w4.heap.size w4 w') := HSm
            have bel4 := stepB0 hb3 hb4
            clear HSm
            go_wp2_with fail
            refine HSm2.out.mono ?_
            rintro e w5 ⟨rfl, hb5⟩
            go_wp2_with fail
            refine (works_any _).mono ?_
            rintro e w6 ⟨rfl, hb6⟩
            go_wp2_with fail
            go_ret
            exact ⟨rfl, stepB0 (stepB0 (stepB0 bel2 bel4) hb5) hb6⟩
          · exact absurd h1 H0.out
        · have H0 := Lib.hid h0
          have HRS := Lib.hid hRS
          have hLl := (HLen.out (sErr_zero h0).1).2
          clear h0 hRS
          go_wp2_with fail
          refine HQ3.out.mono ?_
          rintro e w4 ⟨hb4, hres⟩
          rcases hres with ⟨h1, -⟩ | ⟨-, sa, sc, SA, rfl, hRS2, -⟩
          · exact absurd H0.out h1
          · have HSm := same_any w4.heap.size ra sa rc sc RA SA (spr (gE o) r.toNat L) w4 (by
              rw [show (Sl 23 .i64 w4 w4.heap.size (.slice ra (spr (gE o) r.toNat L).length rc) (spr (gE o) r.toNat L) RA) = Rd 23 1 w4 w4.heap.size (.slice ra (spr (gE o) r.toNat L).length rc) (spr (gE o) r.toNat L).length (nums .i64 (spr (gE o) r.toNat L)) RA from rfl, spr_len]
              exact (HRS.out.below hb4).mono hb4.size) (by
              rw [show (Sl 23 .i64 w4 w4.heap.size (.slice sa (spr (gE o) r.toNat L).length sc) (spr (gE o) r.toNat L) SA) = Rd 23 1 w4 w4.heap.size (.slice sa (spr (gE o) r.toNat L).length sc) (spr (gE o) r.toNat L).length (nums .i64 (spr (gE o) r.toNat L)) SA from rfl, spr_len]
              exact hRS2) (Nat.le_refl _) (by rw [spr_len]; omega)
            rw [spr_len] at HSm
            have HSm := Lib.hid HSm
            have bel4 := stepB0 hb3 hb4
            clear hRS2
            go_wp2_with fail
            refine HSm.out.mono ?_
            rintro e w5 ⟨rfl, hb5⟩
            go_wp2_with fail
            refine (works_any _).mono ?_
            rintro e w6 ⟨rfl, hb6⟩
            go_wp2_with fail
            go_ret
            exact ⟨rfl, stepB0 (stepB0 (stepB0 bel2 bel4) hb5) hb6⟩
      | true =>
        cases k2 with
        | true => cases hkk
        | false =>
          clear hkk
          go_wp2_with fail
          refine H1.out.mono ?_
          rintro e w3 ⟨hb3, hres⟩
          have hC3 := HC2.out.below hb3 hlt2
          clear c0 c1 c2 H1
          have c0 := hC3.c0; have c1 := hC3.c1; have c2 := hC3.c2
          have HQ3 := Lib.hid (HQ2.out w3 hb3 r)
          clear HQ2 hC3
          rcases hres with ⟨h0, rfl⟩ | ⟨h0, ra, rc, RA, rfl, hRS, -⟩
          · have H0 := Lib.hid h0
            obtain ⟨ee, hee⟩ : ∃ ee, sErr o L.length r = ee := ⟨_, rfl⟩
            rw [hee]
            have HE := Lib.hid hee
            clear h0 hee
            go_wp2_with fail
            refine HQ3.out.mono ?_
            rintro e w4 ⟨hb4, hres⟩
            rcases hres with ⟨-, rfl⟩ | ⟨h1, -⟩
            · rw [HE.out]
              have HSm := Lib.hid (same_any w4.heap.size none none 0 0 (fun _ => ⟨0, 0, none⟩) (fun _ => ⟨0, 0, none⟩) [] w4 (Rd.nil _) (Rd.nil _) (Nat.le_refl _) (by decide))
              have HSm2 : Hid (Calls Try.prog 22 #[.slice none 0 0, .slice none 0 0] w4 fun e w' => e = .returned (.bool true) ∧ Below w4.heap.size w4 w') := HSm
              have bel4 := stepB0 hb3 hb4
              clear HSm
              go_wp2_with fail
              refine HSm2.out.mono ?_
              rintro e w5 ⟨rfl, hb5⟩
              go_wp2_with fail
              refine (works_any _).mono ?_
              rintro e w6 ⟨rfl, hb6⟩
              go_wp2_with fail
              go_ret
              exact ⟨rfl, stepB0 (stepB0 (stepB0 bel2 bel4) hb5) hb6⟩
            · exact absurd h1 H0.out
          · have H0 := Lib.hid h0
            have HRS := Lib.hid hRS
            have hLl := (HLen.out (sErr_zero h0).1).2
            clear h0 hRS
            go_wp2_with fail
            refine HQ3.out.mono ?_
            rintro e w4 ⟨hb4, hres⟩
            rcases hres with ⟨h1, -⟩ | ⟨-, sa, sc, SA, rfl, hRS2, -⟩
            · exact absurd H0.out h1
            · have HSm := same_any w4.heap.size ra sa rc sc RA SA (spr (gE o) r.toNat L) w4 (by
                rw [show (Sl 23 .i64 w4 w4.heap.size (.slice ra (spr (gE o) r.toNat L).length rc) (spr (gE o) r.toNat L) RA) = Rd 23 1 w4 w4.heap.size (.slice ra (spr (gE o) r.toNat L).length rc) (spr (gE o) r.toNat L).length (nums .i64 (spr (gE o) r.toNat L)) RA from rfl, spr_len]
                exact (HRS.out.below hb4).mono hb4.size) (by
                rw [show (Sl 23 .i64 w4 w4.heap.size (.slice sa (spr (gE o) r.toNat L).length sc) (spr (gE o) r.toNat L) SA) = Rd 23 1 w4 w4.heap.size (.slice sa (spr (gE o) r.toNat L).length sc) (spr (gE o) r.toNat L).length (nums .i64 (spr (gE o) r.toNat L)) SA from rfl, spr_len]
                exact hRS2) (Nat.le_refl _) (by rw [spr_len]; omega)
              rw [spr_len] at HSm
              have HSm := Lib.hid HSm
              have bel4 := stepB0 hb3 hb4
              clear hRS2
              go_wp2_with fail
              refine HSm.out.mono ?_
              rintro e w5 ⟨rfl, hb5⟩
              go_wp2_with fail
              refine (works_any _).mono ?_
              rintro e w6 ⟨rfl, hb6⟩
              go_wp2_with fail
              go_ret
              exact ⟨rfl, stepB0 (stepB0 (stepB0 bel2 bel4) hb5) hb6⟩
end Go.Proofs.Ytemcilmefknbbaa
