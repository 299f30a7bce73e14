/- The walks of kruskal.Spans and Minimal. Conditions: none but that the choice is short. -/
import Derived.Test.YtbmcflmflmlmaaaSpn
import Derived.Test.YtbmcflmflmlmaaaEqualW
namespace Go.Proofs.Ytbmcflmflmlmaaa
open Go.RowKit

/-- what Spans answers -/
def SpansRes (n : Int) (E : List Ed) (P : List Int) (w : World) (e : Ending) (w' : World) : Prop :=
  Below w.heap.size w w' ∧ ((gErr n E ≠ 0 ∧ e = .returned (.tuple #[.bool false, .int .i64 (gErr n E)])) ∨
    (gErr n E = 0 ∧ ∃ o, OrdOf E o ∧ e = .returned (.tuple #[.bool (spB E P (frs E o).length), .int .i64 (spE E.length P)])))
/-- is a choice one of the smallest weight? -/
def minB (E : List Ed) (o : List Nat) (P : List Int) : Bool := spB E P (frs E o).length && decide (srt (wsOf E (toN P)) = srt (wsOf E (frs E o)))
/-- what Minimal answers -/
def MinRes (n : Int) (E : List Ed) (P : List Int) (w : World) (e : Ending) (w' : World) : Prop :=
  Below w.heap.size w w' ∧ ((gErr n E ≠ 0 ∧ e = .returned (.tuple #[.bool false, .int .i64 (gErr n E)])) ∨
    (gErr n E = 0 ∧ ∃ o, OrdOf E o ∧ e = .returned (.tuple #[.bool (minB E o P), .int .i64 (spE E.length P)])))
theorem spB_zero {E : List Ed} {P : List Int} {s : Int} (h : spB E P s = true) : spE E.length P = 0 ∧ (P.length : Int) = s ∧ Acy E (toN P) := by
  unfold spB at h; simpa using h
theorem spE_zero {m : Nat} {P : List Int} (h : spE m P = 0) : (∀ x, x ∈ P → 0 ≤ x ∧ x < (m : Int)) ∧ (toN P).Nodup := by
  unfold spE at h
  split at h
  · rename_i h1
    split at h
    · exact ⟨h1, by assumption⟩
    · cases h
  · cases h
theorem intsN_toN {P : List Int} (h : ∀ x, x ∈ P → 0 ≤ x) : intsN (toN P) = P := by
  unfold intsN toN
  rw [List.map_map]
  conv => rhs; rw [← List.map_id P]
  refine List.map_congr_left fun x hx => ?_
  have := h x hx
  show ((x.toNat : Nat) : Int) = x
  omega
set_option maxRecDepth 100000 in
set_option maxHeartbeats 1000000 in
theorem spansX_any (B : Nat) (a pa : Option Addr) (cap pc : Nat) (A PA : Nat → Addr) (n : Int) (E : List Ed) (P : List Int) (w : World) (hS : ES w B (.slice a E.length cap) E A) (hP : Sl 24 .i64 w B (.slice pa P.length pc) P PA) (hB : B ≤ w.heap.size) (hm : E.length ≤ 9223372036854775807) (hl : P.length ≤ 1000000) :
    Calls Try.prog 29 #[.int .i64 n, .slice a E.length cap, .slice pa P.length pc] w (SpansRes n E P w) := by
  have HF := Lib.hid (forest_any B a cap A n E w hS hB hm)
  have HS := Lib.hid hS; have HP := Lib.hid hP
  clear hS hP
  go_enter Try.func29, Try.ntmps29
  go_wp2_with fail
  refine HF.out.mono ?_
  clear HF
  rintro e w1 ⟨hb1, ⟨h0, rfl⟩ | ⟨h0, o, v, ho, rfl, hv⟩⟩
  · obtain ⟨ee, hee⟩ : ∃ ee, gErr n E = ee := ⟨_, rfl⟩
    have H0 := Lib.hid h0; have HE := Lib.hid hee
    rw [hee] at h0 ⊢
    have hz : (ee != 0) = true := by simpa using h0
    clear h0 hee
    go_wp2_with fail
    go_ret2
    exact ⟨hb1, .inl ⟨H0.out, by rw [HE.out]; rfl⟩⟩
  · obtain ⟨fa, fc, FA, rfl, hF⟩ := ownI_rd hv
    obtain ⟨k, rfl, G⟩ := gErr_zero h0
    have hB1 := Nat.le_trans hB hb1.size
    have HX := Lib.hid (spans_any k E a pa cap pc A PA P (frs E o).length w1 ((HS.out.below (hb1.mono hB)).mono hB1) ((HP.out.below (hb1.mono hB)).mono hB1) G hl)
    have HO := Lib.hid ho; have H0 := Lib.hid h0
    clear hv hF ho h0 G
    go_wp2_with fail
    refine HX.out.mono ?_
    rintro e w2 ⟨rfl, hb2⟩
    go_wp2_with fail
    go_ret2
    exact ⟨hb1.trans (hb2.mono hb1.size), .inr ⟨H0.out, o, HO.out, rfl⟩⟩
set_option maxRecDepth 100000 in
set_option maxHeartbeats 2000000 in
theorem minimal_any (B : Nat) (a pa : Option Addr) (cap pc : Nat) (A PA : Nat → Addr) (n : Int) (E : List Ed) (P : List Int) (w : World) (hS : ES w B (.slice a E.length cap) E A) (hP : Sl 24 .i64 w B (.slice pa P.length pc) P PA) (hB : B ≤ w.heap.size) (hm : E.length ≤ 9223372036854775807) (hl : P.length ≤ 1000000) :
    Calls Try.prog 31 #[.int .i64 n, .slice a E.length cap, .slice pa P.length pc] w (MinRes n E P w) := by
  have HF := Lib.hid (forest_any B a cap A n E w hS hB hm)
  have HS := Lib.hid hS; have HP := Lib.hid hP
  clear hS hP
  go_enter Try.func31, Try.ntmps31
  go_wp2_with fail
  refine HF.out.mono ?_
  clear HF
  rintro e w1 ⟨hb1, ⟨h0, rfl⟩ | ⟨h0, o, v, ho, rfl, hv⟩⟩
  · obtain ⟨ee, hee⟩ : ∃ ee, gErr n E = ee := ⟨_, rfl⟩
    have H0 := Lib.hid h0; have HE := Lib.hid hee
    rw [hee] at h0 ⊢
    have hz : (ee != 0) = true := by simpa using h0
    clear h0 hee
    go_wp2_with fail
    go_ret2
    exact ⟨hb1, .inl ⟨H0.out, by rw [HE.out]; rfl⟩⟩
  · obtain ⟨fa, fc, FA, rfl, hF⟩ := ownI_rd hv
    obtain ⟨k, rfl, G⟩ := gErr_zero h0
    have hB1 := Nat.le_trans hB hb1.size
    have hml := G.m_le
    have hfl : (frs E o).length ≤ 1000000 := by have := frs_len E o; rw [ho.len] at this; omega
    have hE1 := (HS.out.below (hb1.mono hB)).mono hB1
    have hP1 := (HP.out.below (hb1.mono hB)).mono hB1
    have HX := Lib.hid (spans_any k E a pa cap pc A PA P (frs E o).length w1 hE1 hP1 G hl)
    have HO := Lib.hid ho; have H0 := Lib.hid h0
    have HE1 := Lib.hid hE1; have HP1 := Lib.hid hP1; have HF1 := Lib.hid hF
    clear hv hF ho h0 G hE1 hP1 HS HP
    go_wp2_with fail
    refine HX.out.mono ?_
    rintro e w2 ⟨rfl, hb2⟩
    have bel2 := hb1.trans (hb2.mono hb1.size)
    cases hsb : spB E P (frs E o).length with
    | false =>
      have HM := Lib.hid (show minB E o P = false by unfold minB; rw [hsb]; rfl)
      obtain ⟨ee, hee⟩ : ∃ ee, spE E.length P = ee := ⟨_, rfl⟩
      have HEE := Lib.hid hee
      rw [hee]
      clear hee HX
      by_cases hz0 : ee = 0
      · have hz : (ee != 0) = false := by simpa using hz0
        go_wp2_with fail
        go_ret2
        exact ⟨bel2, .inr ⟨H0.out, o, HO.out, by rw [HEE.out, HM.out, hz0]; rfl⟩⟩
      · have hz : (ee != 0) = true := by simpa using hz0
        go_wp2_with fail
        go_ret2
        exact ⟨bel2, .inr ⟨H0.out, o, HO.out, by rw [HEE.out, HM.out]; rfl⟩⟩
    | true =>
      obtain ⟨e0, e1, e2⟩ := spB_zero hsb
      obtain ⟨r1, r2⟩ := spE_zero e0
      have hPi : intsN (toN P) = P := intsN_toN fun x hx => (r1 x hx).1
      have hPN : Rd 24 1 w2 w2.heap.size (.slice pa (toN P).length pc) (toN P).length (nums .i64 (intsN (toN P))) PA := by
        rw [hPi, toN_len]; exact (HP1.out.below hb2).mono hb2.size
      have hpm : ∀ i, i ∈ toN P → i < E.length := fun i hi => by
        obtain ⟨x, hx, rfl⟩ := List.mem_map.1 hi
        have := r1 x hx; omega
      have HW1 := Lib.hid (weights_any E a pa cap pc A PA (toN P) w2 ((HE1.out.below hb2).mono hb2.size) hPN hpm (by rw [toN_len]; exact hl))
      rw [toN_len] at HW1
      have HM := Lib.hid (show minB E o P = decide (srt (wsOf E (toN P)) = srt (wsOf E (frs E o))) by unfold minB; rw [hsb]; rfl)
      have HE0 := Lib.hid e0
      have HPl := Lib.hid (show P.length = (frs E o).length by omega)
      rw [e0]
      clear HX hPN hpm r1 r2 hPi e0 e1 e2
      go_wp2_with fail
      refine HW1.out.mono ?_
      rintro e w3 ⟨b1, SA1, rfl, hS1, hb3⟩
      have bel23 := hb2.trans (hb3.mono hb2.size)
      have HW2 := Lib.hid (weights_any E a fa cap fc A FA (frs E o) w3 ((HE1.out.below bel23).mono bel23.size) ((HF1.out.below bel23).mono bel23.size) (fun i hi => frs_mem HO.out hi) hfl)
      have HS1 := Lib.hid hS1
      have bel3 := bel2.trans (hb3.mono bel2.size)
      clear HW1 hS1
      go_wp2_with fail
      refine HW2.out.mono ?_
      rintro e w4 ⟨b2, SA2, rfl, hS2, hb4⟩
      have hPl := HPl.out
      have hq := equalW_any w4.heap.size (frs E o).length (some ⟨b1, 0, none⟩) (some ⟨b2, 0, none⟩) P.length (frs E o).length SA1 SA2 (srt (wsOf E (toN P))) (srt (wsOf E (frs E o))) w4 (by rw [← hPl]; rw [hPl]; have := (HS1.out.below hb4).mono hb4.size; rwa [hPl] at this) hS2 (by rw [srt_len, wsOf_len, toN_len]; exact hPl) (by rw [srt_len, wsOf_len]) hfl (Nat.le_refl _)
      rw [← hPl] at hq
      have HQ := Lib.hid hq
      have bel4 := bel3.trans (hb4.mono bel3.size)
      rw [← hPl]
      clear hq hS2 HW2 hPl
      go_wp2_with fail
      refine HQ.out.mono ?_
      rintro e w5 ⟨rfl, hb5⟩
      go_wp2_with fail
      go_ret2
      exact ⟨bel4.trans (hb5.mono bel4.size), .inr ⟨H0.out, o, HO.out, by rw [HM.out, HE0.out]; rfl⟩⟩
end Go.Proofs.Ytbmcflmflmlmaaa
