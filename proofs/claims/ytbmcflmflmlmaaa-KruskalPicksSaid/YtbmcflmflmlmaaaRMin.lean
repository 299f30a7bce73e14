/- The walk of Minimal of the document's kruskal. Conditions: the choice is short; the weights are in range. -/
import Derived.Test.YtbmcflmflmlmaaaRSpn
import Derived.Test.YtbmcflmflmlmaaaRWgt
namespace Go.Proofs.Ytbmcflmflmlmaaa
open Go.RowKit

/-- what the document's Minimal answers -/
def RMinRes (n : Int) (E : List Ed) (P : List Int) (w : World) (e : Ending) (w' : World) : Prop :=
  Below w.heap.size w w' ∧ ((ckE n E P ≠ 0 ∧ e = .returned (.tuple #[.bool false, .int .i64 (ckE n E P)])) ∨
    (ckE n E P = 0 ∧ ((rspB n.toNat E P = false ∧ e = .returned (.tuple #[.bool false, .int .i64 0])) ∨
      (rspB n.toNat E P = true ∧ ∃ o, OrdOf E o ∧ e = .returned (.tuple #[.bool (decide (wSum E (toN P) = wSum E (frs E o))), .int .i64 0])))))
set_option maxRecDepth 100000 in
set_option maxHeartbeats 2000000 in
theorem rminimal_any (B : Nat) (a pa : Option Addr) (cap pc : Nat) (A PA : Nat → Addr) (n : Int) (E : List Ed) (P : List Int) (w : World) (hS : ES w B (.slice a E.length cap) E A) (hP : Sl 24 .i64 w B (.slice pa P.length pc) P PA) (hB : B ≤ w.heap.size) (hm : E.length ≤ 9223372036854775807) (hl : P.length ≤ 16384) (hr : ∀ i, i < E.length → inR (eAt E i).w) :
    Calls Try.prog 32 #[.int .i64 n, .slice a E.length cap, .slice pa P.length pc] w (RMinRes n E P w) := by
  have HC := Lib.hid (rspans_any B a pa cap pc A PA n E P w hS hP hB hm hl)
  have HS := Lib.hid hS; have HP := Lib.hid hP; have HRg := Lib.hid hr
  clear hS hP hr
  go_enter Try.func32, Try.ntmps32
  go_wp2_with fail
  refine HC.out.mono ?_
  clear HC
  rintro e w1 ⟨hb1, ⟨h0, rfl⟩ | ⟨h0, rfl⟩⟩
  · obtain ⟨ee, hee⟩ : ∃ ee, ckE n E P = ee := ⟨_, rfl⟩
    have H0 := Lib.hid h0; have HE := Lib.hid hee
    rw [hee] at h0 ⊢
    have hz : (ee != 0) = true := by simpa using h0
    clear h0 hee
    go_wp2_with fail
    go_ret2
    exact ⟨hb1, .inl ⟨H0.out, by rw [HE.out]; rfl⟩⟩
  · have H0 := Lib.hid h0
    obtain ⟨hg0, hr, hd⟩ := ckE_zero h0
    obtain ⟨k, rfl, G⟩ := gErr_zero hg0
    have HR := Lib.hid hr; have HG := Lib.hid G
    have hkn := G.n_le; have hml := G.m_le
    rw [Int.toNat_natCast]
    clear h0 hg0 hr hd G
    cases hsb : rspB k E P with
    | false =>
      have HSb := Lib.hid hsb
      clear hsb
      go_wp2_with fail
      go_ret2
      exact ⟨hb1, .inr ⟨H0.out, .inl ⟨by rw [Int.toNat_natCast]; exact HSb.out, rfl⟩⟩⟩
    | true =>
      have HSb := Lib.hid hsb
      have hs1 := hb1.size
      have hS1 := (HS.out.below (hb1.mono hB)).mono (Nat.le_trans hB hs1)
      have hP1 := (HP.out.below (hb1.mono hB)).mono (Nat.le_trans hB hs1)
      have hpn : intsN (toN P) = P := intsN_toN fun x hx => (HR.out x hx).1
      have hPr : Rd 24 1 w1 w1.heap.size (.slice pa (toN P).length pc) (toN P).length (nums .i64 (intsN (toN P))) PA := by rw [hpn, toN_len]; exact hP1
      have hpm : ∀ i, i ∈ toN P → i < E.length := fun i hi => by
        obtain ⟨y, hy, rfl⟩ := List.mem_map.1 hi
        have := HR.out y hy; omega
      have h1 := rsum_any a pa cap pc A PA E (toN P) w1 hS1 hPr hpm (by rw [toN_len]; omega) HRg.out
      rw [toN_len] at h1
      have HS1 := Lib.hid hS1; have H1 := Lib.hid h1; have HB1 := Lib.hid hb1
      clear hsb hS1 hP1 hpn hPr hpm h1 hb1
      go_wp2_with fail
      refine H1.out.mono ?_
      clear H1
      rintro e w2 ⟨s, U, rfl, hV, hU, hb2⟩
      rw [toN_len] at hU
      have HV := Lib.hid hV; have HU := Lib.hid hU
      have HS2 := Lib.hid ((HS1.out.below hb2).mono hb2.size)
      have HB2 := Lib.hid (HB1.out.trans (hb2.mono hs1))
      clear hV hU hb2
      go_wp2_with fail
      refine (rgrown_any w2.heap.size a cap k A E w2 HS2.out (Nat.le_refl _) (by omega) (by omega) (fun i hi => by have := HG.out.ends i hi; omega)).mono ?_
      rintro e w3 ⟨fv, o, rfl, ho, hfv, hb3⟩
      obtain ⟨fa, fc, FA, rfl, hF⟩ := ownI_rd hfv
      have hfl : (frs E o).length ≤ 16384 := by have := frs_len E o; rw [ho.len] at this; omega
      have h2 := rsum_any a fa cap fc A FA E (frs E o) w3 ((HS2.out.below hb3).mono hb3.size) hF (fun i hi => frs_mem ho hi) (by omega) HRg.out
      have H2 := Lib.hid h2; have HO := Lib.hid ho
      have HB3 := Lib.hid (HB2.out.trans (hb3.mono HB2.out.size))
      clear hfv hF h2 ho hb3
      go_wp2_with fail
      refine H2.out.mono ?_
      clear H2
      rintro e w4 ⟨t, V, rfl, hV2, hU2, hb4⟩
      have hUb : U ≤ 340282366920938463463374607431768211456 := by have := HU.out; have h3 : P.length * 9223372036854775808 ≤ 16384 * 9223372036854775808 := Nat.mul_le_mul_right _ hl; omega
      have hVb : V ≤ 340282366920938463463374607431768211456 := by have h3 : (frs E o).length * 9223372036854775808 ≤ 16384 * 9223372036854775808 := Nat.mul_le_mul_right _ hfl; omega
      have HOr := Lib.hid (wide_order s U t V w4 hUb hVb)
      have HV2 := Lib.hid hV2
      have HB4 := Lib.hid (HB3.out.trans (hb4.mono HB3.out.size))
      clear hV2 hU2 hb4 hUb hVb
      go_wp2_with fail
      refine HOr.out.mono ?_
      clear HOr
      rintro e w5 ⟨x, rfl, hx, hb5⟩
      have HB5 := Lib.hid (HB4.out.trans (hb5.mono HB4.out.size))
      have HX := Lib.hid (show (x == 0) = decide (wSum E (toN P) = wSum E (frs E o)) by
        rw [Bool.eq_iff_iff]
        simp only [beq_iff_eq, decide_eq_true_eq]
        rw [hx, HV.out, HV2.out]; rfl)
      clear hx hb5
      go_wp2_with fail
      go_ret2
      exact ⟨HB5.out, .inr ⟨H0.out, .inr ⟨by rw [Int.toNat_natCast]; exact HSb.out, o, HO.out, by rw [← HX.out]; rfl⟩⟩⟩
end Go.Proofs.Ytbmcflmflmlmaaa
