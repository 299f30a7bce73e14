/- The walk of the law BridgeFinds: the program's graph beside the document's. Conditions: the edges are given as cells. -/
import Derived.Test.YtcpikabhcjkkmaaBdD
import Derived.Test.YtcpikabhcjkkmaaBrWk
namespace Go.Proofs.Ytcpikabhcjkkmaa
open Go.RowKit

theorem cutL_len2 (n : Nat) (E : List Ed) : (cutL n E).length ≤ n := by
  have := List.length_filter_le (cutB E) (List.range n)
  simpa [cutL] using this
/-- what both answers -/
def BothRes (n : Int) (E : List Ed) (w : World) (e : Ending) (w' : World) : Prop := Below w.heap.size w w' ∧
  ((∃ v1 v2, e = .returned (.tuple #[v1, v2, .bool false])) ∨ ∃ (k b r : Nat), n = (k : Int) ∧ k ≤ 40 ∧ E.length ≤ 60 ∧ GOk k E ∧ e = .returned (.tuple #[.pointer (some ⟨b, 0, none⟩), .pointer (some ⟨r, 0, none⟩), .bool true]) ∧
    GraphAt w' w'.heap.size b k E ∧ RAt w' w'.heap.size r k E)
set_option maxRecDepth 100000 in
set_option maxHeartbeats 1000000 in
theorem both_any (B : Nat) (a : Option Addr) (cap : Nat) (A : Nat → Addr) (n : Int) (E : List Ed) (w : World) (hS : ES w B (.slice a E.length cap) E A) (hB : B ≤ w.heap.size) (hl : E.length ≤ 9223372036854775807) :
    Calls Try.prog 13 #[.int .i64 n, .slice a E.length cap] w (BothRes n E w) := by
  by_cases h1 : 40 < n
  · have d1 : decide (n > 40) = true := decide_eq_true h1
    have d2 : decide (40 < n) = true := decide_eq_true h1
    clear hS h1
    go_enter Try.func13, Try.ntmps13
    go_wp2_with fail
    go_ret3
    exact ⟨Below.refl _ _, .inl ⟨_, _, rfl⟩⟩
  have d1 : decide (n > 40) = false := decide_eq_false h1
  have d2 : decide (40 < n) = false := decide_eq_false h1
  by_cases h2 : 60 < E.length
  · have d3 : decide ((E.length : Int) > 60) = true := decide_eq_true (by omega)
    have d4 : decide (60 < E.length) = true := decide_eq_true h2
    clear hS h1 h2
    go_enter Try.func13, Try.ntmps13
    go_wp2_with fail
    go_ret3
    exact ⟨Below.refl _ _, .inl ⟨_, _, rfl⟩⟩
  have d3 : decide ((E.length : Int) > 60) = false := decide_eq_false (by omega)
  have d4 : decide (60 < E.length) = false := decide_eq_false h2
  have HG := Lib.hid (gnew_any B a cap A n E w hS hB hl)
  have HS := Lib.hid hS
  have H1 := Lib.hid h1; have H2 := Lib.hid h2
  clear hS h1 h2
  go_enter Try.func13, Try.ntmps13
  go_wp2_with fail
  refine HG.out.mono ?_
  clear HG
  rintro e w2 ⟨b2, h⟩
  have hs2 := b2.size
  have HN := Lib.hid (rnew_any B a cap A n E w2 (HS.out.below (b2.mono hB)) (by omega) hl)
  have HB2 := Lib.hid b2
  clear b2
  rcases h with ⟨h0, rfl⟩ | ⟨b, k, rfl, hok, rfl, hgr⟩
  · have hz : (gErr n E == 0) = false := beq_eq_false_iff_ne.2 h0
    have hz2 : (gErr n E != 0) = true := by simpa using h0
    generalize hge : gErr n E = ge at *
    clear h0
    go_wp2_with fail
    refine HN.out.mono ?_
    clear HN
    rintro e w3 ⟨v3, rfl, -, b3⟩
    have HB3 := Lib.hid (HB2.out.trans (b3.mono hs2))
    clear b3
    go_wp2_with fail
    go_ret3
    exact ⟨HB3.out, .inl ⟨_, _, rfl⟩⟩
  · have HGr := Lib.hid hgr
    have HOk := Lib.hid hok
    clear hgr hok
    go_wp2_with fail
    refine HN.out.mono ?_
    clear HN
    rintro e w3 ⟨v3, rfl, hrg, b3⟩
    rw [gErr_ok HOk.out]
    rw [gO_some HOk.out] at hrg
    obtain ⟨r, rfl, hra⟩ := hrg
    have HF := Lib.hid (show BothRes (k : Int) E w (.returned (.tuple #[.pointer (some ⟨b, 0, none⟩), .pointer (some ⟨r, 0, none⟩), .bool true])) w3 from ⟨HB2.out.trans (b3.mono hs2), .inr ⟨k, b, r, rfl, by have := H1.out; omega, by have := H2.out; omega, HOk.out, rfl, (HGr.out.below b3).mono b3.size, hra⟩⟩)
    clear b3 hra
    go_wp2_with fail
    go_ret3
    exact HF.out
set_option maxRecDepth 100000 in
set_option maxHeartbeats 2000000 in
theorem finds_walk (n : Int) (a : Option Addr) (cap : Nat) (A : Nat → Addr) (E : List Ed) (w : World) (hS : ES w w.heap.size (.slice a E.length cap) E A) (hl : E.length ≤ 9223372036854775807) :
    Calls Try.prog 3 #[.int .i64 n, .slice a E.length cap] w fun e w' => e = .returned (.bool true) ∧ Below w.heap.size w w' := by
  have HM := Lib.hid (both_any w.heap.size a cap A n E w hS (Nat.le_refl _) hl)
  clear hS
  go_enter Try.func3, Try.ntmps3
  go_wp2_with fail
  refine HM.out.mono ?_
  clear HM
  rintro e w1 ⟨b1, ⟨v1, v2, rfl⟩ | ⟨k, b, r, rfl, hk, hm, hok, rfl, hg, hr⟩⟩
  · have HB := Lib.hid b1
    clear b1
    go_wp2_with fail
    refine (works_any _).mono ?_
    rintro e w2 ⟨rfl, b2⟩
    replace HB := Lib.hid (HB.out.trans (b2.mono HB.out.size))
    clear b2
    go_wp2_with fail
    go_ret
    exact ⟨rfl, HB.out⟩
  · have HB := Lib.hid b1
    have HG := Lib.hid (show GV w1 w1.heap.size (.pointer (some ⟨b, 0, none⟩)) (some (k, E)) from ⟨b, rfl, hg⟩)
    have HR := Lib.hid hr
    have HC := Lib.hid (bridges_out w1.heap.size (some ⟨b, 0, none⟩) k E (some (k, E)) (.inl rfl) w1 HG.out (Nat.le_refl _))
    have hbl := briL_len E
    have hcl := cutL_len2 k E
    clear b1 hok hg hr
    go_wp2_with fail
    refine HC.out.mono ?_
    clear HC
    rintro e w2 ⟨p1, rfl, hp1, b2⟩
    replace HG := Lib.hid ((HG.out.below b2).mono b2.size)
    replace HR := Lib.hid ((HR.out.below b2).mono b2.size)
    replace HB := Lib.hid (HB.out.trans (b2.mono HB.out.size))
    clear b2
    have HP := Lib.hid hp1
    have HC := Lib.hid (rbridges_any w2.heap.size r k E w2 HR.out (Nat.le_refl _))
    clear hp1
    go_wp2_with fail
    refine HC.out.mono ?_
    clear HC
    rintro e w3 h3
    obtain ⟨q1, rfl, hq1, b3⟩ := h3.rd
    replace HG := Lib.hid ((HG.out.below b3).mono b3.size)
    replace HR := Lib.hid ((HR.out.below b3).mono b3.size)
    replace HP := Lib.hid ((HP.out.below b3).mono b3.size)
    replace HB := Lib.hid (HB.out.trans (b3.mono HB.out.size))
    clear b3
    have HSm := sameI_any w3.heap.size p1 q1 _ _ w3 HP.out hq1 (by omega)
    rw [decide_eq_true rfl] at HSm
    have HSm := Lib.hid HSm
    clear hq1 h3
    go_wp2_with fail
    refine HSm.out.mono ?_
    clear HSm HP
    rintro e w4 ⟨rfl, m4, rfl⟩
    have b4 := below_drewN (Below.refl w3.heap.size w3) m4
    replace HG := Lib.hid ((HG.out.below b4).mono b4.size)
    replace HR := Lib.hid ((HR.out.below b4).mono b4.size)
    replace HB := Lib.hid (HB.out.trans (b4.mono HB.out.size))
    clear b4
    have HC := Lib.hid (cuts_out _ (some ⟨b, 0, none⟩) k E (some (k, E)) (.inl rfl) _ HG.out (Nat.le_refl _))
    generalize w3.drewN m4 = w4 at *
    go_wp2_with fail
    refine HC.out.mono ?_
    clear HC
    rintro e w5 ⟨p5, rfl, hp5, b5⟩
    replace HG := Lib.hid ((HG.out.below b5).mono b5.size)
    replace HR := Lib.hid ((HR.out.below b5).mono b5.size)
    replace HB := Lib.hid (HB.out.trans (b5.mono HB.out.size))
    clear b5
    have HP := Lib.hid hp5
    have HC := Lib.hid (rcuts_any w5.heap.size r k E w5 HR.out (Nat.le_refl _))
    clear hp5
    go_wp2_with fail
    refine HC.out.mono ?_
    clear HC
    rintro e w6 ⟨q6, rfl, hq6, b6⟩
    replace HG := Lib.hid ((HG.out.below b6).mono b6.size)
    replace HR := Lib.hid ((HR.out.below b6).mono b6.size)
    replace HP := Lib.hid ((HP.out.below b6).mono b6.size)
    replace HB := Lib.hid (HB.out.trans (b6.mono HB.out.size))
    clear b6
    have HSm := sameI_any w6.heap.size p5 q6 _ _ w6 HP.out hq6 (by omega)
    rw [decide_eq_true rfl] at HSm
    have HSm := Lib.hid HSm
    clear hq6
    go_wp2_with fail
    refine HSm.out.mono ?_
    clear HSm HP
    rintro e w7 ⟨rfl, m7, rfl⟩
    have b7 := below_drewN (Below.refl w6.heap.size w6) m7
    replace HG := Lib.hid ((HG.out.below b7).mono b7.size)
    replace HR := Lib.hid ((HR.out.below b7).mono b7.size)
    replace HB := Lib.hid (HB.out.trans (b7.mono HB.out.size))
    clear b7
    have HC := Lib.hid (labels_out _ (some ⟨b, 0, none⟩) k E (some (k, E)) (.inl rfl) _ HG.out (Nat.le_refl _))
    generalize w6.drewN m7 = w7 at *
    go_wp2_with fail
    refine HC.out.mono ?_
    clear HC
    rintro e w8 ⟨p8, rfl, hp8, b8⟩
    replace HR := Lib.hid ((HR.out.below b8).mono b8.size)
    replace HB := Lib.hid (HB.out.trans (b8.mono HB.out.size))
    clear b8
    have HP := Lib.hid hp8
    have HC := Lib.hid (rlabs_any w8.heap.size r k E w8 HR.out (Nat.le_refl _))
    clear hp8 HG
    go_wp2_with fail
    refine HC.out.mono ?_
    clear HC
    rintro e w9 ⟨q9, rfl, hq9, b9⟩
    replace HP := Lib.hid ((HP.out.below b9).mono b9.size)
    replace HB := Lib.hid (HB.out.trans (b9.mono HB.out.size))
    clear b9
    have HSm := sameI_any w9.heap.size p8 q9 _ _ w9 HP.out hq9 (by simp; omega)
    rw [decide_eq_true rfl] at HSm
    have HSm := Lib.hid HSm
    clear hq9 HR
    go_wp2_with fail
    refine HSm.out.mono ?_
    clear HSm HP
    rintro e w10 ⟨rfl, m10, rfl⟩
    have b10 := below_drewN (Below.refl w9.heap.size w9) m10
    replace HB := Lib.hid (HB.out.trans (b10.mono HB.out.size))
    clear b10
    generalize w9.drewN m10 = w10 at *
    go_wp2_with fail
    refine (works_any _).mono ?_
    rintro e w11 ⟨rfl, b11⟩
    replace HB := Lib.hid (HB.out.trans (b11.mono HB.out.size))
    clear b11
    go_wp2_with fail
    go_ret
    exact ⟨rfl, HB.out⟩
end Go.Proofs.Ytcpikabhcjkkmaa
