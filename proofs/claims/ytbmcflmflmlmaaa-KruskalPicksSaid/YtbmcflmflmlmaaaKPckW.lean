/- The walk of the law KruskalPicks: whether edges are a minimum spanning forest is as the document says. No conditions. -/
import Derived.Test.YtbmcflmflmlmaaaKSwpW
import Derived.Test.YtbmcflmflmlmaaaPckD
namespace Go.Proofs.Ytbmcflmflmlmaaa
open Go.RowKit

theorem numI (L : List Int) (i j : Nat) : (nums .i64 L i j).oneCell' = true := rfl
set_option maxRecDepth 100000 in
set_option maxHeartbeats 4000000 in
theorem picks_walk (n : Int) (a : Option Addr) (cap : Nat) (E : List Ed) (A : Nat → Addr) (pa : Option Addr) (pc : Nat) (P : List Int) (PA : Nat → Addr) (w : World) (hS : ES w w.heap.size (.slice a E.length cap) E A) (hl : E.length ≤ 9223372036854775807) (hr : ∀ i, i < E.length → inR (eAt E i).w) (hP : Sl 24 .i64 w w.heap.size (.slice pa P.length pc) P PA) (hpl : P.length ≤ 9223372036854775807) :
    Calls Try.prog 8 #[.int .i64 n, .slice a E.length cap, .slice pa P.length pc] w fun e w' => e = .returned (.bool true) ∧ Below w.heap.size w w' := by
  have HS := Lib.hid hS; have HR := Lib.hid hr; have HP := Lib.hid hP
  clear hS hr hP
  go_enter Try.func8, Try.ntmps8
  go_wp2_with fail
  refine (small_any n a cap E.length w hl).mono ?_
  rintro e wx ⟨rfl, rfl⟩
  by_cases hsm : (n ≤ 60 ∨ 4096 < n) ∧ E.length ≤ 150
  · rw [decide_eq_true hsm]
    have hl2 : E.length ≤ 150 := hsm.2
    clear hsm hl
    by_cases hp : 150 < P.length
    · have d1 : decide ((P.length : Int) > 150) = true := decide_eq_true (by omega)
      have d2 : decide (150 < P.length) = true := decide_eq_true hp
      clear hp
      go_wp2_with fail
      refine (works_any _).mono ?_
      rintro e w7 ⟨rfl, b7⟩
      go_wp2_with fail
      go_ret
      exact ⟨rfl, b7⟩
    · have d1 : decide ((P.length : Int) > 150) = false := decide_eq_false (by omega)
      have d2 : decide (150 < P.length) = false := decide_eq_false hp
      have hp2 : P.length ≤ 150 := by omega
      clear hp hpl
      go_wp2_with (at_builtin; refine copiedAny etI rfl _ _ rfl HP.out (Nat.le_refl _) (fun i _ j _ => numI P i j) _ rfl (by simp) rfl (by omega) (by omega) ?_; intro g cp w2 hg2 R2 D2; refine Hid.out ?_)
      obtain ⟨a2, c2, A2, e2, hE2⟩ := Rd.own etI R2
      cases e2
      have HQ2 := Lib.hid (show Sl 24 .i64 w2 w2.heap.size (.slice (some ⟨g, 0, none⟩) P.length cp) P A2 from hE2); have HS2 := Lib.hid ((HS.out.below D2).mono D2.size); have HP2 := Lib.hid (show Sl 24 .i64 w2 w2.heap.size (.slice pa P.length pc) P PA from (HP.out.below D2).mono D2.size); have B2 := Lib.hid D2
      refine Lib.hid ?_
      clear hE2 D2 R2
      go_wp2_with fail
      refine (spansX_any w2.heap.size a _ cap cp A A2 n E P w2 HS2.out HQ2.out (Nat.le_refl _) (by omega) (by omega)).mono ?_
      intro e w3 hres
      obtain ⟨x, y, rfl, hboth⟩ := spans_both hres
      have b3 := hres.1
      have HBo := Lib.hid hboth
      have HQ3 := Lib.hid (show Sl 24 .i64 w3 w3.heap.size (.slice (some ⟨g, 0, none⟩) P.length cp) P A2 from (HQ2.out.below b3).mono b3.size); have HS3 := Lib.hid ((HS2.out.below b3).mono b3.size); have HP3 := Lib.hid (show Sl 24 .i64 w3 w3.heap.size (.slice pa P.length pc) P PA from (HP2.out.below b3).mono b3.size)
      have B3 := Lib.hid (B2.out.trans (b3.mono B2.out.size))
      clear hres hboth b3
      go_wp2_with fail
      refine (rspans_any w3.heap.size a pa cap pc A PA n E P w3 HS3.out HP3.out (Nat.le_refl _) (by omega) (by omega)).mono ?_
      intro e w4 hres
      obtain rfl := HBo.out _ _ _ hres
      have b4 := hres.1
      have HQ4 := Lib.hid (show Sl 24 .i64 w4 w4.heap.size (.slice (some ⟨g, 0, none⟩) P.length cp) P A2 from (HQ3.out.below b4).mono b4.size); have HS4 := Lib.hid ((HS3.out.below b4).mono b4.size); have HP4 := Lib.hid (show Sl 24 .i64 w4 w4.heap.size (.slice pa P.length pc) P PA from (HP3.out.below b4).mono b4.size)
      have B4 := Lib.hid (B3.out.trans (b4.mono B3.out.size))
      clear hres b4 HBo
      go_wp2_with fail
      refine (minimal_any w4.heap.size a _ cap cp A A2 n E P w4 HS4.out HQ4.out (Nat.le_refl _) (by omega) (by omega)).mono ?_
      intro e w5 hres
      obtain ⟨x', y', rfl, hboth⟩ := min_both hres
      have b5 := hres.1
      have HBo := Lib.hid hboth
      have HQ5 := Lib.hid (show Sl 24 .i64 w5 w5.heap.size (.slice (some ⟨g, 0, none⟩) P.length cp) P A2 from (HQ4.out.below b5).mono b5.size); have HS5 := Lib.hid ((HS4.out.below b5).mono b5.size); have HP5 := Lib.hid (show Sl 24 .i64 w5 w5.heap.size (.slice pa P.length pc) P PA from (HP4.out.below b5).mono b5.size)
      have B5 := Lib.hid (B4.out.trans (b5.mono B4.out.size))
      clear hres hboth b5
      go_wp2_with fail
      refine (rminimal_any w5.heap.size a pa cap pc A PA n E P w5 HS5.out HP5.out (Nat.le_refl _) (by omega) (by omega) HR.out).mono ?_
      intro e w6 hres
      obtain rfl := HBo.out _ _ _ hres
      have b6 := hres.1
      have HQ6 := Lib.hid (show Sl 24 .i64 w6 w6.heap.size (.slice (some ⟨g, 0, none⟩) P.length cp) P A2 from (HQ5.out.below b6).mono b6.size); have HP6 := Lib.hid (show Sl 24 .i64 w6 w6.heap.size (.slice pa P.length pc) P PA from (HP5.out.below b6).mono b6.size)
      have B6 := Lib.hid (B5.out.trans (b6.mono B5.out.size))
      have HN := Lib.hid (numbers_any w6.heap.size _ pa _ pc A2 PA P P w6 HQ6.out HP6.out (by omega))
      rw [decide_eq_true rfl] at HN
      have k0 : (x == x) = true := by simp
      have k1 : (y == y) = true := by simp
      have k2 : (x' == x') = true := by simp
      have k3 : (y' == y') = true := by simp
      clear hres b6
      go_wp2_with fail
      refine HN.out.mono ?_
      rintro e w7 ⟨rfl, q7, rfl⟩
      go_wp2_with fail
      refine (works_any _).mono ?_
      rintro e w9 ⟨rfl, b9⟩
      have B9 := Lib.hid ((below_drewN B6.out _).trans (b9.mono B6.out.size))
      clear b9
      go_wp2_with fail
      go_ret
      exact ⟨rfl, B9.out⟩
  · rw [decide_eq_false hsm]
    have HSM := Lib.hid hsm
    clear hsm
    go_wp2_with fail
    refine (works_any _).mono ?_
    rintro e w7 ⟨rfl, b7⟩
    go_wp2_with fail
    go_ret
    exact ⟨rfl, b7⟩
end Go.Proofs.Ytbmcflmflmlmaaa
