/- The walk of the law KruskalOrders: the order of any edges is that of the document. No conditions. -/
import Derived.Test.YtbmcflmflmlmaaaKWorks
import Derived.Test.YtbmcflmflmlmaaaRGrow
namespace Go.Proofs.Ytbmcflmflmlmaaa
open Go.RowKit

set_option maxRecDepth 100000 in
set_option maxHeartbeats 2000000 in
theorem orders_walk (a : Option Addr) (cap : Nat) (E : List Ed) (A : Nat → Addr) (w : World) (hS : ES w w.heap.size (.slice a E.length cap) E A) (hl : E.length ≤ 9223372036854775807) :
    Calls Try.prog 3 #[.slice a E.length cap] w fun e w' => e = .returned (.bool true) ∧ Below w.heap.size w w' := by
  have HS := Lib.hid hS
  clear hS
  by_cases h150 : 150 < E.length
  · have d1 : decide ((E.length : Int) > 150) = true := decide_eq_true (by omega)
    have d2 : decide (150 < E.length) = true := decide_eq_true h150
    go_enter Try.func3, Try.ntmps3
    go_wp2_with fail
    go_ret
    exact ⟨rfl, Below.refl _ _⟩
  · have d1 : decide ((E.length : Int) > 150) = false := decide_eq_false (by omega)
    have d2 : decide (150 < E.length) = false := decide_eq_false h150
    go_enter Try.func3, Try.ntmps3
    go_wp2_with (at_builtin; refine copiedAny etE rfl _ _ rfl HS.out (Nat.le_refl _) (fun i _ j _ => edC_one E i j) _ rfl (by simp) rfl (by omega) (by omega) ?_; intro g cp w2 hg2 R2 D2; refine Hid.out ?_)
    obtain ⟨a2, c2, A2, e2, hE2⟩ := Rd.own etE R2
    cases e2
    have HE2 := Lib.hid hE2; have HS2 := Lib.hid ((HS.out.below D2).mono D2.size); have B2 := Lib.hid D2
    refine Lib.hid ?_
    clear hE2 D2 R2
    go_wp2_with fail
    refine (order_any w2.heap.size E _ _ A2 w2 HE2.out (Nat.le_refl _) (by omega)).mono ?_
    rintro e w3 ⟨o, b, ho, rfl, hb, hR, b3⟩
    have HO := Lib.hid ho
    have HR3 := Lib.hid (row_rd hR E.length)
    have HE3 := Lib.hid ((HE2.out.below b3).mono b3.size)
    have HS3 := Lib.hid ((HS2.out.below b3).mono b3.size)
    have B3 := Lib.hid (B2.out.trans (b3.mono B2.out.size))
    clear ho hR b3 hb
    go_wp2_with fail
    refine (rorder_any w3.heap.size a cap A E w3 HS3.out (Nat.le_refl _) (by omega)).mono ?_
    rintro e w4 ⟨v, o', rfl, ho', hv, b4⟩
    obtain rfl : o = o' := HO.out.uniq ho'
    obtain ⟨fa, fc, FA, rfl, hF⟩ := ownI_rd hv
    have hol := ho'.len
    have HR4 := Lib.hid ((HR3.out.below b4).mono b4.size)
    have HF4 := Lib.hid hF
    have HE4 := Lib.hid ((HE3.out.below b4).mono b4.size)
    have HS4 := Lib.hid ((HS3.out.below b4).mono b4.size)
    have B4 := Lib.hid (B3.out.trans (b4.mono B3.out.size))
    have HN := Lib.hid (numbers_n w4.heap.size E.length o.length (some ⟨b, 0, none⟩) fa E.length fc _ FA (intsN o) (intsN o) w4 (by rw [intsN_len, hol]) (intsN_len o) HR4.out HF4.out (by omega))
    rw [decide_eq_true rfl] at HN
    clear ho' hv hF b4 hol
    go_wp2_with fail
    refine HN.out.mono ?_
    rintro e w5 ⟨rfl, q5, rfl⟩
    have HE5 := Lib.hid ((HE4.out.below (below_drewN (Below.refl _ _) q5)).mono (Nat.le_refl _))
    have HS5 := Lib.hid ((HS4.out.below (below_drewN (Below.refl _ _) q5)).mono (Nat.le_refl _))
    go_wp2_with fail
    refine (edges_same w4.heap.size _ a _ cap A2 A E _ HE5.out HS5.out (by omega)).mono ?_
    rintro e w6 ⟨rfl, q6, rfl⟩
    go_wp2_with fail
    refine (works_any _).mono ?_
    rintro e w7 ⟨rfl, b7⟩
    have B7 := Lib.hid ((below_drewN B4.out _).trans (b7.mono B4.out.size))
    clear b7
    go_wp2_with fail
    go_ret
    exact ⟨rfl, B7.out⟩
end Go.Proofs.Ytbmcflmflmlmaaa
