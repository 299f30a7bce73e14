/- The walk of the law KruskalThresholds: the forest has the components of all thresholds. No conditions. -/
import Derived.Test.YtbmcflmflmlmaaaKWorks
import Derived.Test.YtbmcflmflmlmaaaKSom
import Derived.Test.YtbmcflmflmlmaaaBlt
namespace Go.Proofs.Ytbmcflmflmlmaaa
open Go.RowKit

/-- labels in a row, as a slice that is read -/
theorem natC_rd {w : World} {g n : Nat} {f : Nat → Nat} (h : Row w g n (natC f)) : Rd 24 1 w w.heap.size (.slice (some ⟨g, 0, none⟩) n n) n (nums .i64 (intsN ((List.range n).map f))) (fun i => (⟨g, 0, none⟩ : Addr).add (i * 1)) :=
  Rd.addr etI (fun _ => h.lt) fun i hi j hj => by
    have h0 : j = 0 := by omega
    subst h0
    rw [add_mk, Nat.zero_add]
    have := h.cell (i := i * 1 + 0) (by omega)
    rw [this]
    unfold nums natC
    rw [intsN_nth]
    simp [List.getD, hi]
/-- two graphs of 30 vertices whose labels agree at a threshold -/
def Agree (w : World) (b1 b2 : Nat) (E F : List Ed) : Prop := GraphAt w w.heap.size b1 30 E ∧ GraphAt w w.heap.size b2 30 F
theorem Agree.below {w w' : World} {b1 b2 : Nat} {E F : List Ed} (h : Agree w b1 b2 E F) (hb : Below w.heap.size w w') : Agree w' b1 b2 E F := ⟨(h.1.below hb).mono hb.size, (h.2.below hb).mono hb.size⟩
set_option maxRecDepth 100000 in
set_option maxHeartbeats 4000000 in
theorem thresholds_walk (a : Option Addr) (cap : Nat) (L : List Lk) (A : Nat → Addr) (θ : Int) (w : World) (hS : LS w w.heap.size (.slice a L.length cap) L A) (hl : L.length ≤ 9223372036854775807) (hr : LkR L) :
    Calls Try.prog 7 #[.slice a L.length cap, .int .i64 θ] w fun e w' => e = .returned (.bool true) ∧ Below w.heap.size w w' := by
  have HS := Lib.hid hS; have HR := Lib.hid hr
  clear hS hr
  by_cases h120 : 120 < L.length
  · have d1 : decide ((L.length : Int) > 120) = true := decide_eq_true (by omega)
    have d2 : decide (120 < L.length) = true := decide_eq_true h120
    clear h120
    go_enter Try.func7, Try.ntmps7
    go_wp2_with fail
    refine (works_any _).mono ?_
    rintro e w7 ⟨rfl, b7⟩
    go_wp2_with fail
    go_ret
    exact ⟨rfl, b7⟩
  · have d1 : decide ((L.length : Int) > 120) = false := decide_eq_false (by omega)
    have d2 : decide (120 < L.length) = false := decide_eq_false h120
    have hl2 : L.length ≤ 120 := by omega
    clear h120 hl
    go_enter Try.func7, Try.ntmps7
    go_wp2_with fail
    refine (built_any w.heap.size a cap 30 A L w HS.out (Nat.le_refl _) HR.out (by omega) (by omega) (by omega)).mono ?_
    rintro e w1 ⟨v, rfl, hO, b1⟩
    obtain ⟨E, hE⟩ : ∃ E, bltE 30 L = E := ⟨_, rfl⟩
    have hG : GOk 30 E := by rw [← hE]; exact bltE_ok (by omega) (by omega) (by omega)
    have hEl : E.length ≤ 120 := by rw [← hE]; exact Nat.le_trans (bltE_len 30 L) hl2
    rw [hE] at hO
    obtain ⟨ea, ec, EA, rfl, hES⟩ := hO.rd
    have HG := Lib.hid hG; have HE1 := Lib.hid hES; have B1 := Lib.hid b1
    clear hE hG hO hES b1
    go_wp2_with fail
    refine (forest_any w1.heap.size ea ec EA 30 E w1 HE1.out (Nat.le_refl _) (by omega)).mono ?_
    rintro e w2 ⟨b2, ⟨h0, _⟩ | ⟨_, o, fv, ho, rfl, hfv⟩⟩
    · exact absurd (gErr_ok HG.out) h0
    obtain ⟨fa, fc, FA, rfl, hF⟩ := ownI_rd hfv
    have HO := Lib.hid ho
    have hFm : ∀ i, i ∈ frs E o → i < E.length := fun i hi => ho.mem.1 ((frs_sub E o).mem hi)
    have hFl : (frs E o).length ≤ 120 := by have := frs_len E o; rw [ho.len] at this; omega
    have HFm := Lib.hid hFm
    have HF2 := Lib.hid hF
    have HE2 := Lib.hid ((HE1.out.below b2).mono b2.size)
    have B2 := Lib.hid (B1.out.trans (b2.mono B1.out.size))
    clear ho hfv hF hFm b2
    go_wp2_with fail
    refine (gnew_any w2.heap.size ea ec EA 30 E w2 HE2.out (Nat.le_refl _) (by omega)).mono ?_
    rintro e w3 ⟨b3, ⟨h0, _⟩ | ⟨g1, k, hk, _, rfl, hG3⟩⟩
    · exact absurd (gErr_ok HG.out) h0
    obtain rfl : k = 30 := by omega
    clear hk
    have HG3 := Lib.hid hG3
    have HF3 := Lib.hid ((HF2.out.below b3).mono b3.size)
    have HE3 := Lib.hid ((HE2.out.below b3).mono b3.size)
    have B3 := Lib.hid (B2.out.trans (b3.mono B2.out.size))
    clear hG3 b3
    go_wp2_with fail
    refine (some_any ea fa ec fc EA FA E (frs E o) w3 HE3.out HF3.out HFm.out (by omega)).mono ?_
    rintro e w4 ⟨sv, rfl, hO4, b4⟩
    obtain ⟨sa, sc, SA, rfl, hS4⟩ := hO4.rd
    have HS4 := Lib.hid hS4
    have HG4 := Lib.hid ((HG3.out.below b4).mono b4.size)
    have HGs := Lib.hid (gok_some HG.out HFm.out (by omega))
    have B4 := Lib.hid (B3.out.trans (b4.mono B3.out.size))
    have hsl := someE_len E (frs E o)
    have HSl := Lib.hid hsl
    clear hO4 hS4 b4 hsl
    go_wp2_with fail
    refine (gnew_any w4.heap.size sa sc SA 30 (someE E (frs E o)) w4 HS4.out (Nat.le_refl _) (by rw [HSl.out]; omega)).mono ?_
    rintro e w5 ⟨b5, ⟨h0, _⟩ | ⟨g2, k, hk, _, rfl, hG5⟩⟩
    · exact absurd (gErr_ok HGs.out) h0
    obtain rfl : k = 30 := by omega
    clear hk
    have HA5 := Lib.hid (show Agree w5 g1 g2 E (someE E (frs E o)) from ⟨(HG4.out.below b5).mono b5.size, hG5⟩)
    have B5 := Lib.hid (B4.out.trans (b5.mono B4.out.size))
    have HT := Lib.hid (fun θ => thr_same HO.out θ)
    clear hG5 b5
    go_wp2_with fail
    refine (gunder_any w5.heap.size g1 30 E θ w5 HA5.out.1 (Nat.le_refl _)).mono ?_
    rintro e w6 ⟨u1, rfl, hU6, b6⟩
    have HU6 := Lib.hid hU6
    have HA6 := Lib.hid (HA5.out.below b6)
    have B6 := Lib.hid (B5.out.trans (b6.mono B5.out.size))
    clear hU6 b6
    go_wp2_with fail
    refine (glabels_any w6.heap.size u1 30 (undE E θ) w6 HU6.out (Nat.le_refl _)).mono ?_
    rintro e w7 ⟨l1, rfl, hR7, _, b7⟩
    have HR7 := Lib.hid hR7
    have HA7 := Lib.hid (HA6.out.below b7)
    have B7 := Lib.hid (B6.out.trans (b7.mono B6.out.size))
    clear hR7 b7
    go_wp2_with fail
    refine (gunder_any w7.heap.size g2 30 (someE E (frs E o)) θ w7 HA7.out.2 (Nat.le_refl _)).mono ?_
    rintro e w8 ⟨u2, rfl, hU8, b8⟩
    have HU8 := Lib.hid hU8
    have HR8 := Lib.hid (HR7.out.below b8 HR7.out.lt)
    have HA8 := Lib.hid (HA7.out.below b8)
    have B8 := Lib.hid (B7.out.trans (b8.mono B7.out.size))
    clear hU8 b8
    go_wp2_with fail
    refine (glabels_any w8.heap.size u2 30 (undE (someE E (frs E o)) θ) w8 HU8.out (Nat.le_refl _)).mono ?_
    rintro e w9 ⟨l2, rfl, hR9, _, b9⟩
    rw [HT.out θ] at hR9
    have HR9 := Lib.hid hR9
    have HR19 := Lib.hid (HR8.out.below b9 HR8.out.lt)
    have HA9 := Lib.hid (HA8.out.below b9)
    have B9 := Lib.hid (B8.out.trans (b9.mono B8.out.size))
    have HN := Lib.hid (numbers_n w9.heap.size 30 30 (some ⟨l1, 0, none⟩) (some ⟨l2, 0, none⟩) 30 30 _ _ _ _ w9 (by rw [intsN_len]; simp) (by rw [intsN_len]; simp) (natC_rd HR19.out) (natC_rd HR9.out) (by omega))
    rw [decide_eq_true rfl] at HN
    clear hR9 b9
    go_wp2_with fail
    refine HN.out.mono ?_
    clear HN
    rintro e wx ⟨rfl, qx, rfl⟩
    have HAx := Lib.hid (HA9.out.below (below_drewN (Below.refl _ _) qx))
    have Bx := Lib.hid (below_drewN B9.out qx)
    go_wp2_with fail
    generalize w9.drewN qx = wz at *
    go_loopw [12] (fun iv wr => ∃ q : Nat, q ≤ 11 ∧ iv = .int .i64 ((q : Int) - 5) ∧ Hid (Agree wr g1 g2 E (someE E (frs E o))) ∧ Hid (Below w.heap.size w wr)) (fun iv _ => (6 - intOf iv).toNat)
    case atStart => exact ⟨0, by omega, rfl, HAx, Bx⟩
    case round =>
      clear HAx Bx
      obtain ⟨q, hq, rfl, HA, HB⟩ := hrel
      obtain ⟨θ', hθ⟩ : ∃ z, (q : Int) - 5 = z := ⟨_, rfl⟩
      rw [hθ]
      by_cases hlt : θ' ≤ 5
      · have k1 : decide (θ' ≤ 5) = true := decide_eq_true hlt
        have hθ2 : -5 ≤ θ' := by omega
        have HTh := Lib.hid hθ
        clear hθ
        go_wp2_with fail
        refine (gunder_any wr.heap.size g1 30 E θ' wr HA.out.1 (Nat.le_refl _)).mono ?_
        rintro e v6 ⟨u1, rfl, hU6, b6⟩
        have HU6 := Lib.hid hU6
        have HA6 := Lib.hid (HA.out.below b6)
        have B6 := Lib.hid (HB.out.trans (b6.mono HB.out.size))
        clear hU6 b6
        go_wp2_with fail
        refine (glabels_any v6.heap.size u1 30 (undE E θ') v6 HU6.out (Nat.le_refl _)).mono ?_
        rintro e v7 ⟨l1, rfl, hR7, _, b7⟩
        have HR7 := Lib.hid hR7
        have HA7 := Lib.hid (HA6.out.below b7)
        have B7 := Lib.hid (B6.out.trans (b7.mono B6.out.size))
        clear hR7 b7
        go_wp2_with fail
        refine (gunder_any v7.heap.size g2 30 (someE E (frs E o)) θ' v7 HA7.out.2 (Nat.le_refl _)).mono ?_
        rintro e v8 ⟨u2, rfl, hU8, b8⟩
        have HU8 := Lib.hid hU8
        have HR8 := Lib.hid (HR7.out.below b8 HR7.out.lt)
        have HA8 := Lib.hid (HA7.out.below b8)
        have B8 := Lib.hid (B7.out.trans (b8.mono B7.out.size))
        clear hU8 b8
        go_wp2_with fail
        refine (glabels_any v8.heap.size u2 30 (undE (someE E (frs E o)) θ') v8 HU8.out (Nat.le_refl _)).mono ?_
        rintro e v9 ⟨l2, rfl, hR9, _, b9⟩
        rw [HT.out θ'] at hR9
        have HR9 := Lib.hid hR9
        have HR19 := Lib.hid (HR8.out.below b9 HR8.out.lt)
        have HA9 := Lib.hid (HA8.out.below b9)
        have B9 := Lib.hid (B8.out.trans (b9.mono B8.out.size))
        have HN := Lib.hid (numbers_n v9.heap.size 30 30 (some ⟨l1, 0, none⟩) (some ⟨l2, 0, none⟩) 30 30 _ _ _ _ v9 (by rw [intsN_len]; simp) (by rw [intsN_len]; simp) (natC_rd HR19.out) (natC_rd HR9.out) (by omega))
        rw [decide_eq_true rfl] at HN
        clear hR9 b9
        go_wp2_with fail
        refine HN.out.mono ?_
        clear HN
        rintro e vx ⟨rfl, qx, rfl⟩
        have HAx := Lib.hid (HA9.out.below (below_drewN (Below.refl _ _) qx))
        have Bx := Lib.hid (below_drewN B9.out qx)
        go_wp2_with fail
        go_roundw
        case rel => exact ⟨q + 1, by have := HTh.out; omega, by congr 1; have := HTh.out; omega, HAx, Bx⟩
        case measure => have := HTh.out; simp only [intOf]; omega
      · have k1 : decide (θ' ≤ 5) = false := decide_eq_false hlt
        clear hθ hlt
        go_wp2_with fail
        refine (works_any _).mono ?_
        rintro e v7 ⟨rfl, b7⟩
        have B7 := Lib.hid (HB.out.trans (b7.mono HB.out.size))
        clear b7
        go_wp2_with fail
        go_ret
        exact ⟨rfl, B7.out⟩
end Go.Proofs.Ytbmcflmflmlmaaa
