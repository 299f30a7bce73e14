/- The document's Forest and Swap. Conditions: none. -/
import Derived.Test.YtbmcflmflmlmaaaRfg
import Derived.Test.YtbmcflmflmlmaaaRGrow
import Derived.Test.YtbmcflmflmlmaaaOwE
import Derived.Test.YtbmcflmflmlmaaaFor
import Derived.Test.YtbmcflmflmlmaaaSwD
namespace Go.Proofs.Ytbmcflmflmlmaaa
open Go.RowKit

set_option maxRecDepth 100000 in
set_option maxHeartbeats 1000000 in
theorem rforest_any (B : Nat) (a : Option Addr) (cap : Nat) (A : Nat → Addr) (n : Int) (E : List Ed) (w : World) (hS : ES w B (.slice a E.length cap) E A) (hB : B ≤ w.heap.size) (hm : E.length ≤ 9223372036854775807) :
    Calls Try.prog 19 #[.int .i64 n, .slice a E.length cap] w (ForRes n E w) := by
  have HF := Lib.hid (rnew_any B a cap A n E w hS hB hm)
  have HS := Lib.hid hS
  clear hS
  go_enter Try.func19, Try.ntmps19
  go_wp2_with fail
  refine HF.out.mono ?_
  clear HF
  rintro e w1 ⟨v, rfl, _, hb1⟩
  obtain ⟨ee, hee⟩ : ∃ ee, gErr n E = ee := ⟨_, rfl⟩
  have HE := Lib.hid hee
  rw [hee]
  clear hee
  by_cases hz0 : ee = 0
  · have hz : (ee != 0) = false := by simp [hz0]
    obtain ⟨k, rfl, G⟩ := gErr_zero (HE.out.trans hz0)
    have HG := Lib.hid G
    have hkn := G.n_le
    have hml := G.m_le
    have HZ := Lib.hid hz0
    have HGr := Lib.hid (rgrown_any w1.heap.size a cap k A E w1 ((HS.out.below (hb1.mono hB)).mono (Nat.le_trans hB hb1.size)) (Nat.le_refl _) (by omega) (by omega) (fun i hi => by have := G.ends i hi; omega))
    clear G hz0
    go_wp2_with fail
    refine HGr.out.mono ?_
    clear HGr
    rintro e w2 ⟨fv, o, rfl, ho, hfv, hb2⟩
    have HO := Lib.hid ho; have HFv := Lib.hid hfv; have HB := Lib.hid (hb1.trans (hb2.mono hb1.size)); have hs1 := hb1.size
    clear ho hfv hb2
    go_wp2_with fail
    go_ret2
    exact ⟨HB.out, .inr ⟨gErr_ok HG.out, o, fv, HO.out, rfl, HFv.out.lower hs1⟩⟩
  · have hz : (ee != 0) = true := by simpa using hz0
    have HZ := Lib.hid hz0
    clear hz0
    go_wp2_with fail
    go_ret2
    exact ⟨hb1, .inl ⟨by rw [HE.out]; exact HZ.out, by rw [HE.out]; rfl⟩⟩
/-- what the document's Swap answers -/
def RSwapRes (n : Int) (E : List Ed) (u v W : Int) (w : World) (e : Ending) (w' : World) : Prop :=
  Below w.heap.size w w' ∧ ((gErr n E ≠ 0 ∧ e = .returned (.tuple #[.int .i64 0, .int .i64 (gErr n E)])) ∨
    (gErr n E = 0 ∧ ((¬ (0 ≤ u ∧ u < n ∧ 0 ≤ v ∧ v < n) ∧ e = .returned (.tuple #[.int .i64 0, .int .i64 3])) ∨
      ((0 ≤ u ∧ u < n ∧ 0 ≤ v ∧ v < n) ∧ ((u = v ∧ e = .returned (.tuple #[.int .i64 0, .int .i64 9])) ∨
        (u ≠ v ∧ ∃ o o', OrdOf E o ∧ OrdOf (E ++ [⟨u, v, W⟩]) o' ∧ e = .returned (.tuple #[.int .i64 (swapD E ⟨u, v, W⟩ o o'), .int .i64 0])))))))
theorem swapD_hit {E : List Ed} {e : Ed} {o o' : List Nat} {i x : Nat} (hi : i < (frs E o).length) (hx : (frs E o).getD i 0 = x) (hb : ∀ y, y ∈ (frs E o).take i → y ∈ frs (E ++ [e]) o') (hn : x ∉ frs (E ++ [e]) o') : swapD E e o o' = (x : Nat) := by
  have h1 : (frs E o).find? (fun i => decide (i ∉ frs (E ++ [e]) o')) = some x := by
    rw [List.find?_eq_some_iff_append]
    refine ⟨by simpa using hn, (frs E o).take i, (frs E o).drop (i + 1), ?_, fun y hy => by simpa using hb y hy⟩
    have h2 : (frs E o)[i] = x := by rw [← hx]; simp [List.getD, hi]
    rw [← h2, ← List.drop_eq_getElem_cons hi, List.take_append_drop]
  unfold swapD; rw [h1]
theorem swapD_none {E : List Ed} {e : Ed} {o o' : List Nat} (hb : ∀ y, y ∈ frs E o → y ∈ frs (E ++ [e]) o') : swapD E e o o' = -1 := by
  have h1 : (frs E o).find? (fun i => decide (i ∉ frs (E ++ [e]) o')) = none := by
    rw [List.find?_eq_none]; intro x hx; simpa using hb x hx
  unfold swapD; rw [h1]
set_option maxRecDepth 100000 in
set_option maxHeartbeats 4000000 in
theorem rswap_any (B : Nat) (a : Option Addr) (cap : Nat) (A : Nat → Addr) (n : Int) (E : List Ed) (u v W : Int) (w : World) (hS : ES w B (.slice a E.length cap) E A) (hB : B ≤ w.heap.size) (hm : E.length ≤ 9223372036854775807) :
    Calls Try.prog 23 #[.int .i64 n, .slice a E.length cap, .agg #[.int .i64 u, .int .i64 v, .int .i64 W]] w (RSwapRes n E u v W w) := by
  have hb0 : Below w.heap.size w (w.alloc (.cells #[.int .i64 u, .int .i64 v, .int .i64 W] 36)) := (Below.refl _ w).alloc (Nat.le_refl _) _
  have hr0 : Row (w.alloc (.cells #[.int .i64 u, .int .i64 v, .int .i64 W] 36)) w.heap.size 3 (fun i => (#[Value.int .i64 u, .int .i64 v, .int .i64 W] : Array Value).getD i undef) := by
    have := Row.lit (n := 3) (f := fun i => (#[Value.int .i64 u, .int .i64 v, .int .i64 W] : Array Value).getD i undef) w #[.int .i64 u, .int .i64 v, .int .i64 W] 36 (by simp) (fun i hi => by
      rw [Array.getD_eq_getD_getElem?, Array.getElem?_eq_getElem (by simpa using hi)]; rfl)
    exact this
  have hs0 : (w.alloc (.cells #[.int .i64 u, .int .i64 v, .int .i64 W] 36)).heap.size = w.heap.size + 1 := by simp
  have HS := Lib.hid hS
  clear hS
  go_enter Try.func23, Try.ntmps23
  go_wp2_with fail
  generalize w.alloc (.cells #[.int .i64 u, .int .i64 v, .int .i64 W] 36) = wa at *
  have HF := Lib.hid (rforest_any B a cap A n E wa (HS.out.below (hb0.mono hB)) (by omega) hm)
  refine HF.out.mono ?_
  clear HF
  rintro e w1 ⟨hb1, ⟨h0, rfl⟩ | ⟨h0, o, fv, ho, rfl, hfv⟩⟩
  · obtain ⟨ee, hee⟩ : ∃ ee, gErr n E = ee := ⟨_, rfl⟩
    have H0 := Lib.hid h0; have HE := Lib.hid hee
    rw [hee] at h0 ⊢
    have hz : (ee != 0) = true := by simpa using h0
    clear h0 hee hr0
    go_wp2_with fail
    go_ret2
    exact ⟨hb0.trans (hb1.mono (by omega)), .inl ⟨H0.out, by rw [HE.out]; rfl⟩⟩
  · obtain ⟨fa, fc, FA, rfl, hF⟩ := ownI_rd hfv
    have bel1 := hb0.trans (hb1.mono (by omega))
    have hwl : w.heap.size < w1.heap.size := by have := hb1.size; omega
    have hB01 := Nat.le_of_lt hwl
    have hr1 := hr0.below hb1 (by omega)
    have c0 : w1.cell? ⟨w.heap.size, 0, none⟩ = some (.int .i64 u) := hr1.cell (i := 0) (by omega)
    have c1 : w1.cell? ⟨w.heap.size, 1, none⟩ = some (.int .i64 v) := hr1.cell (i := 1) (by omega)
    have HO := Lib.hid ho; have H0 := Lib.hid h0; have HFv := Lib.hid hfv; have HFr := Lib.hid hF
    have HR1 := Lib.hid hr1
    clear ho h0 hfv hF hr0 hr1
    by_cases h1 : u < 0
    · have k1 : decide (u < 0) = true := decide_eq_true h1
      have HB := Lib.hid (show ¬ (0 ≤ u ∧ u < n ∧ 0 ≤ v ∧ v < n) by omega)
      clear h1
      go_wp2_with fail
      go_ret2
      exact ⟨bel1, .inr ⟨H0.out, .inl ⟨HB.out, rfl⟩⟩⟩
    · have k1 : decide (u < 0) = false := decide_eq_false h1
      by_cases h2 : u ≥ n
      · have k2 : decide (u ≥ n) = true := decide_eq_true h2
        have HB := Lib.hid (show ¬ (0 ≤ u ∧ u < n ∧ 0 ≤ v ∧ v < n) by omega)
        clear h1 h2
        go_wp2_with fail
        go_ret2
        exact ⟨bel1, .inr ⟨H0.out, .inl ⟨HB.out, rfl⟩⟩⟩
      · have k2 : decide (u ≥ n) = false := decide_eq_false h2
        by_cases h3 : v < 0
        · have k3 : decide (v < 0) = true := decide_eq_true h3
          have HB := Lib.hid (show ¬ (0 ≤ u ∧ u < n ∧ 0 ≤ v ∧ v < n) by omega)
          clear h1 h2 h3
          go_wp2_with fail
          go_ret2
          exact ⟨bel1, .inr ⟨H0.out, .inl ⟨HB.out, rfl⟩⟩⟩
        · have k3 : decide (v < 0) = false := decide_eq_false h3
          by_cases h4 : v ≥ n
          · have k4 : decide (v ≥ n) = true := decide_eq_true h4
            have HB := Lib.hid (show ¬ (0 ≤ u ∧ u < n ∧ 0 ≤ v ∧ v < n) by omega)
            clear h1 h2 h3 h4
            go_wp2_with fail
            go_ret2
            exact ⟨bel1, .inr ⟨H0.out, .inl ⟨HB.out, rfl⟩⟩⟩
          · have k4 : decide (v ≥ n) = false := decide_eq_false h4
            have HB := Lib.hid (show (0 ≤ u ∧ u < n ∧ 0 ≤ v ∧ v < n) by omega)
            clear h1 h2 h3 h4
            by_cases h5 : u = v
            · have k5 : (u == v) = true := by simpa using h5
              have H5 := Lib.hid h5
              clear h5
              go_wp2_with fail
              go_ret2
              exact ⟨bel1, .inr ⟨H0.out, .inr ⟨HB.out, .inl ⟨H5.out, rfl⟩⟩⟩⟩
            · have k5 : (u == v) = false := by simpa using h5
              have H5 := Lib.hid h5
              clear h5
              obtain ⟨k, rfl, G⟩ := gErr_zero H0.out
              have hkn := G.n_le
              have hml := G.m_le
              have c2 : w1.cell? ⟨w.heap.size, 2, none⟩ = some (.int .i64 W) := HR1.out.cell (i := 2) (by omega)
              have HG := Lib.hid G
              have hE1 := (HS.out.below (bel1.mono hB)).mono (show B ≤ w1.heap.size by omega)
              have HE1 := Lib.hid hE1
              clear G hE1
              go_wp2_with (at_builtin; refine copiedNil etE rfl _ _ rfl HE1.out (fun i _ j _ => edC_one E i j) rfl rfl (by omega) (by omega) ?_; intro mv w2 R2 D2; refine Hid.out ?_)
              have HM := Lib.hid (show OwnE w1.heap.size mv E w2 from R2)
              have hs2 := D2.size
              have hR2 := HR1.out.below D2 hwl
              have d0 : w2.cell? ⟨w.heap.size, 0, none⟩ = some (.int .i64 u) := hR2.cell (i := 0) (by omega)
              have d1 : w2.cell? ⟨w.heap.size, 1, none⟩ = some (.int .i64 v) := hR2.cell (i := 1) (by omega)
              have d2 : w2.cell? ⟨w.heap.size, 2, none⟩ = some (.int .i64 W) := hR2.cell (i := 2) (by omega)
              have HF2 := Lib.hid ((HFr.out.below D2).mono hs2)
              have B2 := Lib.hid (bel1.trans (D2.mono hB01))
              have hD2 := D2
              refine Lib.hid ?_
              clear R2 D2 hR2 c0 c1 c2
              go_wp2_with (at_builtin; refine push etE rfl _ _ rfl w1.heap.size _ _ _ HM.out rfl #[.int .i64 u, .int .i64 v, .int .i64 W] _ rfl rfl rfl (by simp [Value.oneCell']) (by omega) (by omega) hs2 ?_; intro g cp w3 hown3 hg3 hv3; refine Hid.out ?_)
              have hb3 : Below w1.heap.size w2 w3 := (Below.refl _ w2).grown hg3 hs2 (fun j e => (HM.out.lt j e).1)
              have hM3 : OwnE w1.heap.size _ (E ++ [⟨u, v, W⟩]) w3 := OwnE.snoc (x := ⟨u, v, W⟩) hown3
              have B3 := Lib.hid (B2.out.trans (hb3.mono hB01))
              have b13 := hD2.trans hb3
              have hlen : (E ++ [(⟨u, v, W⟩ : Ed)]).length = E.length + 1 := by simp
              obtain ⟨ma, mc, MA, e3, hE3⟩ := hM3.rd
              rw [hlen] at e3
              cases e3
              have hGr := rgrown_any w3.heap.size _ _ k MA (E ++ [⟨u, v, W⟩]) w3 hE3 (Nat.le_refl _) (by rw [hlen]; omega) (by omega) (fun i hi => by
                by_cases c : i < E.length
                · rw [eAt_app c]; have := HG.out.ends i c; omega
                · have hi2 : i = E.length := by omega
                  rw [hi2, eAt_last]
                  have := HB.out
                  exact this)
              rw [hlen] at hGr
              have HGr := Lib.hid hGr
              have hs13 := b13.size
              have HFr3 := Lib.hid (HFr.out.below b13)
              clear hM3 hE3 hGr hlen hown3 hg3 hv3 hb3 HF2 hD2 d0 d1 d2
              refine Lib.hid ?_
              go_wp2_with fail
              refine HGr.out.mono ?_
              clear HGr
              rintro e w4 ⟨bv, o', rfl, ho', hbv, hb4⟩
              obtain ⟨ba, bc, BA, rfl, hBr⟩ := ownI_rd hbv
              have HO' := Lib.hid ho'; have HBr := Lib.hid hBr
              have HFr4 := Lib.hid (HFr3.out.below (hb4.mono hs13))
              have B4 := Lib.hid (B3.out.trans (hb4.mono (by omega)))
              have hs4 := hb4.size
              have hgl : (frs (E ++ [(⟨u, v, W⟩ : Ed)]) o').length ≤ 1000000 := by have h1 := frs_len (E ++ [(⟨u, v, W⟩ : Ed)]) o'; rw [ho'.len] at h1; simp at h1; omega
              have hfl : (frs E o).length ≤ 1000000 := by have h1 := frs_len E o; rw [HO.out.len] at h1; omega
              obtain ⟨G, hGe⟩ : ∃ G, frs (E ++ [(⟨u, v, W⟩ : Ed)]) o' = G := ⟨_, rfl⟩
              obtain ⟨F, hFe⟩ : ∃ F, frs E o = F := ⟨_, rfl⟩
              rw [hGe] at HBr hgl ⊢
              rw [hFe] at HFr4 hfl HFr3 HFr HFv ⊢
              have HGe := Lib.hid hGe; have HFe := Lib.hid hFe
              clear ho' hbv hBr hb4 hGe hFe B3 HFr3 HFv
              go_wp2_with fail
              go_loopw [12] (fun i wr => ∃ q : Nat, q ≤ F.length ∧ i = .int .i64 (q : Nat) ∧ Hid (∀ y, y ∈ F.take q → y ∈ G) ∧ Hid (∃ m, wr = w4.drewN m)) (fun i _ => F.length - (intOf i).toNat)
              case atStart => exact ⟨0, Nat.zero_le _, rfl, Lib.hid (fun y hy => by simp at hy), Lib.hid ⟨0, rfl⟩⟩
              case round =>
                obtain ⟨q, hq, rfl, HQ, HW⟩ := hrel
                by_cases hlt : q < F.length
                · obtain ⟨x, hx⟩ : ∃ x, F.getD q 0 = x := ⟨_, rfl⟩
                  have HX := Lib.hid hx
                  clear hx
                  go_wp2_with fail
                  go_loopw [13, 14] (fun f j wr => ∃ p : Nat, p ≤ G.length ∧ j = .int .i64 (p : Nat) ∧ f = .bool (decide (x ∈ G.take p)) ∧ Hid (∃ m, wr = w4.drewN m)) (fun _ j _ => G.length - (intOf j).toNat)
                  case atStart => exact ⟨0, Nat.zero_le _, rfl, by simp, HW⟩
                  case round =>
                    clear HW
                    obtain ⟨p, hp, rfl, rfl, HW⟩ := hrel
                    have bw : Below w1.heap.size w4 wr := by obtain ⟨m, rfl⟩ := HW.out; exact below_drewN (Below.refl _ _) _
                    have bw4 : Below w4.heap.size w4 wr := by obtain ⟨m, rfl⟩ := HW.out; exact below_drewN (Below.refl _ _) _
                    by_cases hlp : p < G.length
                    · obtain ⟨y, hy⟩ : ∃ y, G.getD p 0 = y := ⟨_, rfl⟩
                      have i1 := (HFr4.out.below bw).ix q hlt
                      have c1 := (HFr4.out.below bw).cell q hlt 0 (by omega)
                      have i2 := (HBr.out.below bw4).ix p hlp
                      have c2 := (HBr.out.below bw4).cell p hlp 0 (by omega)
                      rw [add_zero] at c1 c2
                      unfold nums at c1 c2
                      rw [intsN_nth] at c1 c2
                      rw [HX.out] at c1
                      rw [hy] at c2
                      have HY := Lib.hid hy
                      have hqv : (0 : Int) ≤ q ∧ (q : Int) < F.length := by omega
                      have hpv : (0 : Int) ≤ p ∧ (p : Int) < G.length := by omega
                      clear hy bw bw4
                      by_cases hxy : x = y
                      · have k1 : ((x : Int) == (y : Int)) = true := by simp [hxy]
                        have HXY := Lib.hid hxy
                        clear hxy
                        go_wp2_with fail
                        go_quiet (fail)
                        go_wp2_with fail
                        go_roundw
                        case rel =>
                          refine ⟨p + 1, by omega, by go_num, ?_, Lib.hid ?_⟩
                          · rw [take_snocN hlp, HY.out, HXY.out]; simp
                          · obtain ⟨m, rfl⟩ := HW.out; exact ⟨_, World.drewN_drewN _ _ _⟩
                        case measure => simp only [intOf]; omega
                      · have k1 : ((x : Int) == (y : Int)) = false := by simp; omega
                        have HXY := Lib.hid hxy
                        clear hxy
                        go_wp2_with fail
                        go_quiet (fail)
                        go_wp2_with fail
                        go_roundw
                        case rel =>
                          refine ⟨p + 1, by omega, by go_num, ?_, Lib.hid ?_⟩
                          · congr 1
                            rw [take_snocN hlp, HY.out, Bool.eq_iff_iff]; simp [HXY.out]
                          · obtain ⟨m, rfl⟩ := HW.out; exact ⟨_, World.drewN_drewN _ _ _⟩
                        case measure => simp only [intOf]; omega
                    · have hpe : p = G.length := by omega
                      have hpT : G.take p = G := by rw [hpe, List.take_length]
                      rw [hpT]
                      have i1 := (HFr4.out.below bw).ix q hlt
                      have c1 := (HFr4.out.below bw).cell q hlt 0 (by omega)
                      rw [add_zero] at c1
                      unfold nums at c1
                      rw [intsN_nth, HX.out] at c1
                      have hqv : (0 : Int) ≤ q ∧ (q : Int) < F.length := by omega
                      clear hpT hpe bw bw4
                      by_cases hin : x ∈ G
                      · have k1 : decide (x ∈ G) = true := decide_eq_true hin
                        have HIn := Lib.hid hin
                        rw [k1]
                        clear hin k1
                        go_wp2_with fail
                        go_roundw
                        case rel =>
                          refine ⟨q + 1, by omega, by go_num, Lib.hid fun z hz => ?_, HW⟩
                          rw [take_snocN hlt, HX.out] at hz
                          rcases List.mem_append.1 hz with hz | hz
                          · exact HQ.out z hz
                          · simp at hz; rw [hz]; exact HIn.out
                        case measure => simp only [intOf]; omega
                      · have k1 : decide (x ∈ G) = false := decide_eq_false hin
                        have HIn := Lib.hid hin
                        rw [k1]
                        clear hin k1
                        go_wp2_with fail
                        go_ret2
                        have hb : Below w.heap.size w wr := by obtain ⟨m, rfl⟩ := HW.out; exact below_drewN B4.out _
                        refine ⟨hb, .inr ⟨H0.out, .inr ⟨HB.out, .inr ⟨fun e => H5.out e, o, o', HO.out, HO'.out, ?_⟩⟩⟩⟩
                        have hs := swapD_hit (E := E) (e := ⟨u, v, W⟩) (o := o) (o' := o') (i := q) (x := x) (by rw [HFe.out]; exact hlt) (by rw [HFe.out]; exact HX.out) (by rw [HFe.out, HGe.out]; exact HQ.out) (by rw [HGe.out]; exact HIn.out)
                        rw [hs]; rfl
                · have hqe : q = F.length := by omega
                  have HQ2 := Lib.hid (show ∀ y, y ∈ F → y ∈ G from fun y hy => HQ.out y (by rw [hqe, List.take_length]; exact hy))
                  go_wp2_with fail
                  go_ret2
                  have hb : Below w.heap.size w wr := by obtain ⟨m, rfl⟩ := HW.out; exact below_drewN B4.out _
                  refine ⟨hb, .inr ⟨H0.out, .inr ⟨HB.out, .inr ⟨fun e => H5.out e, o, o', HO.out, HO'.out, ?_⟩⟩⟩⟩
                  have hs := swapD_none (E := E) (e := ⟨u, v, W⟩) (o := o) (o' := o') (by rw [HFe.out, HGe.out]; exact HQ2.out)
                  rw [hs]; rfl
end Go.Proofs.Ytbmcflmflmlmaaa
