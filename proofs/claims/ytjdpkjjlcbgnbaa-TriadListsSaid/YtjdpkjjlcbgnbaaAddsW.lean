/- The walk of the law TriadAdds. No conditions. -/
import Derived.Test.YtjdpkjjlcbgnbaaAddsL
namespace Go.Proofs.Ytjdpkjjlcbgnbaa
open Go.RowKit Go.Shelf

/-- whether one of the first edges joins the two -/
def nearTo (E : List Ed) (u v : Int) (j : Nat) : Bool := nearB (E.take j) u v
theorem nearTo_end (E : List Ed) (u v : Int) : nearTo E u v E.length = nearB E u v := by rw [nearTo, List.take_length]
theorem nearTo_succ {E : List Ed} {j : Nat} (u v : Int) (hj : j < E.length) : nearTo E u v (j + 1) = (nearTo E u v j || decide ((eAt E j).u = u ∧ (eAt E j).v = v ∨ (eAt E j).u = v ∧ (eAt E j).v = u)) := by
  rw [nearTo, List.take_succ_eq_append_getElem hj, nearB, List.any_append, eAt_eq hj]
  simp [nearTo, nearB]
theorem nearTo_yes {E : List Ed} {j : Nat} {u v : Int} (hj : j < E.length) (h : nearTo E u v j = true ∨ ((eAt E j).u = u ∧ (eAt E j).v = v ∨ (eAt E j).u = v ∧ (eAt E j).v = u)) : nearTo E u v (j + 1) = true := by
  rw [nearTo_succ u v hj]
  rcases h with h | h
  · rw [h, Bool.true_or]
  · rw [decide_eq_true h, Bool.or_true]
theorem nearTo_no {E : List Ed} {j : Nat} {u v : Int} (hj : j < E.length) (h : nearTo E u v j = false) (h2 : ¬ ((eAt E j).u = u ∧ (eAt E j).v = v ∨ (eAt E j).u = v ∧ (eAt E j).v = u)) : nearTo E u v (j + 1) = false := by
  rw [nearTo_succ u v hj, h, decide_eq_false h2]; rfl

theorem more_new {E : List Ed} {base g cp : Nat} {w3 : World} (x y : Nat) (h : w3.ownsRow base 45 3 (.slice (some ⟨g, 0, none⟩) (E.length + 1 : Nat) cp) (E.length + 1) (flat (edC E) E.length 3 ++ #[Value.int .i64 x, .int .i64 y, .int .i64 0].toList)) (n : Int) (hl : E.length + 1 ≤ 9223372036854775807) :
    Hid (Calls Try.prog 23 #[.int .i64 n, .slice (some ⟨g, 0, none⟩) (E.length + 1 : Nat) cp] w3 (GNew n (moreE E x y) w3)) := by
  have h2 : OwnE base _ (moreE E x y) w3 := OwnE.snoc (x := ⟨x, y, 0⟩) h
  obtain ⟨a2, cap2, A2, hv, hR⟩ := Rd.own etE h2
  have hlen : (moreE E x y).length = E.length + 1 := by simp [moreE]
  have h3 := gnew_any w3.heap.size a2 cap2 A2 n (moreE E x y) w3 (by rw [← hv]; exact hR) (Nat.le_refl _) (by omega)
  rw [← hv] at h3
  exact Lib.hid h3

set_option maxRecDepth 100000 in
set_option maxHeartbeats 4000000 in
theorem adds_walk (n : Int) (a : Option Addr) (cap : Nat) (E : List Ed) (A : Nat → Addr) (u v : Int) (w : World) (hS : ES w w.heap.size (.slice a E.length cap) E A) (hl : E.length ≤ 9223372036854775807) :
    Calls Try.prog 7 #[.int .i64 n, .slice a E.length cap, .int .i64 u, .int .i64 v] w fun e w' => e = .returned (.bool true) ∧ Below w.heap.size w w' := by
  have HS := Lib.hid hS
  go_enter Try.func7, Try.ntmps7
  go_wp2_with fail
  refine (gnew_any w.heap.size a cap A n E w hS (Nat.le_refl _) hl).mono ?_
  clear hS
  rintro e w1 ⟨hb1, h1⟩
  rcases h1 with ⟨he, rfl⟩ | ⟨b, k, rfl, G, rfl, hG⟩
  · go_wp2_with fail
    refine (works_any w1).mono ?_
    rintro e w2 ⟨rfl, hb2⟩
    go_wp2_with fail
    go_ret
    exact ⟨rfl, stepB hb1 hb2⟩
  have hs1 := hb1.size
  have hV : GV w1 w1.heap.size (.pointer (some ⟨b, 0, none⟩)) (some (k, E)) := ⟨b, rfl, hG⟩
  have hV := Lib.hid hV
  have HS1 := Lib.hid ((HS.out.below hb1).mono hs1)
  clear hG HS
  by_cases hsm : (k : Int) ≤ 40 ∧ E.length ≤ 150
  · have hx := decide_eq_true hsm
    have hk : k ≤ 40 := by omega
    have hl150 : E.length ≤ 150 := by omega
    clear hsm
    by_cases hbad : u < 0 ∨ k ≤ u ∨ v < 0 ∨ k ≤ v ∨ u = v
    · have fin : ∀ w3 : World, Below w1.heap.size w1 w3 → Calls Try.prog 13 #[] w3 fun e w' => e = .returned (.bool true) ∧ Below w.heap.size w w' := fun w3 hb => (works_any w3).mono fun e w' ⟨h1, h2⟩ => ⟨h1, stepB (stepB hb1 hb) h2⟩
      have fin := Lib.hid fin
      by_cases c1 : u < 0
      · go_wp2_with fail
        refine (small_is hx hl).mono ?_
        rintro e w1' ⟨rfl, rfl⟩
        clear hx hl
        go_wp2_with fail
        refine (fin.out _ (Below.refl _ _)).mono ?_
        rintro e w2 ⟨rfl, hb2⟩
        go_wp2_with fail
        go_ret
        exact ⟨rfl, hb2⟩
      · by_cases c2 : k ≤ u
        · go_wp2_with fail
          refine (small_is hx hl).mono ?_
          rintro e w1' ⟨rfl, rfl⟩
          clear hx hl
          go_wp2_with fail
          refine (fin.out _ (Below.refl _ _)).mono ?_
          rintro e w2 ⟨rfl, hb2⟩
          go_wp2_with fail
          go_ret
          exact ⟨rfl, hb2⟩
        · by_cases c3 : v < 0
          · go_wp2_with fail
            refine (small_is hx hl).mono ?_
            rintro e w1' ⟨rfl, rfl⟩
            clear hx hl
            go_wp2_with fail
            refine (fin.out _ (Below.refl _ _)).mono ?_
            rintro e w2 ⟨rfl, hb2⟩
            go_wp2_with fail
            go_ret
            exact ⟨rfl, hb2⟩
          · by_cases c4 : k ≤ v
            · go_wp2_with fail
              refine (small_is hx hl).mono ?_
              rintro e w1' ⟨rfl, rfl⟩
              clear hx hl
              go_wp2_with fail
              refine (fin.out _ (Below.refl _ _)).mono ?_
              rintro e w2 ⟨rfl, hb2⟩
              go_wp2_with fail
              go_ret
              exact ⟨rfl, hb2⟩
            · obtain rfl : u = v := by omega
              go_wp2_with fail
              refine (small_is hx hl).mono ?_
              rintro e w1' ⟨rfl, rfl⟩
              clear hx hl
              go_wp2_with fail
              refine (fin.out _ (Below.refl _ _)).mono ?_
              rintro e w2 ⟨rfl, hb2⟩
              go_wp2_with fail
              go_ret
              exact ⟨rfl, hb2⟩
    · obtain ⟨x, rfl⟩ : ∃ x : Nat, u = x := ⟨u.toNat, by omega⟩
      obtain ⟨y, rfl⟩ : ∃ y : Nat, v = y := ⟨v.toNat, by omega⟩
      have hxk : x < k := by omega
      have hyk : y < k := by omega
      have hne : x ≠ y := by omega
      have hxy : ((x : Int) == (y : Int)) = false := by simp; omega
      clear hbad
      go_wp2_with fail
      refine (small_is hx hl).mono ?_
      rintro e w1' ⟨rfl, rfl⟩
      clear hx
      go_wp2_with fail
      go_loopw [11, 12] (fun t i wr => ∃ j : Nat, j ≤ E.length ∧ i = .int .i64 j ∧ t = .bool (nearTo E x y j) ∧ wr = w1') (fun _ i _ => E.length - (intOf i).toNat)
      case atStart => exact ⟨0, Nat.zero_le _, rfl, rfl, rfl⟩
      case round =>
        obtain ⟨j, hj, rfl, rfl, rfl⟩ := hrel
        by_cases hlt : j < E.length
        · have h1 := HS1.out
          have hix := h1.ix j hlt
          have eu := ES.u h1 hlt
          have ev := ES.v h1 hlt
          have hji : (j : Int) < E.length := by omega
          clear h1
          cases hN : nearTo E x y j with
          | true =>
            have HN := Lib.hid (nearTo_yes hlt (.inl hN))
            clear hN
            go_wp2_with fail
            go_roundw
            case rel => exact ⟨j + 1, by omega, by go_num, by rw [HN.out], by first | rfl | trivial⟩
            case measure => simp only [intOf]; omega
          | false =>
            by_cases c1 : (eAt E j).u = x
            · have d1 : ((eAt E j).u == (x : Int)) = true := by simp [c1]
              have d3 : ((eAt E j).u == (y : Int)) = false := by rw [c1]; exact hxy
              by_cases c2 : (eAt E j).v = y
              · have HN := Lib.hid (nearTo_yes (u := x) (v := y) hlt (.inr (.inl ⟨c1, c2⟩)))
                have d2 : ((eAt E j).v == (y : Int)) = true := by simp [c2]
                clear hN c1 c2
                go_wp2_with fail
                go_roundw
                case rel => exact ⟨j + 1, by omega, by go_num, by rw [HN.out], by first | rfl | trivial⟩
                case measure => simp only [intOf]; omega
              · have HN := Lib.hid (nearTo_no hlt hN (by omega))
                have d2 : ((eAt E j).v == (y : Int)) = false := by simp [c2]
                clear hN c1 c2
                go_wp2_with fail
                go_roundw
                case rel => exact ⟨j + 1, by omega, by go_num, by rw [HN.out], by first | rfl | trivial⟩
                case measure => simp only [intOf]; omega
            · have d1 : ((eAt E j).u == (x : Int)) = false := by simp [c1]
              by_cases c2 : (eAt E j).u = y
              · have d3 : ((eAt E j).u == (y : Int)) = true := by simp [c2]
                by_cases c3 : (eAt E j).v = x
                · have HN := Lib.hid (nearTo_yes (u := x) (v := y) hlt (.inr (.inr ⟨c2, c3⟩)))
                  have d2 : ((eAt E j).v == (x : Int)) = true := by simp [c3]
                  clear hN c1 c2 c3
                  go_wp2_with fail
                  go_roundw
                  case rel => exact ⟨j + 1, by omega, by go_num, by rw [HN.out], by first | rfl | trivial⟩
                  case measure => simp only [intOf]; omega
                · have HN := Lib.hid (nearTo_no hlt hN (by omega))
                  have d2 : ((eAt E j).v == (x : Int)) = false := by simp [c3]
                  clear hN c1 c2 c3
                  go_wp2_with fail
                  go_roundw
                  case rel => exact ⟨j + 1, by omega, by go_num, by rw [HN.out], by first | rfl | trivial⟩
                  case measure => simp only [intOf]; omega
              · have d3 : ((eAt E j).u == (y : Int)) = false := by simp [c2]
                have HN := Lib.hid (nearTo_no hlt hN (by omega))
                clear hN c1 c2
                go_wp2_with fail
                go_roundw
                case rel => exact ⟨j + 1, by omega, by go_num, by rw [HN.out], by first | rfl | trivial⟩
                case measure => simp only [intOf]; omega
        · obtain rfl : j = E.length := by omega
          rw [nearTo_end]
          obtain ⟨c, hc⟩ : ∃ c, (inter (nbr (some (k, E)) x) (nbr (some (k, E)) y)).length = c := ⟨_, rfl⟩
          have hck : c ≤ 40 := by
            have h1 := inter_len (nbr (some (k, E)) x) (nbr (some (k, E)) y)
            have h2 := nbr_len (some (k, E)) x
            have h3 : gN (some (k, E)) = k := rfl
            omega
          obtain ⟨z, hz⟩ : ∃ z, (tri (some (k, E))).length = z := ⟨_, rfl⟩
          have hzb : z ≤ 68719476736 := by rw [← hz]; exact tri_len (show GoG (some (k, E)) from G)
          have C1 := Lib.hid hc
          have C3 := Lib.hid hz
          cases hN : nearB E x y with
          | true =>
            have C2 := Lib.hid (show (tri (some (k, moreE E x y))).length = z by rw [same_tri (o := some (k, E)) (o' := some (k, moreE E x y)) rfl (same_nbr (near_same hN)), hz])
            clear hc hz hN
            go_wp2_with (at_builtin; first | (refine copiedAny etE rfl _ _ rfl HS1.out (Nat.le_refl _) (fun i _ j _ => edC_one E i j) _ rfl (by simp) rfl (by omega) (by omega) ?_; intro g cp w2 hg2 R2 D2) | (refine push etE rfl _ _ rfl wr.heap.size _ _ _ R2 rfl #[.int .i64 x, .int .i64 y, .int .i64 0] _ rfl rfl rfl (by simp [Value.oneCell']) (by omega) (by omega) D2.size ?_; intro g' cp' w3 hown3 hg3 hv3))
            have bel3 : Below wr.heap.size wr w3 := D2.grown hg3 D2.size (fun j e => (R2.lt j e).1)
            have hs3 := bel3.size
            have HC := more_new x y hown3 k (by omega)
            have HG := Lib.hid (gErr_ok (more_ok G hl150 hxk hyk hne))
            clear R2 D2 hg2 hown3 hg3 hv3
            go_wp2_with fail
            refine HC.out.mono ?_
            rintro e w4 ⟨hb4, h4⟩
            rcases h4 with ⟨h4, _⟩ | ⟨b2, k2, hk2, _, rfl, hG2⟩
            · exact absurd HG.out h4
            obtain rfl : k = k2 := by omega
            have hV2 : GV w4 w4.heap.size (.pointer (some ⟨b2, 0, none⟩)) (some (k, moreE E x y)) := ⟨b2, rfl, hG2⟩
            have bel4 := stepB bel3 hb4
            have hs4 := bel4.size
            have HV1 := Lib.hid ((hV.out.below bel4).mono hs4)
            have HV2 := Lib.hid hV2
            clear HC HG hG2 hV2 hk2 hb4 bel3 hs3
            go_wp2_with fail
            refine (common_any w4.heap.size (some ⟨b, 0, none⟩) (some (k, E)) x y w4 HV1.out (Nat.le_refl _)).mono ?_
            rintro e w5 h5
            obtain ⟨a5, cap5, rfl, -, hb5⟩ := h5.rt
            rw [C1.out]
            have hs5 := hb5.size
            clear h5
            go_wp2_with fail
            refine (count_any w4.heap.size (some ⟨b2, 0, none⟩) (some (k, moreE E x y)) w5 (HV2.out.below hb5) hs5).mono ?_
            rintro e w6 ⟨rfl, hb6⟩
            have bel6 := stepB hb5 hb6
            have hs6 := bel6.size
            rw [C2.out]
            clear hb5 hb6
            go_wp2_with fail
            refine (count_any w4.heap.size (some ⟨b, 0, none⟩) (some (k, E)) w6 (HV1.out.below bel6) hs6).mono ?_
            rintro e w7 ⟨rfl, hb7⟩
            have bel7 := stepB bel6 hb7
            have hs7 := bel7.size
            rw [C3.out]
            clear bel6 hb7
            go_wp2_with fail
            refine (works_any w7).mono ?_
            rintro e w8 ⟨rfl, hb8⟩
            go_wp2_with fail
            go_ret
            exact ⟨rfl, stepB hb1 (bel4.trans ((stepB bel7 hb8).mono hs4))⟩
          | false =>
            have C2 := Lib.hid (show (tri (some (k, moreE E x y))).length = z + c by rw [tri_more G hl150 hxk hyk hne hN, hz, hc])
            clear hc hz hN
            go_wp2_with (at_builtin; first | (refine copiedAny etE rfl _ _ rfl HS1.out (Nat.le_refl _) (fun i _ j _ => edC_one E i j) _ rfl (by simp) rfl (by omega) (by omega) ?_; intro g cp w2 hg2 R2 D2) | (refine push etE rfl _ _ rfl wr.heap.size _ _ _ R2 rfl #[.int .i64 x, .int .i64 y, .int .i64 0] _ rfl rfl rfl (by simp [Value.oneCell']) (by omega) (by omega) D2.size ?_; intro g' cp' w3 hown3 hg3 hv3))
            have bel3 : Below wr.heap.size wr w3 := D2.grown hg3 D2.size (fun j e => (R2.lt j e).1)
            have hs3 := bel3.size
            have HC := more_new x y hown3 k (by omega)
            have HG := Lib.hid (gErr_ok (more_ok G hl150 hxk hyk hne))
            clear R2 D2 hg2 hown3 hg3 hv3
            go_wp2_with fail
            refine HC.out.mono ?_
            rintro e w4 ⟨hb4, h4⟩
            rcases h4 with ⟨h4, _⟩ | ⟨b2, k2, hk2, _, rfl, hG2⟩
            · exact absurd HG.out h4
            obtain rfl : k = k2 := by omega
            have hV2 : GV w4 w4.heap.size (.pointer (some ⟨b2, 0, none⟩)) (some (k, moreE E x y)) := ⟨b2, rfl, hG2⟩
            have bel4 := stepB bel3 hb4
            have hs4 := bel4.size
            have HV1 := Lib.hid ((hV.out.below bel4).mono hs4)
            have HV2 := Lib.hid hV2
            clear HC HG hG2 hV2 hk2 hb4 bel3 hs3
            go_wp2_with fail
            refine (common_any w4.heap.size (some ⟨b, 0, none⟩) (some (k, E)) x y w4 HV1.out (Nat.le_refl _)).mono ?_
            rintro e w5 h5
            obtain ⟨a5, cap5, rfl, -, hb5⟩ := h5.rt
            rw [C1.out]
            have hs5 := hb5.size
            clear h5
            go_wp2_with fail
            refine (count_any w4.heap.size (some ⟨b2, 0, none⟩) (some (k, moreE E x y)) w5 (HV2.out.below hb5) hs5).mono ?_
            rintro e w6 ⟨rfl, hb6⟩
            have bel6 := stepB hb5 hb6
            have hs6 := bel6.size
            rw [C2.out]
            clear hb5 hb6
            go_wp2_with fail
            refine (count_any w4.heap.size (some ⟨b, 0, none⟩) (some (k, E)) w6 (HV1.out.below bel6) hs6).mono ?_
            rintro e w7 ⟨rfl, hb7⟩
            have bel7 := stepB bel6 hb7
            have hs7 := bel7.size
            rw [C3.out]
            clear bel6 hb7
            go_wp2_with fail
            refine (works_any w7).mono ?_
            rintro e w8 ⟨rfl, hb8⟩
            go_wp2_with fail
            go_ret
            exact ⟨rfl, stepB hb1 (bel4.trans ((stepB bel7 hb8).mono hs4))⟩
  · have hx := decide_eq_false hsm
    clear hsm
    go_wp2_with fail
    refine (small_is hx hl).mono ?_
    rintro e w1' ⟨rfl, rfl⟩
    go_wp2_with fail
    refine (works_any w1').mono ?_
    rintro e w2 ⟨rfl, hb2⟩
    go_wp2_with fail
    go_ret
    exact ⟨rfl, hb1.trans (hb2.mono hs1)⟩
end Go.Proofs.Ytjdpkjjlcbgnbaa
