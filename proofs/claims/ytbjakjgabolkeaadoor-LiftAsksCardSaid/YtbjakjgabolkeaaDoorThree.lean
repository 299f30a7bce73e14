/- The walk of the law LiftThree. Conditions: the bytes are given as cells; the library's table of de Bruijn is as its initialiser lays it. -/
import Derived.Test.YtbjakjgabolkeaaDoorMade3
namespace Go.Proofs.YtbjakjgabolkeaaDoor
open Go.RowKit Go.Shelf

theorem mod_nat (x : Nat) {n : Nat} (h : 0 < n) : ∃ a : Nat, (x : Int) % (n : Int) = a ∧ a < n :=
  ⟨x % n, by omega, Nat.mod_lt _ h⟩
/-- Common's answers, in the two cases -/
theorem co_none {p : List Int} {a b : Nat} (h : com p a b = none) : coV p a b = 0 ∧ coB p a b = false ∧ diV p a b = 0 := by
  have h2 : coB p a b = false := by simp [coB, h]
  exact ⟨by simp [coV, h2], h2, by simp [diV, h2]⟩
theorem co_some {p : List Int} {a b c : Nat} (ha : a < p.length) (hb : b < p.length) (h : com p a b = some c) : coV p a b = c ∧ coB p a b = true ∧ diV p a b = (dp p a : Int) + dp p b - 2 * dp p c := by
  have h2 := co_eq (inB_iff.2 ⟨a, rfl, ha⟩) (inB_iff.2 ⟨b, rfl, hb⟩)
  rw [h] at h2
  have h3 : coB p a b = true := h2.2
  have h4 : coV p a b = c := h2.1
  refine ⟨h4, h3, ?_⟩
  rw [diV, h3, if_pos rfl, h4]; rfl
theorem dp_v {p : List Int} {a : Nat} (ha : a < p.length) : dpV p a = dp p a := by
  have : inB p a = true := inB_iff.2 ⟨a, rfl, ha⟩
  rw [dpV, this]; rfl
/-- the law on three nodes, told by depths -/
theorem three_plain {p : List Int} (F : Tree p) {a b c ab bc ac : Nat} (ha : a < p.length) (hb : b < p.length) (hc : c < p.length) (h1 : com p a b = some ab) (h2 : com p b c = some bc) (h3 : com p a c = some ac) :
    dp p ab + dp p bc ≤ dp p b + dp p ac ∧ (ab = bc ∨ bc = ac ∨ ab = ac) := by
  obtain ⟨x1, x2, x3⟩ := com_some F ha h1
  obtain ⟨y1, y2, y3⟩ := com_some F hb h2
  obtain ⟨z1, z2, z3⟩ := com_some F ha h3
  have d1 := isAnc_dep F hb x2
  have d2 := isAnc_dep F hb y1
  have lab := isAnc_lt F ha x1
  have lbc := isAnc_lt F hb y1
  have lac := isAnc_lt F ha z1
  by_cases hle : dp p ab ≤ dp p bc
  · -- ab is above bc, so above c, so above ac
    have u1 := isAnc_chain F hb x2 y1 hle
    have u2 := isAnc_trans F hc u1 y2
    have u3 := z3 _ x1 u2
    have d3 := isAnc_dep F lac u3
    refine ⟨by omega, ?_⟩
    by_cases hlt : dp p ab = dp p bc
    · left; exact isAnc_eq F hb x2 y1 hlt
    · right; right
      -- ac is above a; were it deeper than ab, it would be above b
      by_cases he : dp p ac = dp p ab
      · exact (isAnc_eq F ha z1 x1 he).symm
      · exfalso
        by_cases h4 : dp p ac ≤ dp p bc
        · have v1 := isAnc_chain F hc z2 y2 h4
          have v2 := isAnc_trans F hb v1 y1
          have v3 := x3 _ z1 v2
          have := isAnc_dep F lab v3
          omega
        · have v1 := isAnc_chain F hc y2 z2 (by omega)
          have v2 := isAnc_trans F ha v1 z1
          have v3 := x3 _ v2 y1
          have := isAnc_dep F lab v3
          omega
  · have u1 := isAnc_chain F hb y1 x2 (by omega)
    have u2 := isAnc_trans F ha u1 x1
    have u3 := z3 _ u2 y2
    have d3 := isAnc_dep F lac u3
    refine ⟨by omega, ?_⟩
    right; left
    by_cases he : dp p bc = dp p ac
    · exact isAnc_eq F hc y2 z2 he
    · exfalso
      by_cases h4 : dp p ac ≤ dp p ab
      · have v1 := isAnc_chain F ha z1 x1 h4
        have v2 := isAnc_trans F hb v1 x2
        have v3 := y3 _ v2 z2
        have := isAnc_dep F lbc v3
        omega
      · have v1 := isAnc_chain F ha x1 z1 (by omega)
        have v2 := isAnc_trans F hc v1 z2
        have v3 := y3 _ x2 v2
        have := isAnc_dep F lbc v3
        omega
theorem dist_zero {p : List Int} (F : Tree p) {a b c : Nat} (ha : a < p.length) (hb : b < p.length) (h : com p a b = some c) :
    dp p c ≤ dp p a ∧ dp p c ≤ dp p b ∧ ((dp p a : Int) + dp p b - 2 * dp p c = 0 ↔ a = b) := by
  obtain ⟨x1, x2, _⟩ := com_some F ha h
  have d1 := isAnc_dep F ha x1
  have d2 := isAnc_dep F hb x2
  refine ⟨d1, d2, fun he => ?_, fun he => ?_⟩
  · have e1 := isAnc_eq F ha x1 (isAnc_self F ha) (by omega)
    have e2 := isAnc_eq F hb x2 (isAnc_self F hb) (by omega)
    omega
  · subst he
    rw [com_self F ha] at h
    cases h; omega


set_option maxRecDepth 100000 in
set_option maxHeartbeats 8000000 in
theorem three_walk (B : Nat) (ao : Option Addr) (cap : Nat) (A : Nat → Addr) (L : List Int) (turned : Bool) (x y z : Nat) (w : World) (hT : DeB w) (hS : Sl 22 .u8 w B (.slice ao L.length cap) L A) (hB : B ≤ w.heap.size) (hc : L.length ≤ cap) (hm : L.length ≤ 9223372036854775807) (hb : ∀ i, i < L.length → 0 ≤ nth L i ∧ nth L i ≤ 255) (hx : x ≤ 65535) (hy : y ≤ 65535) (hz : z ≤ 65535) :
    Calls Tryd.prog 3 #[.slice ao L.length cap, .bool turned, .int .u16 x, .int .u16 y, .int .u16 z] w fun e w' => e = .returned (.bool true) ∧ Below w.heap.size w w' := by
  have hM := made_any B ao cap A L turned w hT hS hB hc hm hb
  clear hS hB hc hb hT
  generalize madeL L turned = p at hM
  go_enter Tryd.func3, Tryd.ntmps3
  go_wp2_with fail
  refine hM.mono ?_
  rintro e w1 ⟨b0, a1, cap1, A1, K, rfl, S, hSp⟩
  clear hM
  by_cases h0 : p.length = 0
  · have h0' : ((p.length : Int) == 0) = true := by rw [h0]; rfl
    clear h0
    go_wp2_with fail
    refine (works_any w1 S.deb).mono ?_
    rintro e w2 ⟨rfl, hb2⟩
    go_wp2_with fail
    go_ret
    exact ⟨rfl, (S.step hb2).bel⟩
  · have h0' : ((p.length : Int) == 0) = false := by rw [beq_eq_false_iff_ne]; omega
    have hn : (1 : Int) ≤ p.length := by omega
    have hsm := S.tab.small
    obtain ⟨a, ha, hal⟩ := mod_nat x (show 0 < p.length by omega)
    obtain ⟨b, hb, hbl⟩ := mod_nat y (show 0 < p.length by omega)
    obtain ⟨c, hc, hcl⟩ := mod_nat z (show 0 < p.length by omega)
    have Ha := Lib.hid ha; have Hb := Lib.hid hb; have Hc := Lib.hid hc
    clear h0 ha hb hc hSp
    have F := S.tab.tree
    have ra := com_root F hal hbl
    have rb := com_root F hbl hcl
    have rc := com_root F hal hcl
    have hsy := com_symm F hal hbl
    have da := dep_lt F hal; have db := dep_lt F hbl; have dc := dep_lt F hcl
    have HF := Lib.hid F
    clear F
    go_wp2_with fail
    go_quiet (fail)
    go_wp2_with fail
    rw [Ha.out, Hb.out, Hc.out]
    have S1 : St w K b0 p (w1.drewN nq) := S.step (below_drewN (Below.refl _ _) nq)
    clear S hx hy hz hn
    cases h1 : com p a b with
    | none =>
      rw [h1] at hsy ra
      cases h2 : com p b c with
      | none =>
        rw [h2] at rb
        cases h3 : com p a c with
        | none =>
          have f1 := co_none h1
          have f2 := co_none h2
          have f3 := co_none h3
          have f4 := co_none hsy.symm
          have G1 := Lib.hid f1
          have G2 := Lib.hid f2
          have G3 := Lib.hid f3
          have G4 := Lib.hid f4
          clear f1 f2 f3 f4 h1 h2 h3 hsy ra rb rc Ha Hb Hc
          refine (S1.common (G1.out.1) (G1.out.2.1)).mono ?_
          rintro e w2 ⟨rfl, S2⟩
          clear S1
          go_wp2_with fail
          refine (S2.common (G2.out.1) (G2.out.2.1)).mono ?_
          rintro e w3 ⟨rfl, S3⟩
          clear S2
          go_wp2_with fail
          refine (S3.common (G3.out.1) (G3.out.2.1)).mono ?_
          rintro e w4 ⟨rfl, S4⟩
          clear S3
          go_wp2_with fail
          refine (S4.dist (G1.out.2.2) (G1.out.2.1)).mono ?_
          rintro e w5 ⟨rfl, S5⟩
          clear S4
          go_wp2_with fail
          refine (S5.dist (G2.out.2.2) (G2.out.2.1)).mono ?_
          rintro e w6 ⟨rfl, S6⟩
          clear S5
          go_wp2_with fail
          refine (S6.dist (G3.out.2.2) (G3.out.2.1)).mono ?_
          rintro e w7 ⟨rfl, S7⟩
          clear S6
          go_wp2_with fail
          refine (S7.dist (G4.out.2.2) (G4.out.2.1)).mono ?_
          rintro e w8 ⟨rfl, S8⟩
          clear S7
          go_wp2_with fail
          refine (works_any _ S8.deb).mono ?_
          rintro e w12 ⟨rfl, hb12⟩
          go_wp2_with fail
          go_ret
          exact ⟨rfl, (S8.step hb12).bel⟩
        | some ac =>
          have f1 := co_none h1
          have f2 := co_none h2
          have f3 := co_some hal hcl h3
          have f4 := co_none hsy.symm
          have G1 := Lib.hid f1
          have G2 := Lib.hid f2
          have G3 := Lib.hid f3
          have G4 := Lib.hid f4
          clear f1 f2 f3 f4 h1 h2 h3 hsy ra rb rc Ha Hb Hc
          refine (S1.common (G1.out.1) (G1.out.2.1)).mono ?_
          rintro e w2 ⟨rfl, S2⟩
          clear S1
          go_wp2_with fail
          refine (S2.common (G2.out.1) (G2.out.2.1)).mono ?_
          rintro e w3 ⟨rfl, S3⟩
          clear S2
          go_wp2_with fail
          refine (S3.common (G3.out.1) (G3.out.2.1)).mono ?_
          rintro e w4 ⟨rfl, S4⟩
          clear S3
          go_wp2_with fail
          refine (S4.dist (G1.out.2.2) (G1.out.2.1)).mono ?_
          rintro e w5 ⟨rfl, S5⟩
          clear S4
          go_wp2_with fail
          refine (S5.dist (G2.out.2.2) (G2.out.2.1)).mono ?_
          rintro e w6 ⟨rfl, S6⟩
          clear S5
          go_wp2_with fail
          refine (S6.dist (G3.out.2.2) (G3.out.2.1)).mono ?_
          rintro e w7 ⟨rfl, S7⟩
          clear S6
          go_wp2_with fail
          refine (S7.dist (G4.out.2.2) (G4.out.2.1)).mono ?_
          rintro e w8 ⟨rfl, S8⟩
          clear S7
          go_wp2_with fail
          refine (works_any _ S8.deb).mono ?_
          rintro e w12 ⟨rfl, hb12⟩
          go_wp2_with fail
          go_ret
          exact ⟨rfl, (S8.step hb12).bel⟩
      | some bc =>
        rw [h2] at rb
        cases h3 : com p a c with
        | none =>
          have f1 := co_none h1
          have f2 := co_some hbl hcl h2
          have f3 := co_none h3
          have f4 := co_none hsy.symm
          have G1 := Lib.hid f1
          have G2 := Lib.hid f2
          have G3 := Lib.hid f3
          have G4 := Lib.hid f4
          clear f1 f2 f3 f4 h1 h2 h3 hsy ra rb rc Ha Hb Hc
          refine (S1.common (G1.out.1) (G1.out.2.1)).mono ?_
          rintro e w2 ⟨rfl, S2⟩
          clear S1
          go_wp2_with fail
          refine (S2.common (G2.out.1) (G2.out.2.1)).mono ?_
          rintro e w3 ⟨rfl, S3⟩
          clear S2
          go_wp2_with fail
          refine (S3.common (G3.out.1) (G3.out.2.1)).mono ?_
          rintro e w4 ⟨rfl, S4⟩
          clear S3
          go_wp2_with fail
          refine (S4.dist (G1.out.2.2) (G1.out.2.1)).mono ?_
          rintro e w5 ⟨rfl, S5⟩
          clear S4
          go_wp2_with fail
          refine (S5.dist (G2.out.2.2) (G2.out.2.1)).mono ?_
          rintro e w6 ⟨rfl, S6⟩
          clear S5
          go_wp2_with fail
          refine (S6.dist (G3.out.2.2) (G3.out.2.1)).mono ?_
          rintro e w7 ⟨rfl, S7⟩
          clear S6
          go_wp2_with fail
          refine (S7.dist (G4.out.2.2) (G4.out.2.1)).mono ?_
          rintro e w8 ⟨rfl, S8⟩
          clear S7
          go_wp2_with fail
          refine (works_any _ S8.deb).mono ?_
          rintro e w12 ⟨rfl, hb12⟩
          go_wp2_with fail
          go_ret
          exact ⟨rfl, (S8.step hb12).bel⟩
        | some ac => exact absurd (ra.2 ((rc.1 (by rw [h3]; rfl)).trans (rb.1 rfl).symm)) (by simp)
    | some ab =>
      rw [h1] at hsy ra
      cases h2 : com p b c with
      | none =>
        rw [h2] at rb
        cases h3 : com p a c with
        | none =>
          have f1 := co_some hal hbl h1
          have f2 := co_none h2
          have f3 := co_none h3
          have f4 := co_some hbl hal hsy.symm
          have g1 := dist_zero HF.out hal hbl h1
          have labl := isAnc_lt HF.out hal (com_some HF.out hal h1).1
          have va := dp_v hal; have vb := dp_v hbl; have vab := dp_v labl
          have G1 := Lib.hid f1
          have G2 := Lib.hid f2
          have G3 := Lib.hid f3
          have G4 := Lib.hid f4
          clear f1 f2 f3 f4 h1 h2 h3 hsy ra rb rc Ha Hb Hc
          have VA := Lib.hid va; have VB := Lib.hid vb; have VAB := Lib.hid vab; have Z := Lib.hid g1.2.2
          have g11 := g1.1; have g12 := g1.2.1
          clear va vb vab g1
          refine (S1.common (G1.out.1) (G1.out.2.1)).mono ?_
          rintro e w2 ⟨rfl, S2⟩
          clear S1
          go_wp2_with fail
          refine (S2.common (G2.out.1) (G2.out.2.1)).mono ?_
          rintro e w3 ⟨rfl, S3⟩
          clear S2
          go_wp2_with fail
          refine (S3.common (G3.out.1) (G3.out.2.1)).mono ?_
          rintro e w4 ⟨rfl, S4⟩
          clear S3
          go_wp2_with fail
          refine (S4.dist (G1.out.2.2) (G1.out.2.1)).mono ?_
          rintro e w5 ⟨rfl, S5⟩
          clear S4
          go_wp2_with fail
          refine (S5.dist (G2.out.2.2) (G2.out.2.1)).mono ?_
          rintro e w6 ⟨rfl, S6⟩
          clear S5
          go_wp2_with fail
          refine (S6.dist (G3.out.2.2) (G3.out.2.1)).mono ?_
          rintro e w7 ⟨rfl, S7⟩
          clear S6
          go_wp2_with fail
          refine (S7.dist (G4.out.2.2) (G4.out.2.1)).mono ?_
          rintro e w8 ⟨rfl, S8⟩
          clear S7
          have hbk : ((dp p a : Int) + dp p b - 2 * dp p ab != (dp p b : Int) + dp p a - 2 * dp p ab) = false := by rw [bne_eq_false_iff_eq]; omega
          go_wp2_with fail
          refine (S8.depth VA.out).mono ?_
          rintro e w9 ⟨rfl, S9⟩
          go_wp2_with fail
          refine (S9.depth VB.out).mono ?_
          rintro e w10 ⟨rfl, S10⟩
          go_wp2_with fail
          refine (S10.depth VAB.out).mono ?_
          rintro e w11 ⟨rfl, S11⟩
          have hzz : ((dp p a : Int) + dp p b - 2 * dp p ab == 0) = ((a : Int) == (b : Int)) := by rw [Bool.eq_iff_iff, beq_iff_eq, beq_iff_eq, Z.out]; omega
          cases hab : ((a : Int) == (b : Int))
          all_goals rw [hab] at hzz
          all_goals go_wp2_with fail
          all_goals refine (works_any _ S11.deb).mono ?_
          all_goals rintro e w12 ⟨rfl, hb12⟩
          all_goals go_wp2_with fail
          all_goals go_ret
          all_goals exact ⟨rfl, (S11.step hb12).bel⟩
        | some ac => exact absurd (rb.2 ((ra.1 rfl).symm.trans (rc.1 (by rw [h3]; rfl)))) (by simp)
      | some bc =>
        rw [h2] at rb
        cases h3 : com p a c with
        | none => exact absurd (rc.2 ((ra.1 rfl).trans (rb.1 rfl))) (by rw [h3]; simp)
        | some ac =>
          have f1 := co_some hal hbl h1
          have f2 := co_some hbl hcl h2
          have f3 := co_some hal hcl h3
          have f4 := co_some hbl hal hsy.symm
          have g1 := dist_zero HF.out hal hbl h1
          have labl := isAnc_lt HF.out hal (com_some HF.out hal h1).1
          have va := dp_v hal; have vb := dp_v hbl; have vab := dp_v labl
          have g2 := three_plain HF.out hal hbl hcl h1 h2 h3
          have g3 := dist_zero HF.out hbl hcl h2; have g4 := dist_zero HF.out hal hcl h3
          have G1 := Lib.hid f1
          have G2 := Lib.hid f2
          have G3 := Lib.hid f3
          have G4 := Lib.hid f4
          clear f1 f2 f3 f4 h1 h2 h3 hsy ra rb rc Ha Hb Hc
          have VA := Lib.hid va; have VB := Lib.hid vb; have VAB := Lib.hid vab; have Z := Lib.hid g1.2.2
          have g11 := g1.1; have g12 := g1.2.1
          clear va vb vab g1
          have T1 := g2.1; have T2 := Lib.hid g2.2; have g31 := g3.1; have g32 := g3.2.1; have g41 := g4.1; have g42 := g4.2.1
          clear g2 g3 g4
          refine (S1.common (G1.out.1) (G1.out.2.1)).mono ?_
          rintro e w2 ⟨rfl, S2⟩
          clear S1
          go_wp2_with fail
          refine (S2.common (G2.out.1) (G2.out.2.1)).mono ?_
          rintro e w3 ⟨rfl, S3⟩
          clear S2
          go_wp2_with fail
          refine (S3.common (G3.out.1) (G3.out.2.1)).mono ?_
          rintro e w4 ⟨rfl, S4⟩
          clear S3
          go_wp2_with fail
          refine (S4.dist (G1.out.2.2) (G1.out.2.1)).mono ?_
          rintro e w5 ⟨rfl, S5⟩
          clear S4
          go_wp2_with fail
          refine (S5.dist (G2.out.2.2) (G2.out.2.1)).mono ?_
          rintro e w6 ⟨rfl, S6⟩
          clear S5
          go_wp2_with fail
          refine (S6.dist (G3.out.2.2) (G3.out.2.1)).mono ?_
          rintro e w7 ⟨rfl, S7⟩
          clear S6
          go_wp2_with fail
          refine (S7.dist (G4.out.2.2) (G4.out.2.1)).mono ?_
          rintro e w8 ⟨rfl, S8⟩
          clear S7
          have hbk : ((dp p a : Int) + dp p b - 2 * dp p ab != (dp p b : Int) + dp p a - 2 * dp p ab) = false := by rw [bne_eq_false_iff_eq]; omega
          go_wp2_with fail
          refine (S8.depth VA.out).mono ?_
          rintro e w9 ⟨rfl, S9⟩
          go_wp2_with fail
          refine (S9.depth VB.out).mono ?_
          rintro e w10 ⟨rfl, S10⟩
          go_wp2_with fail
          refine (S10.depth VAB.out).mono ?_
          rintro e w11 ⟨rfl, S11⟩
          have hzz : ((dp p a : Int) + dp p b - 2 * dp p ab == 0) = ((a : Int) == (b : Int)) := by rw [Bool.eq_iff_iff, beq_iff_eq, beq_iff_eq, Z.out]; omega
          have HZ := Lib.hid hzz
          clear hzz
          obtain ⟨t, ht⟩ : ∃ t, ((a : Int) == (b : Int)) = t := ⟨_, rfl⟩
          have hzz := HZ.out
          rw [ht] at hzz
          have hle : (dp p a : Int) + dp p c - 2 * dp p ac ≤ (dp p a : Int) + dp p b - 2 * dp p ab + ((dp p b : Int) + dp p c - 2 * dp p bc) := by omega
          rcases T2.out with e | e | e
          · have hq1 : ((ab : Int) != (bc : Int)) = false := by rw [bne_eq_false_iff_eq]; omega
            clear e T2
            cases t
            all_goals go_wp2_with fail
            all_goals refine (works_any _ S11.deb).mono ?_
            all_goals rintro e w12 ⟨rfl, hb12⟩
            all_goals go_wp2_with fail
            all_goals go_ret
            all_goals exact ⟨rfl, (S11.step hb12).bel⟩
          · have hq1 : ((bc : Int) != (ac : Int)) = false := by rw [bne_eq_false_iff_eq]; omega
            by_cases e2 : ab = bc
            · have hq2 : ((ab : Int) != (bc : Int)) = false := by rw [bne_eq_false_iff_eq]; omega
              clear e e2 T2
              cases t
              all_goals go_wp2_with fail
              all_goals refine (works_any _ S11.deb).mono ?_
              all_goals rintro e w12 ⟨rfl, hb12⟩
              all_goals go_wp2_with fail
              all_goals go_ret
              all_goals exact ⟨rfl, (S11.step hb12).bel⟩
            · have hq2 : ((ab : Int) != (bc : Int)) = true := by rw [bne_iff_ne]; omega
              clear e e2 T2
              cases t
              all_goals go_wp2_with fail
              all_goals refine (works_any _ S11.deb).mono ?_
              all_goals rintro e w12 ⟨rfl, hb12⟩
              all_goals go_wp2_with fail
              all_goals go_ret
              all_goals exact ⟨rfl, (S11.step hb12).bel⟩
          · have hq1 : ((ab : Int) != (ac : Int)) = false := by rw [bne_eq_false_iff_eq]; omega
            by_cases e2 : ab = bc
            · have hq2 : ((ab : Int) != (bc : Int)) = false := by rw [bne_eq_false_iff_eq]; omega
              clear e e2 T2
              cases t
              all_goals go_wp2_with fail
              all_goals refine (works_any _ S11.deb).mono ?_
              all_goals rintro e w12 ⟨rfl, hb12⟩
              all_goals go_wp2_with fail
              all_goals go_ret
              all_goals exact ⟨rfl, (S11.step hb12).bel⟩
            · have hq2 : ((ab : Int) != (bc : Int)) = true := by rw [bne_iff_ne]; omega
              have hq3 : ((bc : Int) != (ac : Int)) = true := by rw [bne_iff_ne]; omega
              clear e e2 T2
              cases t
              all_goals go_wp2_with fail
              all_goals refine (works_any _ S11.deb).mono ?_
              all_goals rintro e w12 ⟨rfl, hb12⟩
              all_goals go_wp2_with fail
              all_goals go_ret
              all_goals exact ⟨rfl, (S11.step hb12).bel⟩
end Go.Proofs.YtbjakjgabolkeaaDoor
