/- The walk of the law LiftCommon. Conditions: the bytes are given as cells; the library's table of de Bruijn is as its initialiser lays it. -/
import Derived.Test.YtbjakjgabolkeaaDoorAbove
namespace Go.Proofs.YtbjakjgabolkeaaDoor
open Go.RowKit Go.Shelf

theorem com_no {p : List Int} (F : Tree p) {a b k : Nat} (ha : a < p.length) (h : com p a b = none) (h1 : isAnc p k a = true) : isAnc p k b = false := by
  cases h2 : isAnc p k b with
  | false => rfl
  | true =>
    obtain ⟨c, hc⟩ := com_isSome F ha h1 h2
    rw [h] at hc; cases hc
theorem com_yes {p : List Int} (F : Tree p) {a b c k : Nat} (ha : a < p.length) (hb : b < p.length) (h : com p a b = some c) (h1 : isAnc p k a = true) : isAnc p k b = isAnc p k c := by
  obtain ⟨x1, x2, x3⟩ := com_some F ha h
  rw [Bool.eq_iff_iff]
  exact ⟨fun h2 => x3 k h1 h2, fun h2 => isAnc_trans F hb h2 x2⟩
theorem com_is {p : List Int} (F : Tree p) {a b c : Nat} (ha : a < p.length) (h : com p a b = some c) : ((c : Int) == (a : Int)) = isAnc p a b := by
  obtain ⟨x1, x2, x3⟩ := com_some F ha h
  rw [Bool.eq_iff_iff, beq_iff_eq]
  constructor
  · intro e
    have e : c = a := by omega
    subst e; exact x2
  · intro h2
    have h3 := x3 a (isAnc_self F ha) h2
    have hc := isAnc_lt F ha x1
    have d1 := isAnc_dep F ha x1
    have d2 := isAnc_dep F hc h3
    have := isAnc_eq F ha x1 (isAnc_self F ha) (by omega)
    omega

set_option maxRecDepth 100000 in
set_option maxHeartbeats 8000000 in
theorem commons_walk (B : Nat) (ao : Option Addr) (cap : Nat) (A : Nat → Addr) (L : List Int) (turned : Bool) (x y : Nat) (w : World) (hT : DeB w) (hS : Sl 22 .u8 w B (.slice ao L.length cap) L A) (hB : B ≤ w.heap.size) (hc : L.length ≤ cap) (hm : L.length ≤ 9223372036854775807) (hb : ∀ i, i < L.length → 0 ≤ nth L i ∧ nth L i ≤ 255) (hx : x ≤ 65535) (hy : y ≤ 65535) :
    Calls Tryd.prog 10 #[.slice ao L.length cap, .bool turned, .int .u16 x, .int .u16 y] w fun e w' => e = .returned (.bool true) ∧ Below w.heap.size w w' := by
  have hM := made_any B ao cap A L turned w hT hS hB hc hm hb
  clear hS hB hc hb hT
  generalize madeL L turned = p at hM
  go_enter Tryd.func10, Tryd.ntmps10
  go_wp2_with fail
  refine hM.mono ?_
  rintro e w1 ⟨b0, a1, cap1, A1, K, rfl, S, hSp⟩
  clear hM
  by_cases h0 : p.length = 0
  · have h0' : ((p.length : Int) == 0) = true := by rw [h0]; rfl
    clear h0
    go_wp2_with fail
    refine (works_any _ S.deb).mono ?_
    rintro e w3 ⟨rfl, hb3⟩
    go_wp2_with fail
    go_ret
    exact ⟨rfl, (S.step hb3).bel⟩
  · have h0' : ((p.length : Int) == 0) = false := by rw [beq_eq_false_iff_ne]; omega
    have hn : (1 : Int) ≤ p.length := by omega
    have hsm := S.tab.small
    obtain ⟨a, ha, hal⟩ := mod_nat x (show 0 < p.length by omega)
    obtain ⟨b, hb, hbl⟩ := mod_nat y (show 0 < p.length by omega)
    have F := S.tab.tree
    have HA := Lib.hid ha; have HB := Lib.hid hb; have HF := Lib.hid F
    have ra := com_root F hal hbl
    have ga := Lib.hid (root_at F hal); have gb := Lib.hid (root_at F hbl)
    have ea := Lib.hid (dp_v hal); have eb := Lib.hid (dp_v hbl)
    have ca := Lib.hid (co_some hal hal (com_self F hal))
    have hsy := com_symm F hal hbl
    have S0 := S.top.hold hSp
    clear h0 ha hb S hSp F
    go_wp2_with fail
    go_quiet (fail)
    go_wp2_with fail
    rw [HA.out, HB.out]
    have S1 := S0.drew nq
    clear S0 HA HB hx hy
    cases h1 : com p a b with
    | none =>
      rw [h1] at hsy ra
      have f1 := Lib.hid (co_none h1)
      have f2 := Lib.hid (co_none hsy.symm)
      have hno := Lib.hid (fun k (h : isAnc p k a = true) => com_no HF.out hal h1 h)
      have hab := Lib.hid ((ab_at hal hbl).trans (com_no HF.out hal h1 (isAnc_self HF.out hal)))
      have hro : ((rootOf p a : Int) == (rootOf p b : Int)) = false := by
        rw [beq_eq_false_iff_ne]; intro e
        have := ra.2 (by omega); cases this
      clear h1 hsy ra
      refine (S1.common f1.out.1 f1.out.2.1).mono ?_
      rintro e w2 ⟨rfl, S2⟩
      clear S1
      go_wp2_with fail
      refine (S2.common f2.out.1 f2.out.2.1).mono ?_
      rintro e w3 ⟨rfl, S3⟩
      clear S2
      go_wp2_with fail
      refine (S3.common ca.out.1 ca.out.2.1).mono ?_
      rintro e w4 ⟨rfl, S4⟩
      clear S3
      go_wp2_with fail
      refine (S4.root (x := rootOf p a) (y := true) (by rw [ea.out]; exact ga.out.1) (by rw [ea.out]; exact ga.out.2)).mono ?_
      rintro e w5 ⟨rfl, S5⟩
      clear S4
      go_wp2_with fail
      refine (S5.root (x := rootOf p b) (y := true) (by rw [eb.out]; exact gb.out.1) (by rw [eb.out]; exact gb.out.2)).mono ?_
      rintro e w6 ⟨rfl, S6⟩
      clear S5
      go_wp2_with fail
      go_loopw [23] (fun i wr => ∃ k : Nat, k ≤ p.length ∧ i = .int .i64 k ∧ SQ w w1.heap.size b0 p (fun w => Sl 25 .i64 w w1.heap.size (.slice a1 p.length cap1) p A1) wr) (fun i _ => p.length - (intOf i).toNat)
      case atStart => exact ⟨0, Nat.zero_le _, rfl, S6⟩
      case round =>
        obtain ⟨k, hk, rfl, S7⟩ := hrel
        clear S6
        by_cases hlt : k < p.length
        · have h2 := Lib.hid (ab_at hlt hal)
          have h3 := Lib.hid (ab_at hlt hbl)
          cases h4 : isAnc p k a
          · go_wp2_with fail
            refine (S7.above (h2.out.trans h4)).mono ?_
            rintro e w8 ⟨rfl, S8⟩
            clear S7
            go_wp2_with fail
            go_roundw
            case rel => exact ⟨k + 1, by omega, by go_num, S8⟩
            case measure => simp [intOf]; omega
          · have h5 := Lib.hid (h3.out.trans (hno.out k h4))
            have h2' := Lib.hid (h2.out.trans h4)
            clear h4
            go_wp2_with fail
            refine (S7.above h2'.out).mono ?_
            rintro e w8 ⟨rfl, S8⟩
            clear S7
            go_wp2_with fail
            refine (S8.above h5.out).mono ?_
            rintro e w9 ⟨rfl, S9⟩
            clear S8
            go_wp2_with fail
            go_roundw
            case rel => exact ⟨k + 1, by omega, by go_num, S9⟩
            case measure => simp [intOf]; omega
        · go_wp2_with fail
          refine (S7.above hab.out).mono ?_
          rintro e w8 ⟨rfl, S8⟩
          clear S7
          go_wp2_with fail
          refine S8.works.mono ?_
          rintro e w9 ⟨rfl, S9⟩
          go_wp2_with fail
          go_ret
          exact ⟨rfl, S9.st.bel⟩
    | some c =>
      rw [h1] at hsy ra
      have hcl := isAnc_lt HF.out hal (com_some HF.out hal h1).1
      have f1 := Lib.hid (co_some hal hbl h1)
      have f2 := Lib.hid (co_some hbl hal hsy.symm)
      have hyes := Lib.hid (fun k (h : isAnc p k a = true) => com_yes HF.out hal hbl h1 h)
      have hca := Lib.hid ((ab_at hcl hal).trans (com_some HF.out hal h1).1)
      have hcb := Lib.hid ((ab_at hcl hbl).trans (com_some HF.out hal h1).2.1)
      have his := com_is HF.out hal h1
      have hro : ((rootOf p a : Int) == (rootOf p b : Int)) = true := by
        rw [beq_iff_eq]; have := ra.1 rfl; omega
      clear h1 hsy ra
      refine (S1.common f1.out.1 f1.out.2.1).mono ?_
      rintro e w2 ⟨rfl, S2⟩
      clear S1
      go_wp2_with fail
      refine (S2.common f2.out.1 f2.out.2.1).mono ?_
      rintro e w3 ⟨rfl, S3⟩
      clear S2
      go_wp2_with fail
      refine (S3.common ca.out.1 ca.out.2.1).mono ?_
      rintro e w4 ⟨rfl, S4⟩
      clear S3
      go_wp2_with fail
      refine (S4.root (x := rootOf p a) (y := true) (by rw [ea.out]; exact ga.out.1) (by rw [ea.out]; exact ga.out.2)).mono ?_
      rintro e w5 ⟨rfl, S5⟩
      clear S4
      go_wp2_with fail
      refine (S5.root (x := rootOf p b) (y := true) (by rw [eb.out]; exact gb.out.1) (by rw [eb.out]; exact gb.out.2)).mono ?_
      rintro e w6 ⟨rfl, S6⟩
      clear S5
      go_wp2_with fail
      obtain ⟨X, hX⟩ : ∃ X, isAnc p a b = X := ⟨_, rfl⟩
      have hab := Lib.hid ((ab_at hal hbl).trans hX)
      rw [hX] at his
      clear hX
      go_loopw [23] (fun i wr => ∃ k : Nat, k ≤ p.length ∧ i = .int .i64 k ∧ SQ w w1.heap.size b0 p (fun w => Sl 25 .i64 w w1.heap.size (.slice a1 p.length cap1) p A1) wr) (fun i _ => p.length - (intOf i).toNat)
      case atStart => exact ⟨0, Nat.zero_le _, rfl, S6⟩
      case round =>
        obtain ⟨k, hk, rfl, S7⟩ := hrel
        clear S6
        by_cases hlt : k < p.length
        · have h2 := Lib.hid (ab_at hlt hal)
          have h3 := Lib.hid (ab_at hlt hbl)
          have h3c := Lib.hid (ab_at hlt hcl)
          cases h4 : isAnc p k a
          · have h2' := Lib.hid (h2.out.trans h4)
            clear h4
            go_wp2_with fail
            refine (S7.above h2'.out).mono ?_
            rintro e w8 ⟨rfl, S8⟩
            clear S7
            go_wp2_with fail
            go_roundw
            case rel => exact ⟨k + 1, by omega, by go_num, S8⟩
            case measure => simp [intOf]; omega
          · have h5 := Lib.hid (h3.out.trans (hyes.out k h4))
            have h2' := Lib.hid (h2.out.trans h4)
            obtain ⟨Y, hY⟩ : ∃ Y, isAnc p k c = Y := ⟨_, rfl⟩
            have h6 := Lib.hid (h3c.out.trans hY)
            have h5' := Lib.hid (h5.out.trans hY)
            clear h4 hY h5
            go_wp2_with fail
            refine (S7.above h2'.out).mono ?_
            rintro e w8 ⟨rfl, S8⟩
            clear S7
            go_wp2_with fail
            refine (S8.above h5'.out).mono ?_
            rintro e w9 ⟨rfl, S9⟩
            clear S8
            go_wp2_with fail
            refine (S9.above h6.out).mono ?_
            rintro e w10 ⟨rfl, S10⟩
            clear S9
            go_wp2_with fail
            go_roundw
            case rel => exact ⟨k + 1, by omega, by go_num, S10⟩
            case measure => simp [intOf]; omega
        · go_wp2_with fail
          refine (S7.above hca.out).mono ?_
          rintro e w8 ⟨rfl, S8⟩
          clear S7
          go_wp2_with fail
          refine (S8.above hcb.out).mono ?_
          rintro e w9 ⟨rfl, S9⟩
          clear S8
          go_wp2_with fail
          refine (S9.above hab.out).mono ?_
          rintro e w10 ⟨rfl, S10⟩
          clear S9
          go_wp2_with fail
          refine S10.works.mono ?_
          rintro e w11 ⟨rfl, S11⟩
          go_wp2_with fail
          go_ret
          exact ⟨rfl, S11.st.bel⟩
end Go.Proofs.YtbjakjgabolkeaaDoor
