/- The walks of the document's Common, Dist and Climb. Conditions: the table was made by the document's New. -/
import Derived.Test.YtbjakjgabolkeaaDoorRef2
namespace Go.Proofs.YtbjakjgabolkeaaDoor
open Go.RowKit Go.Shelf

theorem co_found {p : List Int} (F : Tree p) {x y : Int} {i : Nat} (hi : i < (lineI p x).length) (h1 : ∀ j, j < i → inL (lineI p y) (nth (lineI p x) j) = false) (h2 : inL (lineI p y) (nth (lineI p x) i) = true) :
    coV p x y = nth (lineI p x) i ∧ coB p x y = true := by
  cases hx : inB p x with
  | false => rw [lineI_out hx] at hi; simp at hi
  | true =>
    obtain ⟨u, rfl, hu⟩ := inB_iff.1 hx
    have hl := lineI_len hu
    obtain ⟨c, hcl, hc, hcd, _⟩ := up_at F hu (show i ≤ dp p u by omega)
    rw [lineI_nth hu (by omega) hc] at h2 ⊢
    rw [ab_line F] at h2
    have h2' := h2
    simp only [abB, Bool.and_eq_true] at h2'
    obtain ⟨v, rfl, hv⟩ := inB_iff.1 h2'.1.2
    rw [ab_at hcl hv] at h2
    have hcm := com_of F hu ((isAnc_iff F hu).2 ⟨i, hc⟩) h2 (fun z hz1 hz2 => by
      by_cases hd : dp p z ≤ dp p c
      · exact hd
      · exfalso
        obtain ⟨j, hj⟩ := (isAnc_iff F hu).1 hz1
        have hzd := anc_d F hu hj
        have := h1 j (by omega)
        rw [lineI_nth hu (by omega) hj, ab_line F, ab_at (anc_lt F hu hj) hv, hz2] at this
        cases this)
    obtain ⟨r1, r2, _⟩ := co_some hu hv hcm
    exact ⟨r1, r2⟩
theorem co_never {p : List Int} (F : Tree p) {x y : Int} (h : ∀ i, i < (lineI p x).length → inL (lineI p y) (nth (lineI p x) i) = false) : coV p x y = 0 ∧ coB p x y = false := by
  have hb : coB p x y = false := by
    cases hb : coB p x y with
    | false => rfl
    | true =>
      exfalso
      obtain ⟨a, b, c, rfl, rfl, ha, hb', hcm, _, hcl⟩ := co_range F hb
      obtain ⟨h1, h2, _⟩ := com_some F ha hcm
      obtain ⟨j, hj⟩ := (isAnc_iff F ha).1 h1
      have hd := anc_d F ha hj
      have := h j (by rw [lineI_len ha]; omega)
      rw [lineI_nth ha (by omega) hj, ab_line F, ab_at hcl hb', h2] at this
      cases this
  exact ⟨by rw [coV, hb]; rfl, hb⟩

set_option maxHeartbeats 2000000 in
theorem common_ref (c B : Nat) (p : List Int) (x y : Int) (w : World) (h : RefAt w B c p) (hB : B ≤ w.heap.size) :
    Calls Tryd.prog 34 #[.pointer (some ⟨c, 0, none⟩), .int .i64 x, .int .i64 y] w fun e w' => e = .returned (.tuple #[.int .i64 (coV p x y), .bool (coB p x y)]) ∧ Below w.heap.size w w' := by
  have F := h.tree
  have HL := line_sl c B p x w h hB
  have HM := fun w1 (hb : Below w.heap.size w w1) => line_sl c B p y w1 (h.below (hb.mono hB)) (Nat.le_trans hB hb.size)
  have hl1 := lineI_le F x
  have hl2 := lineI_le F y
  have hs := h.small
  have Hf := Lib.hid (fun i => co_found F (x := x) (y := y) (i := i))
  have Hn := Lib.hid (co_never F (x := x) (y := y))
  clear h F
  generalize lineI p x = l at *
  generalize lineI p y = m at *
  go_enter Tryd.func34, Tryd.ntmps34
  go_wp2_with fail
  refine HL.mono ?_
  rintro e w1 ⟨a1, cap1, A1, rfl, S1, hb1⟩
  go_wp2_with fail
  refine (HM w1 hb1).mono ?_
  rintro e w2 ⟨a2, cap2, A2, rfl, S2, hb2⟩
  have S1' := S1.below hb2
  have hb := hb1.trans (hb2.mono hb1.size)
  clear HL HM S1 hb1
  go_wp2_with fail
  go_loopw [10] (fun i wr => ∃ (k n : Nat), k ≤ l.length ∧ i = .int .i64 k ∧ (∀ j, j < k → inL m (nth l j) = false) ∧ wr = w2.drewN n) (fun i _ => l.length - (intOf i).toNat)
  case atStart => exact ⟨0, 0, Nat.zero_le _, rfl, fun j hj => absurd hj (by omega), rfl⟩
  case round =>
    obtain ⟨k, n, hk, rfl, hall, rfl⟩ := hrel
    by_cases hlt : k < l.length
    · have ix1 := S1'.ix k hlt
      have ce1 : ∀ n, (w2.drewN n).cell? (A1 k) = some (.int .i64 (nth l k)) := fun n => ((below_drewN (Below.refl _ w2) n).cell (Nat.lt_of_lt_of_le (S1'.lt k hlt) hb2.size)).trans (S1'.cell k hlt)
      have HA := Lib.hid hall
      clear hall
      go_wp2_with fail
      go_loopw [11] (fun i wr => ∃ (q n : Nat), q ≤ m.length ∧ i = .int .i64 q ∧ (∀ j, j < q → nth m j ≠ nth l k) ∧ wr = w2.drewN n) (fun i _ => m.length - (intOf i).toNat)
      case atStart => exact ⟨0, n, Nat.zero_le _, rfl, fun j hj => absurd hj (by omega), rfl⟩
      case round =>
        obtain ⟨q, n2, hq, rfl, hno, rfl⟩ := hrel
        by_cases hqlt : q < m.length
        · have ix2 := S2.ix q hqlt
          have ce2 : ∀ n, (w2.drewN n).cell? (A2 q) = some (.int .i64 (nth m q)) := fun n => ((below_drewN (Below.refl _ w2) n).cell (S2.lt q hqlt)).trans (S2.cell q hqlt)
          have c1 := ce1 n2
          have c2 := ce2 n2
          by_cases he : nth m q = nth l k
          · have hf := Lib.hid (Hf.out k hlt HA.out (inL_true.2 ⟨q, hqlt, he⟩))
            have he' : (nth l k == nth m q) = true := by rw [beq_iff_eq]; exact he.symm
            clear he hno
            go_wp2_with fail
            go_quiet (fail)
            have c3 := ce1 (n2 + nq)
            try rw [← World.drewN_drewN] at c3
            go_wp2_with fail
            go_ret2
            exact ⟨ret_ib hf.out.1.symm hf.out.2.symm, below_drewN hb _⟩
          · have HN := Lib.hid (show ∀ j, j < q + 1 → nth m j ≠ nth l k from fun j hj => by
              by_cases e : j = q
              · subst e; exact he
              · exact hno j (by omega))
            have he' : (nth l k == nth m q) = false := by rw [beq_eq_false_iff_ne]; exact fun e => he e.symm
            clear he hno
            go_wp2_with fail
            go_quiet (fail)
            go_wp2_with fail
            go_roundw
            case rel => exact ⟨q + 1, _, by omega, by go_num, HN.out, rfl⟩
            case measure => simp [intOf]; omega
        · obtain rfl : q = m.length := by omega
          have hin := inL_false.2 hno
          have HN := Lib.hid (show ∀ j, j < k + 1 → inL m (nth l j) = false from fun j hj => by
            by_cases e : j = k
            · subst e; exact hin
            · exact HA.out j (by omega))
          clear hin hno
          go_wp2_with fail
          go_roundw
          case rel => exact ⟨k + 1, _, by omega, by go_num, HN.out, rfl⟩
          case measure => simp [intOf]; omega
    · obtain rfl : k = l.length := by omega
      have hf := Lib.hid (Hn.out hall)
      clear hall
      go_wp2_with fail
      go_ret2
      exact ⟨ret_ib hf.out.1.symm hf.out.2.symm, below_drewN hb _⟩

set_option maxHeartbeats 1000000 in
theorem dist_ref (c B : Nat) (p : List Int) (x y : Int) (w : World) (h : RefAt w B c p) (hB : B ≤ w.heap.size) :
    Calls Tryd.prog 35 #[.pointer (some ⟨c, 0, none⟩), .int .i64 x, .int .i64 y] w fun e w' => e = .returned (.tuple #[.int .i64 (diV p x y), .bool (coB p x y)]) ∧ Below w.heap.size w w' := by
  cases hc : coB p x y with
  | false =>
    have e : diV p x y = 0 := by simp [diV, hc]
    rw [e]
    have H := Lib.hid hc; clear hc e
    go_enter Tryd.func35, Tryd.ntmps35
    go_wp2_with fail
    refine (common_ref _ _ _ _ _ _ h hB).mono ?_
    rw [H.out]
    rintro e w1 ⟨rfl, hb⟩
    go_wp2_with fail
    go_ret2
    exact ⟨rfl, hb⟩
  | true =>
    obtain ⟨a, b', z, rfl, rfl, ha, hb', hcm, hcv, hcl⟩ := co_range h.tree hc
    have e : diV p a b' = (dp p a : Int) + dp p b' - 2 * dp p z := by
      rw [diV, hc, if_pos rfl, hcv]; rfl
    rw [e]
    have d1 := dep_lt h.tree ha
    have d2 := dep_lt h.tree hb'
    have d3 := dep_lt h.tree hcl
    have e1 := Lib.hid (dp_v ha); have e2 := Lib.hid (dp_v hb'); have e3 := Lib.hid (dp_v hcl)
    have hs := h.small
    have H := Lib.hid hc; have H2 := Lib.hid hcv
    clear hc hcv e hcm
    go_enter Tryd.func35, Tryd.ntmps35
    go_wp2_with fail
    refine (common_ref _ _ _ _ _ _ h hB).mono ?_
    rw [H.out, H2.out]
    rintro e w1 ⟨rfl, hb1⟩
    go_wp2_with fail
    refine (depth_ref _ _ _ _ _ (h.below (hb1.mono hB)) (Nat.le_trans hB hb1.size)).mono ?_
    rw [e1.out]
    rintro e w2 ⟨rfl, hb2⟩
    have hb12 := hb1.trans (hb2.mono hb1.size)
    go_wp2_with fail
    refine (depth_ref _ _ _ _ _ (h.below (hb12.mono hB)) (Nat.le_trans hB hb12.size)).mono ?_
    rw [e2.out]
    rintro e w3 ⟨rfl, hb3⟩
    have hb13 := hb12.trans (hb3.mono hb12.size)
    go_wp2_with fail
    refine (depth_ref _ _ _ _ _ (h.below (hb13.mono hB)) (Nat.le_trans hB hb13.size)).mono ?_
    rw [e3.out]
    rintro e w4 ⟨rfl, hb4⟩
    have hb14 := hb13.trans (hb4.mono hb13.size)
    go_wp2_with fail
    go_ret2
    exact ⟨rfl, hb14⟩

set_option maxHeartbeats 1000000 in
theorem climb_ref (c B : Nat) (p key : List Int) (m : Int) (a : Option Addr) (cap n : Nat) (A : Nat → Addr) (v : Int) (w : World) (h : RefAt w B c p) (hn : key.length = n) (hK : Sl 40 .i64 w B (.slice a n cap) key A) :
    Calls Tryd.prog 36 #[.pointer (some ⟨c, 0, none⟩), .int .i64 v, .slice a n cap, .int .i64 m] w fun e w' => e = .returned (.tuple #[.int .i64 (clV p v key m), .int .i64 (clE p v key)]) ∧ Below w.heap.size w w' := by
  have hm := h.made
  have hs := h.small
  cases hv : inB p v with
  | false =>
    have e1 : clE p v key = 3 := by simp [clE, hv]
    have e2 : clV p v key m = 0 := by simp [clV, e1]
    rw [e1, e2]
    have H := Lib.hid hv; clear hv e1 e2
    go_enter Tryd.func36, Tryd.ntmps36
    go_wp2_with fail
    refine (node_is H.out h).mono ?_
    rintro e w' ⟨rfl, rfl⟩
    go_wp2_with fail
    go_ret2
    exact ⟨rfl, Below.refl _ _⟩
  | true =>
    obtain ⟨ap, capp, Ap, hp1, hSp⟩ := h.par
    obtain ⟨u, rfl, hu⟩ := inB_iff.1 hv
    by_cases hl : n = p.length
    · have e1 : clE p u key = 0 := by simp [clE, hv, hn, hl]
      have e2 : clV p u key m = climb p key m u := by simp [clV, e1]
      rw [e1, e2]
      subst hl
      have H := Lib.hid hv; have HN := Lib.hid hn
      clear hv e1 e2 hn
      go_enter Tryd.func36, Tryd.ntmps36
      go_wp2_with fail
      refine (node_is H.out h).mono ?_
      rintro e w' ⟨rfl, rfl⟩
      go_wp2_with fail
      go_loopw [1] (fun vv wr => ∃ (v : Nat), vv = .int .i64 v ∧ v < p.length ∧ climb p key m v = climb p key m u ∧ wr = w) (fun vv _ => dp p (intOf vv).toNat)
      case atStart => exact ⟨u, rfl, hu, rfl, rfl⟩
      case round =>
        obtain ⟨v, rfl, hvl, hcl, rfl⟩ := hrel
        have HC := Lib.hid hcl
        have hnv := nth_pa hvl h.range
        have ix := hSp.ix v hvl
        have ce := hSp.cell v hvl
        rw [hnv] at ce
        clear hcl hnv
        cases hpa : pa p v with
        | none =>
          rw [hpa] at ce
          have ce' : wr.cell? (Ap v) = some (.int .i64 (-1)) := ce
          have ho : onward p key m v = false := by simp [onward, hpa]
          have HO := Lib.hid ho
          clear ce hpa ho
          go_wp2_with fail
          go_ret2
          exact ⟨ret_ii (by rw [← HC.out, climb_stop HO.out]) rfl, Below.refl _ _⟩
        | some x =>
          have hxl := h.tree.rng v x hvl hpa
          have hdx := h.tree.up v x hvl hpa
          rw [hpa] at ce
          have ce' : wr.cell? (Ap v) = some (.int .i64 x) := ce
          have ixk := hK.ix x (by rw [HN.out]; exact hxl)
          have cek := hK.cell x (by rw [HN.out]; exact hxl)
          by_cases hle : nth key x ≤ m
          · have ho : onward p key m v = true := by simp [onward, hpa, hle]
            obtain ⟨x2, g1, g2, g3, g4⟩ := climb_go h.tree hvl ho
            rw [hpa] at g1; cases g1
            have HG := Lib.hid g4; have HD := Lib.hid hdx
            clear ce hpa ho g4 g3 hdx
            go_wp2_with fail
            go_roundw
            case rel => exact ⟨x, rfl, hxl, by rw [← HG.out]; exact HC.out, trivial⟩
            case measure => have := HD.out; simp [intOf]; omega
          · have ho : onward p key m v = false := by simp [onward, hpa, hle]
            have HO := Lib.hid ho
            have hgt : m < nth key x := by omega
            clear ce hpa ho hdx hle
            go_wp2_with fail
            go_ret2
            exact ⟨ret_ii (by rw [← HC.out, climb_stop HO.out]) rfl, Below.refl _ _⟩
    · have e1 : clE p u key = 2 := by simp [clE, hv, hn, hl]
      have e2 : clV p u key m = 0 := by simp [clV, e1]
      rw [e1, e2]
      have H := Lib.hid hv; clear hv e1 e2
      have hlb : ((n : Int) != (p.length : Int)) = true := by rw [bne_iff_ne]; omega
      go_enter Tryd.func36, Tryd.ntmps36
      go_wp2_with fail
      refine (node_is H.out h).mono ?_
      rintro e w' ⟨rfl, rfl⟩
      go_wp2_with fail
      go_ret2
      exact ⟨rfl, Below.refl _ _⟩
end Go.Proofs.YtbjakjgabolkeaaDoor
