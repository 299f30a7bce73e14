/- The walk of the law BridgeRemoves. Conditions: the pairs are in range. -/
import Derived.Test.YtcpikabhcjkkmaaBlL
import Derived.Test.YtcpikabhcjkkmaaGrR
namespace Go.Proofs.Ytcpikabhcjkkmaa
open Go.RowKit Go.Shelf

theorem row_count (x y z : Int) (w : World) : (Instr.field 59 (.agg #[.int .i64 x, .int .i64 y, .int .i64 z]) 1).run Try.prog w = .ok (.int .i64 y) w := by
  have u2 := Try.underlying3
  have a2 := Try.isAgg3
  have z2 := Try.sizeOf3
  simp only [Instr.field, Sem.run_bind, run_underlying Try.underlying59]
  go_simp
  simp [asAgg]
/-- a member of a list of indexes -/
theorem RdI.get {w : World} {B : Nat} {v : Value} {l : List Nat} (h : RdI w B v l) {i : Nat} (hi : i < l.length) :
    ∃ (ad : Addr), (∀ w', (Instr.indexAt 29 v (.int .i64 (i : Nat))).run Try.prog w' = .ok (.pointer (some ad)) w') ∧ w.cell? ad = some (.int .i64 (l.getD i 0 : Nat)) := by
  obtain ⟨a, c, A, rfl, h⟩ := h
  have c0 := h.cell i hi 0 (by omega)
  rw [add_zero] at c0
  unfold nums at c0
  rw [intsN_nth] at c0
  exact ⟨A i, h.ix i hi, c0⟩
theorem getD_mem' {l : List Nat} {i : Nat} (h : i < l.length) : l.getD i 0 ∈ l := by
  rw [List.getD_eq_getElem?_getD, List.getElem?_eq_getElem h]; exact List.getElem_mem _
theorem sorted_at {l : List Nat} (h : l.Pairwise (· < ·)) {i j : Nat} (hij : i < j) (hj : j < l.length) : l.getD i 0 < l.getD j 0 := by
  rw [List.pairwise_iff_getElem] at h
  have := h i j (by omega) hj hij
  rw [List.getD_eq_getElem?_getD, List.getD_eq_getElem?_getD, List.getElem?_eq_getElem (by omega), List.getElem?_eq_getElem hj]
  exact this
set_option maxRecDepth 100000 in
set_option maxHeartbeats 4000000 in
theorem removes_walk (z : Int) (a : Option Addr) (cap : Nat) (A : Nat → Addr) (L : List (Int × Int)) (w : World) (hS : PS w w.heap.size (.slice a L.length cap) L A) (hr : PrR L) (hz : 0 ≤ z ∧ z ≤ 255) (hl : L.length ≤ 9223372036854775807) :
    Calls Try.prog 11 #[.int .u8 z, .slice a L.length cap] w fun e w' => e = .returned (.bool true) ∧ Below w.heap.size w w' := by
  have HM := Lib.hid (made_any w.heap.size a cap A L z w hS (Nat.le_refl _) hr hz hl)
  have hrc := row_count
  clear hS hr
  go_enter Try.func11, Try.ntmps11
  go_wp2_with fail
  refine HM.out.mono ?_
  clear HM
  rintro e w1 ⟨b, n, E, ea, ec, EA, rfl, hG, hES, hO, hn0, hn1, hm, hb1⟩
  have HGk := Lib.hid hG.ok
  have HGr := Lib.hid hG
  have HO1 := Lib.hid hO
  have B1 := Lib.hid hb1
  have HC := Lib.hid (bridges_out w1.heap.size (some ⟨b, 0, none⟩) n E (some (n, E)) (.inl rfl) w1 ⟨b, rfl, hG⟩ (Nat.le_refl _))
  clear hG hES hb1 hO
  go_wp2_with fail
  refine HC.out.mono ?_
  clear HC
  rintro e w2 ⟨bv, rfl, hbv, b2⟩
  have hs1 := b2.size
  have B2 := Lib.hid (B1.out.trans (b2.mono B1.out.size))
  have HO2 := Lib.hid (HO1.out.below b2)
  have HGr2 := Lib.hid (HGr.out.below b2)
  have HBv := Lib.hid hbv
  have HC := Lib.hid (grow_any w1.heap.size b n E w2 HGr2.out hs1)
  obtain ⟨q, hq⟩ : ∃ q, cntN n (labO E (List.range E.length)) = q := ⟨_, rfl⟩
  have hqn : q ≤ n := by rw [← hq]; exact cntN_le n _
  have HQ := Lib.hid hq
  unfold RowRes at HC
  rw [hq] at HC
  clear b2 hbv B1 HO1 HGr hq
  go_wp2_with fail
  refine HC.out.mono ?_
  clear HC
  rintro e w3 ⟨rfl, b3⟩
  have B3 := Lib.hid (B2.out.trans (b3.mono B2.out.size))
  have HO3 := Lib.hid (HO2.out.below b3)
  have HBv3 := Lib.hid ((HBv.out.below b3).mono b3.size)
  clear b3 B2 HO2 HGr2 HBv hs1
  go_wp2_with fail
  go_loopw [10] (fun iv wr => ∃ k : Nat, k ≤ E.length ∧ iv = .int .i64 (k : Nat) ∧ Below w3.heap.size w3 wr) (fun iv _ => E.length - (intOf iv).toNat)
  case atStart => exact ⟨0, Nat.zero_le _, rfl, Below.refl _ _⟩
  case round =>
    obtain ⟨k, hk, rfl, bel⟩ := hrel
    by_cases hlt : k < E.length
    · have HW := Lib.hid (without_any w.heap.size ea ec n k E wr (HO3.out.below bel) HGk.out hlt)
      have hkn : (0 : Int) ≤ k ∧ (k : Int) < E.length := by omega
      have hcc := cnt_cut HGk.out hlt
      rw [HQ.out] at hcc
      obtain ⟨q', hq'⟩ : ∃ q', cntN n (labO (cutE E k) (List.range (cutE E k).length)) = q' := ⟨_, rfl⟩
      rw [hq'] at hcc
      have HQ' := Lib.hid hq'
      clear hq'
      go_wp2_with fail
      refine HW.out.mono ?_
      clear HW
      rintro e w4 ⟨b4, rfl, hG4, bl4⟩
      have bel4 := Lib.hid (bel.trans (bl4.mono bel.size))
      have HGw := Lib.hid hG4
      have HH := Lib.hid (hasI_any w3.heap.size bv (briL E) k w4 (HBv3.out.below bel4.out) (by have := briL_len E; omega))
      have HR := fun W (hb : Below w4.heap.size w4 W) => grow_any w4.heap.size b4 n (cutE E k) W (HGw.out.below hb) hb.size
      have HR := Lib.hid (HR w4 (Below.refl _ _))
      unfold RowRes at HR
      rw [HQ'.out] at HR
      obtain ⟨c, hc⟩ : ∃ c, decide (k ∈ briL E) = c := ⟨_, rfl⟩
      rw [hc] at HH
      clear hG4 bl4
      cases c with
      | true =>
        rw [if_pos (of_decide_eq_true hc)] at hcc
        have hne : ((q' : Int) != (q : Int) + 1) = false := by simp; omega
        have HCc := Lib.hid hcc
        clear hc hcc
        go_wp2_with fail
        refine HH.out.mono ?_
        rintro e w5 ⟨rfl, rfl⟩
        clear HH
        go_wp2_with fail
        refine HR.out.mono ?_
        clear HR
        rintro e w6 ⟨rfl, b6⟩
        have bel6 := bel4.out.trans (b6.mono bel4.out.size)
        clear b6
        go_wp2_with fail
        go_roundw
        case rel => exact ⟨k + 1, by omega, by go_num, bel6⟩
        case measure => simp only [intOf]; omega
      | false =>
        rw [if_neg (of_decide_eq_false hc)] at hcc
        have hne : ((q' : Int) != (q : Int)) = false := by simp; omega
        have HCc := Lib.hid hcc
        clear hc hcc
        go_wp2_with fail
        refine HH.out.mono ?_
        rintro e w5 ⟨rfl, rfl⟩
        clear HH
        go_wp2_with fail
        refine HR.out.mono ?_
        clear HR
        rintro e w6 ⟨rfl, b6⟩
        have bel6 := bel4.out.trans (b6.mono bel4.out.size)
        clear b6
        go_wp2_with fail
        go_roundw
        case rel => exact ⟨k + 1, by omega, by go_num, bel6⟩
        case measure => simp only [intOf]; omega
    · obtain rfl : k = E.length := by omega
      obtain ⟨ba, bc, BA, hbv, hbr⟩ := HBv3.out.below bel
      subst hbv
      have HBw := Lib.hid (show RdI wr w3.heap.size (.slice ba (briL E).length bc) (briL E) from ⟨ba, bc, BA, rfl, hbr⟩)
      have hbln := briL_len E
      obtain ⟨w0, rfl⟩ : ∃ w0 : World, w0 = wr := ⟨_, rfl⟩
      have B4 := Lib.hid (B3.out.trans (bel.mono B3.out.size))
      have hs0 := bel.size
      have HLt := Lib.hid (fun k (hk : k < (briL E).length) => (mem_briL.1 (getD_mem' hk)).1)
      have HSrt := Lib.hid (briL_sorted E)
      clear hbr bel HBv3 HO3 B3 HQ
      generalize briL E = l at *
      generalize labO E (List.range E.length) = lab at *
      go_wp2_with fail
      go_loopw [13] (fun iv wr => ∃ k : Nat, k ≤ l.length ∧ iv = .int .i64 (k : Nat) ∧ Below w0.heap.size w0 wr) (fun iv _ => l.length - (intOf iv).toNat)
      case atStart => exact ⟨0, Nat.zero_le _, rfl, Below.refl _ _⟩
      case round =>
        obtain ⟨k, hk, rfl, bel⟩ := hrel
        by_cases hlt : k < l.length
        · have HBx := Lib.hid (HBw.out.below (bel.mono hs0))
          obtain ⟨ak, ixk, ck⟩ := RdI.get HBx.out hlt
          have hx := HLt.out k hlt
          obtain ⟨x, hxe⟩ : ∃ x, l.getD k 0 = x := ⟨_, rfl⟩
          rw [hxe] at ck hx
          have hkn : (0 : Int) ≤ k ∧ (k : Int) < l.length := by omega
          by_cases hk0 : k = 0
          · have hd1 : decide (0 < k) = false := decide_eq_false (by omega)
            have hd2 : decide ((0 : Int) < (k : Int)) = false := decide_eq_false (by omega)
            have hx0 : decide ((x : Int) < 0) = false := decide_eq_false (by omega)
            have hx1 : decide (E.length ≤ x) = false := decide_eq_false (by omega)
            have hw1 : IntKind.i64.wrap ((k : Int) + 1) = (k : Int) + 1 := IntWalk.i64_in _ (by omega)
            have HK := Lib.hid hlt
            have HBel := Lib.hid bel
            clear hxe hk0 hx hlt bel hk hqn hn0 hn1 hm hs0 hbln hz hl
            go_wp2_with fail
            go_quiet (fail)
            go_wp2_with fail
            go_roundw
            case rel => exact ⟨k + 1, by have := HK.out; omega, by go_num, below_drewN HBel.out _⟩
            case measure => have := HK.out; simp only [intOf]; omega
          · obtain ⟨j, hj⟩ : ∃ j, k = j + 1 := ⟨k - 1, by omega⟩
            obtain ⟨aj, ixj, cj⟩ := RdI.get HBx.out (show j < l.length by omega)
            have hso := sorted_at HSrt.out (show j < k by omega) hlt
            obtain ⟨y, hye⟩ : ∃ y, l.getD j 0 = y := ⟨_, rfl⟩
            rw [hye] at cj hso
            rw [hxe] at hso
            have hkj : (k : Int) - 1 = (j : Nat) := by omega
            have hkp : (0 : Int) < k := by omega
            have hd1 : decide (0 < k) = true := decide_eq_true (by omega)
            have hd2 : decide (x ≤ y) = false := decide_eq_false (by omega)
            have hjn : (0 : Int) ≤ j ∧ (j : Int) < l.length := by omega
            have hwj : IntKind.i64.wrap (j : Int) = (j : Int) := IntWalk.i64_in _ (by omega)
            have hx0 : decide ((x : Int) < 0) = false := decide_eq_false (by omega)
            have hx1 : decide (E.length ≤ x) = false := decide_eq_false (by omega)
            have hw1 : IntKind.i64.wrap ((k : Int) + 1) = (k : Int) + 1 := IntWalk.i64_in _ (by omega)
            have HK := Lib.hid hlt
            have HBel := Lib.hid bel
            clear hxe hye hj hk0 hx hlt bel hk hqn hn0 hn1 hm hs0 hbln hz hl hso hkp hjn
            go_wp2_with fail
            go_quiet (fail)
            go_wp2_with fail
            go_roundw
            case rel => exact ⟨k + 1, by have := HK.out; omega, by go_num, below_drewN HBel.out _⟩
            case measure => have := HK.out; simp only [intOf]; omega
        · obtain rfl : k = l.length := by omega
          go_wp2_with fail
          refine (works_any _).mono ?_
          rintro e w9 ⟨rfl, hb9⟩
          have B9 := Lib.hid (B4.out.trans ((bel.trans (hb9.mono bel.size)).mono B4.out.size))
          go_wp2_with fail
          go_ret
          exact ⟨rfl, B9.out⟩
end Go.Proofs.Ytcpikabhcjkkmaa
