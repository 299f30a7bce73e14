/- The walks of numbers, weights and groups of the laws. Conditions: the lists are given as cells. -/
import Derived.Test.YtibdggbejogciaaGreatMe
import Derived.Test.YtibdggbejogciaaGreatCr
import Derived.Laws.StructEq
namespace Go.Proofs.YtibdggbejogciaaGreat
open Go.RowKit

set_option maxRecDepth 100000 in
set_option maxHeartbeats 1000000 in
theorem numbers_any (B : Nat) (a b : Option Addr) (ca cb : Nat) (A A' : Nat → Addr) (L M : List Int) (w : World) (hA : Sl 37 .i64 w B (.slice a L.length ca) L A) (hB : Sl 37 .i64 w B (.slice b M.length cb) M A') (hl : L.length ≤ 1000000) :
    Calls Tryz.prog 16 #[.slice a L.length ca, .slice b M.length cb] w fun e w' => e = .returned (.bool (decide (L = M))) ∧ ∃ q, w' = w.drewN q := by
  obtain ⟨n, hn⟩ : ∃ n, L.length = n := ⟨_, rfl⟩
  obtain ⟨m, hm⟩ : ∃ m, M.length = m := ⟨_, rfl⟩
  have HA := Lib.hid hA; have HB := Lib.hid hB
  rw [hn, hm]
  unfold Sl at HA HB
  rw [hn] at HA hl; rw [hm] at HB
  have HN := Lib.hid hn; have HM := Lib.hid hm
  clear hA hB hn hm
  by_cases hnm : n = m
  · subst hnm
    have hz : ((n : Int) != (n : Int)) = false := by simp
    go_enter Tryz.func16, Tryz.ntmps16
    go_wp2_with fail
    go_loopw [5] (fun i wr => ∃ k : Nat, k ≤ n ∧ i = .int .i64 (k : Nat) ∧ Hid (L.take k = M.take k) ∧ Hid (∃ q, wr = w.drewN q)) (fun i _ => n - (intOf i).toNat)
    case atStart => exact ⟨0, Nat.zero_le _, rfl, Lib.hid rfl, Lib.hid ⟨0, rfl⟩⟩
    case round =>
      obtain ⟨k, hk, rfl, HT, HW⟩ := hrel
      by_cases hlt : k < n
      · have bel : Below B w wr := by obtain ⟨q, rfl⟩ := HW.out; exact below_drewN (Below.refl _ _) _
        have i1 := HA.out.ix k hlt
        have i2 := HB.out.ix k hlt
        have c1 := (HA.out.below bel).cell k hlt 0 (by omega)
        have c2 := (HB.out.below bel).cell k hlt 0 (by omega)
        rw [add_zero] at c1 c2
        unfold nums at c1 c2
        obtain ⟨x, hx⟩ : ∃ x, nth L k = x := ⟨_, rfl⟩
        obtain ⟨y, hy⟩ : ∃ y, nth M k = y := ⟨_, rfl⟩
        rw [hx] at c1; rw [hy] at c2
        have HX := Lib.hid hx; have HY := Lib.hid hy
        clear hx hy bel
        by_cases hxy : x = y
        · have k1 : (x != y) = false := by simp [hxy]
          have HXY := Lib.hid hxy
          clear hxy
          go_wp2_with fail
          go_quiet (fail)
          go_wp2_with fail
          go_roundw
          case rel =>
            refine ⟨k + 1, by omega, by go_num, Lib.hid ?_, Lib.hid ?_⟩
            · have h1 := HX.out; have h2 := HY.out; have h3 := HN.out; have h4 := HM.out
              rw [nth_eq (by omega)] at h1 h2
              rw [List.take_succ_eq_append_getElem (by omega), List.take_succ_eq_append_getElem (by omega), HT.out, h1, h2, HXY.out]
            · obtain ⟨q, rfl⟩ := HW.out
              exact ⟨_, World.drewN_drewN _ _ _⟩
          case measure => simp only [intOf]; omega
        · have k1 : (x != y) = true := by simpa using hxy
          have HXY := Lib.hid hxy
          clear hxy
          go_wp2_with fail
          go_quiet (fail)
          go_wp2_with fail
          go_ret
          refine ⟨?_, ?_⟩
          · rw [decide_eq_false (fun e => HXY.out (by rw [← HX.out, ← HY.out, e]))]; rfl
          · obtain ⟨q, rfl⟩ := HW.out
            exact ⟨_, World.drewN_drewN _ _ _⟩
      · have hkn : k = n := by omega
        go_wp2_with fail
        go_ret
        refine ⟨?_, HW.out⟩
        have h1 := HT.out
        rw [List.take_of_length_le (by have := HN.out; omega), List.take_of_length_le (by have := HM.out; omega)] at h1
        rw [decide_eq_true h1]; rfl
  · have hz : ((n : Int) != (m : Int)) = true := by simp; omega
    have HNm := Lib.hid hnm
    clear hnm
    go_enter Tryz.func16, Tryz.ntmps16
    go_wp2_with fail
    go_ret
    refine ⟨?_, 0, rfl⟩
    rw [decide_eq_false (fun e => HNm.out (by rw [← HN.out, ← HM.out, e]))]; rfl
theorem numbers_n (B n m : Nat) (a b : Option Addr) (ca cb : Nat) (A A' : Nat → Addr) (L M : List Int) (w : World) (hn : L.length = n) (hm : M.length = m) (hA : Rd 37 1 w B (.slice a n ca) n (nums .i64 L) A) (hB : Rd 37 1 w B (.slice b m cb) m (nums .i64 M) A') (hl : n ≤ 1000000) :
    Calls Tryz.prog 16 #[.slice a n ca, .slice b m cb] w fun e w' => e = .returned (.bool (decide (L = M))) ∧ ∃ q, w' = w.drewN q := by
  subst hn; subst hm; exact numbers_any B a b ca cb A A' L M w hA hB hl
set_option maxRecDepth 100000 in
set_option maxHeartbeats 1000000 in
theorem weights_any (B : Nat) (a b : Option Addr) (ca cb : Nat) (A A' : Nat → Addr) (L M : List Int) (w : World) (hA : Sl 30 .i64 w B (.slice a L.length ca) L A) (hB : Sl 30 .i64 w B (.slice b M.length cb) M A') (hl : L.length ≤ 1000000) :
    Calls Tryz.prog 9 #[.slice a L.length ca, .slice b M.length cb] w fun e w' => e = .returned (.bool (decide (L = M))) ∧ ∃ q, w' = w.drewN q := by
  obtain ⟨n, hn⟩ : ∃ n, L.length = n := ⟨_, rfl⟩
  obtain ⟨m, hm⟩ : ∃ m, M.length = m := ⟨_, rfl⟩
  have HA := Lib.hid hA; have HB := Lib.hid hB
  rw [hn, hm]
  unfold Sl at HA HB
  rw [hn] at HA hl; rw [hm] at HB
  have HN := Lib.hid hn; have HM := Lib.hid hm
  clear hA hB hn hm
  by_cases hnm : n = m
  · subst hnm
    have hz : ((n : Int) != (n : Int)) = false := by simp
    go_enter Tryz.func9, Tryz.ntmps9
    go_wp2_with fail
    go_loopw [5] (fun i wr => ∃ k : Nat, k ≤ n ∧ i = .int .i64 (k : Nat) ∧ Hid (L.take k = M.take k) ∧ Hid (∃ q, wr = w.drewN q)) (fun i _ => n - (intOf i).toNat)
    case atStart => exact ⟨0, Nat.zero_le _, rfl, Lib.hid rfl, Lib.hid ⟨0, rfl⟩⟩
    case round =>
      obtain ⟨k, hk, rfl, HT, HW⟩ := hrel
      by_cases hlt : k < n
      · have bel : Below B w wr := by obtain ⟨q, rfl⟩ := HW.out; exact below_drewN (Below.refl _ _) _
        have i1 := HA.out.ix k hlt
        have i2 := HB.out.ix k hlt
        have c1 := (HA.out.below bel).cell k hlt 0 (by omega)
        have c2 := (HB.out.below bel).cell k hlt 0 (by omega)
        rw [add_zero] at c1 c2
        unfold nums at c1 c2
        obtain ⟨x, hx⟩ : ∃ x, nth L k = x := ⟨_, rfl⟩
        obtain ⟨y, hy⟩ : ∃ y, nth M k = y := ⟨_, rfl⟩
        rw [hx] at c1; rw [hy] at c2
        have HX := Lib.hid hx; have HY := Lib.hid hy
        clear hx hy bel
        by_cases hxy : x = y
        · have k1 : (x != y) = false := by simp [hxy]
          have HXY := Lib.hid hxy
          clear hxy
          go_wp2_with fail
          go_quiet (fail)
          go_wp2_with fail
          go_roundw
          case rel =>
            refine ⟨k + 1, by omega, by go_num, Lib.hid ?_, Lib.hid ?_⟩
            · have h1 := HX.out; have h2 := HY.out; have h3 := HN.out; have h4 := HM.out
              rw [nth_eq (by omega)] at h1 h2
              rw [List.take_succ_eq_append_getElem (by omega), List.take_succ_eq_append_getElem (by omega), HT.out, h1, h2, HXY.out]
            · obtain ⟨q, rfl⟩ := HW.out
              exact ⟨_, World.drewN_drewN _ _ _⟩
          case measure => simp only [intOf]; omega
        · have k1 : (x != y) = true := by simpa using hxy
          have HXY := Lib.hid hxy
          clear hxy
          go_wp2_with fail
          go_quiet (fail)
          go_wp2_with fail
          go_ret
          refine ⟨?_, ?_⟩
          · rw [decide_eq_false (fun e => HXY.out (by rw [← HX.out, ← HY.out, e]))]; rfl
          · obtain ⟨q, rfl⟩ := HW.out
            exact ⟨_, World.drewN_drewN _ _ _⟩
      · have hkn : k = n := by omega
        go_wp2_with fail
        go_ret
        refine ⟨?_, HW.out⟩
        have h1 := HT.out
        rw [List.take_of_length_le (by have := HN.out; omega), List.take_of_length_le (by have := HM.out; omega)] at h1
        rw [decide_eq_true h1]; rfl
  · have hz : ((n : Int) != (m : Int)) = true := by simp; omega
    have HNm := Lib.hid hnm
    clear hnm
    go_enter Tryz.func9, Tryz.ntmps9
    go_wp2_with fail
    go_ret
    refine ⟨?_, 0, rfl⟩
    rw [decide_eq_false (fun e => HNm.out (by rw [← HN.out, ← HM.out, e]))]; rfl
theorem weights_n (B n m : Nat) (a b : Option Addr) (ca cb : Nat) (A A' : Nat → Addr) (L M : List Int) (w : World) (hn : L.length = n) (hm : M.length = m) (hA : Rd 30 1 w B (.slice a n ca) n (nums .i64 L) A) (hB : Rd 30 1 w B (.slice b m cb) m (nums .i64 M) A') (hl : n ≤ 1000000) :
    Calls Tryz.prog 9 #[.slice a n ca, .slice b m cb] w fun e w' => e = .returned (.bool (decide (L = M))) ∧ ∃ q, w' = w.drewN q := by
  subst hn; subst hm; exact weights_any B a b ca cb A A' L M w hA hB hl
end Go.Proofs.YtibdggbejogciaaGreat

/- Equality of groups and rows; the walk of groups of the laws. Conditions: the lists are given as cells. -/
namespace Go.Proofs.YtibdggbejogciaaGreat
open Go.RowKit

theorem group_neq (a b a' b' : Int) (w : World) : (binOp .neq 33 (.agg #[.int .i64 a, .int .i64 b]) (.agg #[.int .i64 a', .int .i64 b'])).run Tryz.prog w = .ok (.bool (!(decide (a = a') && decide (b = b')))) w := by
  have u2 := Tryz.underlying2
  have a2 := Tryz.isAgg2
  have z2 := Tryz.sizeOf2
  have u3 := Tryz.underlying3
  have a3 := Tryz.isAgg3
  have z3 := Tryz.sizeOf3
  have hS : Tryz.prog.underlying 33 = some (.struct (Tryz.prog.fieldsOf 33)) := by kernel_rfl
  have hp : Tryz.prog.stoodInHeld 33 = false := by kernel_rfl
  rw [run_neq_struct, show (10000 : Nat) = 9999 + 1 from rfl, run_equalIn_agg w 9999 33 _ _ hS hp]
  simp only [Program.fieldsOf, Tryz.underlying33]
  go_simp
  by_cases h0 : a = a' <;> by_cases h1 : b = b' <;> simp [h0, h1]
theorem group_eql (a b a' b' : Int) (w : World) : (binOp .eql 33 (.agg #[.int .i64 a, .int .i64 b]) (.agg #[.int .i64 a', .int .i64 b'])).run Tryz.prog w = .ok (.bool ((decide (a = a') && decide (b = b')))) w := by
  have u2 := Tryz.underlying2
  have a2 := Tryz.isAgg2
  have z2 := Tryz.sizeOf2
  have u3 := Tryz.underlying3
  have a3 := Tryz.isAgg3
  have z3 := Tryz.sizeOf3
  have hS : Tryz.prog.underlying 33 = some (.struct (Tryz.prog.fieldsOf 33)) := by kernel_rfl
  have hp : Tryz.prog.stoodInHeld 33 = false := by kernel_rfl
  rw [run_eql_struct, show (10000 : Nat) = 9999 + 1 from rfl, run_equalIn_agg w 9999 33 _ _ hS hp]
  simp only [Program.fieldsOf, Tryz.underlying33]
  go_simp
  by_cases h0 : a = a' <;> by_cases h1 : b = b' <;> simp [h0, h1]
theorem crow_neq (a b c a' b' c' : Int) (w : World) : (binOp .neq 48 (.agg #[.int .i64 a, .int .i64 b, .int .i64 c]) (.agg #[.int .i64 a', .int .i64 b', .int .i64 c'])).run Tryz.prog w = .ok (.bool (!(decide (a = a') && decide (b = b') && decide (c = c')))) w := by
  have u2 := Tryz.underlying2
  have a2 := Tryz.isAgg2
  have z2 := Tryz.sizeOf2
  have u3 := Tryz.underlying3
  have a3 := Tryz.isAgg3
  have z3 := Tryz.sizeOf3
  have hS : Tryz.prog.underlying 48 = some (.struct (Tryz.prog.fieldsOf 48)) := by kernel_rfl
  have hp : Tryz.prog.stoodInHeld 48 = false := by kernel_rfl
  rw [run_neq_struct, show (10000 : Nat) = 9999 + 1 from rfl, run_equalIn_agg w 9999 48 _ _ hS hp]
  simp only [Program.fieldsOf, Tryz.underlying48]
  go_simp
  by_cases h0 : a = a' <;> by_cases h1 : b = b' <;> by_cases h2 : c = c' <;> simp [h0, h1, h2]
theorem crow_eql (a b c a' b' c' : Int) (w : World) : (binOp .eql 48 (.agg #[.int .i64 a, .int .i64 b, .int .i64 c]) (.agg #[.int .i64 a', .int .i64 b', .int .i64 c'])).run Tryz.prog w = .ok (.bool ((decide (a = a') && decide (b = b') && decide (c = c')))) w := by
  have u2 := Tryz.underlying2
  have a2 := Tryz.isAgg2
  have z2 := Tryz.sizeOf2
  have u3 := Tryz.underlying3
  have a3 := Tryz.isAgg3
  have z3 := Tryz.sizeOf3
  have hS : Tryz.prog.underlying 48 = some (.struct (Tryz.prog.fieldsOf 48)) := by kernel_rfl
  have hp : Tryz.prog.stoodInHeld 48 = false := by kernel_rfl
  rw [run_eql_struct, show (10000 : Nat) = 9999 + 1 from rfl, run_equalIn_agg w 9999 48 _ _ hS hp]
  simp only [Program.fieldsOf, Tryz.underlying48]
  go_simp
  by_cases h0 : a = a' <;> by_cases h1 : b = b' <;> by_cases h2 : c = c' <;> simp [h0, h1, h2]
/-- the cells of pairs -/
def pq (L : List (Int × Int)) (i j : Nat) : Value := if j = 0 then .int .i64 (L.getD i (0, 0)).1 else .int .i64 (L.getD i (0, 0)).2
theorem getD_eq {α} {d : α} {L : List α} {i : Nat} (h : i < L.length) : L.getD i d = L[i] := by
  rw [List.getD_eq_getElem?_getD, List.getElem?_eq_getElem h]; rfl
set_option maxRecDepth 100000 in
set_option maxHeartbeats 1000000 in
theorem groups_any (B n m : Nat) (a b : Option Addr) (ca cb : Nat) (A A' : Nat → Addr) (L M : List (Int × Int)) (w : World) (hn : L.length = n) (hm : M.length = m) (hA : Rd 43 2 w B (.slice a n ca) n (pq L) A) (hB : Rd 43 2 w B (.slice b m cb) m (pq M) A') (hl : n ≤ 1000000) :
    Calls Tryz.prog 17 #[.slice a n ca, .slice b m cb] w fun e w' => e = .returned (.bool (decide (L = M))) ∧ ∃ q, w' = w.drewN q := by
  have HA := Lib.hid hA; have HB := Lib.hid hB
  have HN := Lib.hid hn; have HM := Lib.hid hm
  clear hA hB hn hm
  by_cases hnm : n = m
  · subst hnm
    have hz : ((n : Int) != (n : Int)) = false := by simp
    go_enter Tryz.func17, Tryz.ntmps17
    go_wp2_with fail
    go_loopw [5] (fun i wr => ∃ k : Nat, k ≤ n ∧ i = .int .i64 (k : Nat) ∧ Hid (L.take k = M.take k) ∧ Hid (∃ q, wr = w.drewN q)) (fun i _ => n - (intOf i).toNat)
    case atStart => exact ⟨0, Nat.zero_le _, rfl, Lib.hid rfl, Lib.hid ⟨0, rfl⟩⟩
    case round =>
      obtain ⟨k, hk, rfl, HT, HW⟩ := hrel
      by_cases hlt : k < n
      · have bel : Below B w wr := by obtain ⟨q, rfl⟩ := HW.out; exact below_drewN (Below.refl _ _) _
        have i1 := HA.out.ix k hlt
        have i2 := HB.out.ix k hlt
        have c1 := (HA.out.below bel).cell k hlt 0 (by omega)
        have c2 := (HB.out.below bel).cell k hlt 0 (by omega)
        have d1 : wr.cell? ⟨(A k).block, (A k).off + 1, none⟩ = some (pq L k 1) := (HA.out.below bel).cell k hlt 1 (by omega)
        have d2 : wr.cell? ⟨(A' k).block, (A' k).off + 1, none⟩ = some (pq M k 1) := (HB.out.below bel).cell k hlt 1 (by omega)
        rw [add_zero] at c1 c2
        unfold pq at c1 c2 d1 d2
        obtain ⟨x, hx⟩ : ∃ x, L.getD k (0, 0) = x := ⟨_, rfl⟩
        obtain ⟨y, hy⟩ : ∃ y, M.getD k (0, 0) = y := ⟨_, rfl⟩
        rw [hx] at c1 d1; rw [hy] at c2 d2
        rw [if_pos rfl] at c1 c2; rw [if_neg (by omega)] at d1 d2
        have HX := Lib.hid hx; have HY := Lib.hid hy
        have he := fun w => group_neq x.1 x.2 y.1 y.2 w
        clear hx hy bel
        by_cases hxy : x = y
        · have k1 : (!(decide (x.1 = y.1) && decide (x.2 = y.2))) = false := by simp [hxy]
          rw [k1] at he
          have HXY := Lib.hid hxy
          clear hxy k1
          go_wp2_with fail
          go_quiet (fail)
          go_wp2_with fail
          go_roundw
          case rel =>
            refine ⟨k + 1, by omega, by go_num, Lib.hid ?_, Lib.hid ?_⟩
            · have h1 := HX.out; have h2 := HY.out; have h3 := HN.out; have h4 := HM.out
              rw [getD_eq (by omega)] at h1 h2
              rw [List.take_succ_eq_append_getElem (by omega), List.take_succ_eq_append_getElem (by omega), HT.out, h1, h2, HXY.out]
            · obtain ⟨q, rfl⟩ := HW.out
              exact ⟨_, World.drewN_drewN _ _ _⟩
          case measure => simp only [intOf]; omega
        · have k1 : (!(decide (x.1 = y.1) && decide (x.2 = y.2))) = true := by
            rw [Bool.not_eq_true']
            exact Bool.eq_false_iff.2 fun e => hxy (Prod.ext (by simpa using (Bool.and_eq_true_iff.1 e).1) (by simpa using (Bool.and_eq_true_iff.1 e).2))
          rw [k1] at he
          have HXY := Lib.hid hxy
          clear hxy k1
          go_wp2_with fail
          go_quiet (fail)
          go_wp2_with fail
          go_ret
          refine ⟨?_, ?_⟩
          · rw [decide_eq_false (fun e => HXY.out (by rw [← HX.out, ← HY.out, e]))]; rfl
          · obtain ⟨q, rfl⟩ := HW.out
            exact ⟨_, World.drewN_drewN _ _ _⟩
      · have hkn : k = n := by omega
        go_wp2_with fail
        go_ret
        refine ⟨?_, HW.out⟩
        have h1 := HT.out
        rw [List.take_of_length_le (by have := HN.out; omega), List.take_of_length_le (by have := HM.out; omega)] at h1
        rw [decide_eq_true h1]; rfl
  · have hz : ((n : Int) != (m : Int)) = true := by simp; omega
    have HNm := Lib.hid hnm
    clear hnm
    go_enter Tryz.func17, Tryz.ntmps17
    go_wp2_with fail
    go_ret
    refine ⟨?_, 0, rfl⟩
    rw [decide_eq_false (fun e => HNm.out (by rw [← HN.out, ← HM.out, e]))]; rfl
end Go.Proofs.YtibdggbejogciaaGreat
