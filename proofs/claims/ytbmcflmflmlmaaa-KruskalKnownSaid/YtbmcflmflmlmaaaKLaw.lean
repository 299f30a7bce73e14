/- What the laws of kruskal share: numbers, edges, the example, works. No conditions. -/
import Derived.Test.YtbmcflmflmlmaaaSwp
import Derived.Test.YtbmcflmflmlmaaaMin
import Derived.Laws.StructEq
namespace Go.Proofs.Ytbmcflmflmlmaaa
open Go.RowKit

theorem edge_neq (a b c a' b' c' : Int) (w : World) : (binOp .neq 36 (.agg #[.int .i64 a, .int .i64 b, .int .i64 c]) (.agg #[.int .i64 a', .int .i64 b', .int .i64 c'])).run Try.prog w = .ok (.bool (!(decide (a = a') && decide (b = b') && decide (c = c')))) w := by
  have u2 := Try.underlying2
  have a2 := Try.isAgg2
  have z2 := Try.sizeOf2
  have u3 := Try.underlying3
  have a3 := Try.isAgg3
  have z3 := Try.sizeOf3
  have hS : Try.prog.underlying 36 = some (.struct (Try.prog.fieldsOf 36)) := by kernel_rfl
  have hp : Try.prog.stoodInHeld 36 = false := by kernel_rfl
  rw [run_neq_struct, show (10000 : Nat) = 9999 + 1 from rfl, run_equalIn_agg w 9999 36 _ _ hS hp]
  simp only [Program.fieldsOf, Try.underlying36]
  go_simp
  by_cases h1 : a = a' <;> by_cases h2 : b = b' <;> by_cases h3 : c = c' <;> simp [h1, h2, h3]
set_option maxRecDepth 100000 in
set_option maxHeartbeats 1000000 in
theorem numbers_any (B : Nat) (a b : Option Addr) (ca cb : Nat) (A A' : Nat → Addr) (L M : List Int) (w : World) (hA : Sl 24 .i64 w B (.slice a L.length ca) L A) (hB : Sl 24 .i64 w B (.slice b M.length cb) M A') (hl : L.length ≤ 1000000) :
    Calls Try.prog 12 #[.slice a L.length ca, .slice b M.length cb] w fun e w' => e = .returned (.bool (decide (L = M))) ∧ ∃ q, w' = w.drewN q := by
  obtain ⟨n, hn⟩ : ∃ n, L.length = n := ⟨_, rfl⟩
  obtain ⟨m, hm⟩ : ∃ m, M.length = m := ⟨_, rfl⟩
  have HA := Lib.hid hA; have HB := Lib.hid hB
  rw [hn, hm]
  unfold Sl at HA HB
  rw [hn] at HA hl; rw [hm] at HB
  have HN := Lib.hid hn; have HM := Lib.hid hm
  clear hA hB hn hm
  by_cases hnm : n = m
  · subst hnm
    have hz : ((n : Int) != (n : Int)) = false := by simp
    go_enter Try.func12, Try.ntmps12
    go_wp2_with fail
    go_loopw [5] (fun i wr => ∃ k : Nat, k ≤ n ∧ i = .int .i64 (k : Nat) ∧ Hid (L.take k = M.take k) ∧ Hid (∃ q, wr = w.drewN q)) (fun i _ => n - (intOf i).toNat)
    case atStart => exact ⟨0, Nat.zero_le _, rfl, Lib.hid rfl, Lib.hid ⟨0, rfl⟩⟩
    case round =>
      obtain ⟨k, hk, rfl, HT, HW⟩ := hrel
      by_cases hlt : k < n
      · have bel : Below B w wr := by obtain ⟨q, rfl⟩ := HW.out; exact below_drewN (Below.refl _ _) _
        have i1 := HA.out.ix k hlt
        have i2 := HB.out.ix k hlt
        have c1 := (HA.out.below bel).cell k hlt 0 (by omega)
        have c2 := (HB.out.below bel).cell k hlt 0 (by omega)
        rw [add_zero] at c1 c2
        unfold nums at c1 c2
        obtain ⟨x, hx⟩ : ∃ x, nth L k = x := ⟨_, rfl⟩
        obtain ⟨y, hy⟩ : ∃ y, nth M k = y := ⟨_, rfl⟩
        rw [hx] at c1; rw [hy] at c2
        have HX := Lib.hid hx; have HY := Lib.hid hy
        clear hx hy bel
        by_cases hxy : x = y
        · have k1 : (x != y) = false := by simp [hxy]
          have HXY := Lib.hid hxy
          clear hxy
          go_wp2_with fail
          go_quiet (fail)
          go_wp2_with fail
          go_roundw
          case rel =>
            refine ⟨k + 1, by omega, by go_num, Lib.hid ?_, Lib.hid ?_⟩
            · have h1 := HX.out; have h2 := HY.out; have h3 := HN.out; have h4 := HM.out
              rw [nth_eq (by omega)] at h1 h2
              rw [List.take_succ_eq_append_getElem (by omega), List.take_succ_eq_append_getElem (by omega), HT.out, h1, h2, HXY.out]
            · obtain ⟨q, rfl⟩ := HW.out
              exact ⟨_, World.drewN_drewN _ _ _⟩
          case measure => simp only [intOf]; omega
        · have k1 : (x != y) = true := by simpa using hxy
          have HXY := Lib.hid hxy
          clear hxy
          go_wp2_with fail
          go_quiet (fail)
          go_wp2_with fail
          go_ret
          refine ⟨?_, ?_⟩
          · rw [decide_eq_false (fun e => HXY.out (by rw [← HX.out, ← HY.out, e]))]; rfl
          · obtain ⟨q, rfl⟩ := HW.out
            exact ⟨_, World.drewN_drewN _ _ _⟩
      · have hkn : k = n := by omega
        go_wp2_with fail
        go_ret
        refine ⟨?_, HW.out⟩
        have h1 := HT.out
        rw [List.take_of_length_le (by have := HN.out; omega), List.take_of_length_le (by have := HM.out; omega)] at h1
        rw [decide_eq_true h1]; rfl
  · have hz : ((n : Int) != (m : Int)) = true := by simp; omega
    have HNm := Lib.hid hnm
    clear hnm
    go_enter Try.func12, Try.ntmps12
    go_wp2_with fail
    go_ret
    refine ⟨?_, 0, rfl⟩
    rw [decide_eq_false (fun e => HNm.out (by rw [← HN.out, ← HM.out, e]))]; rfl
theorem numbers_n (B n m : Nat) (a b : Option Addr) (ca cb : Nat) (A A' : Nat → Addr) (L M : List Int) (w : World) (hn : L.length = n) (hm : M.length = m) (hA : Rd 24 1 w B (.slice a n ca) n (nums .i64 L) A) (hB : Rd 24 1 w B (.slice b m cb) m (nums .i64 M) A') (hl : n ≤ 1000000) :
    Calls Try.prog 12 #[.slice a n ca, .slice b m cb] w fun e w' => e = .returned (.bool (decide (L = M))) ∧ ∃ q, w' = w.drewN q := by
  subst hn; subst hm; exact numbers_any B a b ca cb A A' L M w hA hB hl
/-- a row of indexes as a slice that is read -/
theorem row_rd {w : World} {b n : Nat} {o : List Nat} (h : Row w b n (fun i => .int .i64 (o.getD i 0 : Nat))) (c : Nat) : Rd 24 1 w w.heap.size (.slice (some ⟨b, 0, none⟩) n c) n (nums .i64 (intsN o)) (fun i => (⟨b, 0, none⟩ : Addr).add (i * 1)) :=
  Rd.addr etI (fun _ => h.lt) fun i hi j hj => by
    have h0 : j = 0 := by omega
    subst h0
    rw [add_mk, Nat.zero_add]
    have := h.cell (i := i * 1 + 0) (by omega)
    rw [this]
    unfold nums
    rw [intsN_nth]
    simp
set_option maxRecDepth 100000 in
set_option maxHeartbeats 1000000 in
theorem edges_same (B : Nat) (a b : Option Addr) (ca cb : Nat) (A A' : Nat → Addr) (E : List Ed) (w : World) (hA : ES w B (.slice a E.length ca) E A) (hB : ES w B (.slice b E.length cb) E A') (hl : E.length ≤ 1000000) :
    Calls Try.prog 15 #[.slice a E.length ca, .slice b E.length cb] w fun e w' => e = .returned (.bool true) ∧ ∃ q, w' = w.drewN q := by
  have HA := Lib.hid hA; have HB := Lib.hid hB
  clear hA hB
  obtain ⟨n, hn⟩ : ∃ n, E.length = n := ⟨_, rfl⟩
  unfold ES at HA HB
  rw [hn] at HA HB hl ⊢
  clear hn
  have hz : ((n : Int) != (n : Int)) = false := by simp
  go_enter Try.func15, Try.ntmps15
  go_wp2_with fail
  go_loopw [5] (fun i wr => ∃ k : Nat, k ≤ n ∧ i = .int .i64 (k : Nat) ∧ Hid (∃ q, wr = w.drewN q)) (fun i _ => n - (intOf i).toNat)
  case atStart => exact ⟨0, Nat.zero_le _, rfl, Lib.hid ⟨0, rfl⟩⟩
  case round =>
    obtain ⟨k, hk, rfl, HW⟩ := hrel
    by_cases hlt : k < n
    · have bel : Below B w wr := by obtain ⟨q, rfl⟩ := HW.out; exact below_drewN (Below.refl _ _) _
      have i1 := HA.out.ix k hlt
      have i2 := HB.out.ix k hlt
      have hR := HA.out.below bel
      have hR' := HB.out.below bel
      have c0 := hR.cell k hlt 0 (by omega)
      have c1 : wr.cell? ⟨(A k).block, (A k).off + 1, none⟩ = some (edC E k 1) := hR.cell k hlt 1 (by omega)
      have c2 : wr.cell? ⟨(A k).block, (A k).off + 2, none⟩ = some (edC E k 2) := hR.cell k hlt 2 (by omega)
      have d0 := hR'.cell k hlt 0 (by omega)
      have d1 : wr.cell? ⟨(A' k).block, (A' k).off + 1, none⟩ = some (edC E k 1) := hR'.cell k hlt 1 (by omega)
      have d2 : wr.cell? ⟨(A' k).block, (A' k).off + 2, none⟩ = some (edC E k 2) := hR'.cell k hlt 2 (by omega)
      rw [add_zero] at c0 d0
      unfold edC at c0 c1 c2 d0 d1 d2
      generalize (eAt E k).u = u at *
      generalize (eAt E k).v = v at *
      generalize (eAt E k).w = x at *
      have he := fun w => edge_neq u v x u v x w
      simp only [decide_true, Bool.and_self, Bool.not_true] at he
      clear hR hR' bel
      go_wp2_with fail
      go_quiet (fail)
      go_wp2_with fail
      go_roundw
      case rel =>
        refine ⟨k + 1, by omega, by go_num, Lib.hid ?_⟩
        obtain ⟨q, rfl⟩ := HW.out
        exact ⟨_, World.drewN_drewN _ _ _⟩
      case measure => simp only [intOf]; omega
    · have hkn : k = n := by omega
      go_wp2_with fail
      go_ret
      exact ⟨rfl, HW.out⟩

/-- the edges of the chapter's example -/
def wE : List Ed := [⟨0, 1, 4⟩, ⟨1, 2, 2⟩, ⟨2, 0, 2⟩, ⟨0, 1, 1⟩, ⟨3, 4, -5⟩]
theorem wE_row (w : World) : Row (w.alloc (.cells #[.int .i64 0, .int .i64 1, .int .i64 4, .int .i64 1, .int .i64 2, .int .i64 2, .int .i64 2, .int .i64 0, .int .i64 2, .int .i64 0, .int .i64 1, .int .i64 1, .int .i64 3, .int .i64 4, .int .i64 (-5)] 36)) w.heap.size 15 (fun q => edC wE (q / 3) (q % 3)) :=
  Row.lit w _ _ (by decide) fun i hi => by
    match i, hi with
    | 0, _ => rfl
    | 1, _ => rfl
    | 2, _ => rfl
    | 3, _ => rfl
    | 4, _ => rfl
    | 5, _ => rfl
    | 6, _ => rfl
    | 7, _ => rfl
    | 8, _ => rfl
    | 9, _ => rfl
    | 10, _ => rfl
    | 11, _ => rfl
    | 12, _ => rfl
    | 13, _ => rfl
    | 14, _ => rfl
    | n + 15, h => exact absurd h (by omega)
theorem wE_es (w : World) : ES (w.alloc (.cells #[.int .i64 0, .int .i64 1, .int .i64 4, .int .i64 1, .int .i64 2, .int .i64 2, .int .i64 2, .int .i64 0, .int .i64 2, .int .i64 0, .int .i64 1, .int .i64 1, .int .i64 3, .int .i64 4, .int .i64 (-5)] 36)) (w.heap.size + 1) (.slice (some ⟨w.heap.size, 0, none⟩) wE.length 5) wE (fun i => (⟨w.heap.size, 0, none⟩ : Addr).add (i * 3)) := by
  have h := wE_row w
  refine Rd.addr etE (fun _ => Nat.lt_succ_self _) fun i hi j hj => ?_
  have hl : wE.length = 5 := rfl
  rw [add_mk, Nat.zero_add, h.cell (by omega)]
  congr 2 <;> omega
/-- what example answers -/
def ExRes (w : World) (e : Ending) (w' : World) : Prop := ∃ A, e = .returned (.slice (some ⟨w.heap.size, 0, none⟩) wE.length 5) ∧ ES w' w'.heap.size (.slice (some ⟨w.heap.size, 0, none⟩) wE.length 5) wE A ∧ Below w.heap.size w w'
set_option maxRecDepth 100000 in
theorem example_any (w : World) : Calls Try.prog 34 #[] w (ExRes w) := by
  have hE := wE_es w
  have hb1 := (Below.refl w.heap.size w).alloc (Nat.le_refl _) (.cells #[.int .i64 0, .int .i64 1, .int .i64 4, .int .i64 1, .int .i64 2, .int .i64 2, .int .i64 2, .int .i64 0, .int .i64 2, .int .i64 0, .int .i64 1, .int .i64 1, .int .i64 3, .int .i64 4, .int .i64 (-5)] 36)
  have HE := Lib.hid hE; have HB := Lib.hid hb1
  clear hE hb1
  go_enter Try.func34, Try.ntmps34
  go_wp2_with fail
  go_ret
  exact ⟨_, rfl, HE.out.mono (by simp), HB.out⟩
theorem wE_ok : GOk 6 wE := by
  obtain ⟨k, h1, h2⟩ := gErr_zero (n := 6) (E := wE) (by decide +kernel)
  obtain rfl : k = 6 := by omega
  exact h2
theorem wE_err : gErr 6 wE = 0 := gErr_ok wE_ok
theorem wE_ord {o : List Nat} (h : OrdOf wE o) : o = [4, 3, 1, 2, 0] := h.uniq ⟨by decide, by decide⟩
theorem wE_frs : frs wE [4, 3, 1, 2, 0] = [4, 3, 1] := by decide +kernel
end Go.Proofs.Ytbmcflmflmlmaaa
