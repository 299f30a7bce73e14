/- What the laws of bridge share: same, the example, works. No conditions. -/
import Derived.Test.YtcpikabhcjkkmaaBrY
import Derived.Test.YtcpikabhcjkkmaaBrEx
namespace Go.Proofs.Ytcpikabhcjkkmaa
open Go.RowKit

set_option maxRecDepth 100000 in
set_option maxHeartbeats 1000000 in
theorem same_any (B : Nat) (a b : Option Addr) (ca cb : Nat) (A A' : Nat → Addr) (L M : List Int) (w : World) (hA : Sl 29 .i64 w B (.slice a L.length ca) L A) (hB : Sl 29 .i64 w B (.slice b M.length cb) M A') (hl : L.length ≤ 1000000) :
    Calls Try.prog 15 #[.slice a L.length ca, .slice b M.length cb] w fun e w' => e = .returned (.bool (decide (L = M))) ∧ ∃ q, w' = w.drewN q := by
  obtain ⟨n, hn⟩ : ∃ n, L.length = n := ⟨_, rfl⟩
  obtain ⟨m, hm⟩ : ∃ m, M.length = m := ⟨_, rfl⟩
  have HA := Lib.hid hA; have HB := Lib.hid hB
  rw [hn, hm]
  unfold Sl at HA HB
  rw [hn] at HA hl; rw [hm] at HB
  have HN := Lib.hid hn; have HM := Lib.hid hm
  clear hA hB hn hm
  by_cases hnm : n = m
  · subst hnm
    have hz : ((n : Int) != (n : Int)) = false := by simp
    go_enter Try.func15, Try.ntmps15
    go_wp2_with fail
    go_loopw [5] (fun i wr => ∃ k : Nat, k ≤ n ∧ i = .int .i64 (k : Nat) ∧ Hid (L.take k = M.take k) ∧ Hid (∃ q, wr = w.drewN q)) (fun i _ => n - (intOf i).toNat)
    case atStart => exact ⟨0, Nat.zero_le _, rfl, Lib.hid rfl, Lib.hid ⟨0, rfl⟩⟩
    case round =>
      obtain ⟨k, hk, rfl, HT, HW⟩ := hrel
      by_cases hlt : k < n
      · have bel : Below B w wr := by obtain ⟨q, rfl⟩ := HW.out; exact below_drewN (Below.refl _ _) _
        have i1 := HA.out.ix k hlt
        have i2 := HB.out.ix k hlt
        have c1 := (HA.out.below bel).cell k hlt 0 (by omega)
        have c2 := (HB.out.below bel).cell k hlt 0 (by omega)
        rw [add_zero] at c1 c2
        unfold nums at c1 c2
        obtain ⟨x, hx⟩ : ∃ x, nth L k = x := ⟨_, rfl⟩
        obtain ⟨y, hy⟩ : ∃ y, nth M k = y := ⟨_, rfl⟩
        rw [hx] at c1; rw [hy] at c2
        have HX := Lib.hid hx; have HY := Lib.hid hy
        clear hx hy bel
        by_cases hxy : x = y
        · have k1 : (x != y) = false := by simp [hxy]
          have HXY := Lib.hid hxy
          clear hxy
          go_wp2_with fail
          go_quiet (fail)
          go_wp2_with fail
          go_roundw
          case rel =>
            refine ⟨k + 1, by omega, by go_num, Lib.hid ?_, Lib.hid ?_⟩
            · have h1 := HX.out; have h2 := HY.out; have h3 := HN.out; have h4 := HM.out
              rw [nth_eq (by omega)] at h1 h2
              rw [List.take_succ_eq_append_getElem (by omega), List.take_succ_eq_append_getElem (by omega), HT.out, h1, h2, HXY.out]
            · obtain ⟨q, rfl⟩ := HW.out
              exact ⟨_, World.drewN_drewN _ _ _⟩
          case measure => simp only [intOf]; omega
        · have k1 : (x != y) = true := by simpa using hxy
          have HXY := Lib.hid hxy
          clear hxy
          go_wp2_with fail
          go_quiet (fail)
          go_wp2_with fail
          go_ret
          refine ⟨?_, ?_⟩
          · rw [decide_eq_false (fun e => HXY.out (by rw [← HX.out, ← HY.out, e]))]; rfl
          · obtain ⟨q, rfl⟩ := HW.out
            exact ⟨_, World.drewN_drewN _ _ _⟩
      · have hkn : k = n := by omega
        go_wp2_with fail
        go_ret
        refine ⟨?_, HW.out⟩
        have h1 := HT.out
        rw [List.take_of_length_le (by have := HN.out; omega), List.take_of_length_le (by have := HM.out; omega)] at h1
        rw [decide_eq_true h1]; rfl
  · have hz : ((n : Int) != (m : Int)) = true := by simp; omega
    have HNm := Lib.hid hnm
    clear hnm
    go_enter Try.func15, Try.ntmps15
    go_wp2_with fail
    go_ret
    refine ⟨?_, 0, rfl⟩
    rw [decide_eq_false (fun e => HNm.out (by rw [← HN.out, ← HM.out, e]))]; rfl
theorem intsN_inj : ∀ {l r : List Nat}, intsN l = intsN r → l = r
  | [], [], _ => rfl
  | [], _ :: _, h => absurd h (by simp [intsN])
  | _ :: _, [], h => absurd h (by simp [intsN])
  | a :: l, b :: r, h => by
    simp only [intsN, List.map_cons, List.cons.injEq] at h
    rw [show a = b by omega, intsN_inj (l := l) (r := r) h.2]
theorem sameI_any (B : Nat) (va vb : Value) (l r : List Nat) (w : World) (ha : RdI w B va l) (hb : RdI w B vb r) (hl : l.length ≤ 1000000) :
    Calls Try.prog 15 #[va, vb] w fun e w' => e = .returned (.bool (decide (l = r))) ∧ ∃ q, w' = w.drewN q := by
  obtain ⟨a, ca, A, rfl, h1⟩ := ha
  obtain ⟨b, cb, A', rfl, h2⟩ := hb
  have e : decide (intsN l = intsN r) = decide (l = r) := by
    by_cases c : l = r
    · rw [c]; simp
    · rw [decide_eq_false c, decide_eq_false fun h => c (intsN_inj h)]
  have := same_any B a b ca cb A A' (intsN l) (intsN r) w (by rw [Sl, intsN_len]; exact h1) (by rw [Sl, intsN_len]; exact h2) (by rw [intsN_len]; exact hl)
  rw [e, intsN_len, intsN_len] at this
  exact this
/-- a literal list -/
theorem rdI_lit (w : World) (l : List Nat) (vs : Array Value) (n : Nat) (hn : l.length = n) (h : vs.toList = (intsN l).map (Value.int .i64)) : RdI (w.alloc (.cells vs 3)) (w.heap.size + 1) (.slice (some ⟨w.heap.size, 0, none⟩) n n) l := by
  subst hn
  refine ⟨some ⟨w.heap.size, 0, none⟩, l.length, fun i => (⟨w.heap.size, 0, none⟩ : Addr).add (i * 1), rfl, Rd.addr etI (fun _ => Nat.lt_succ_self _) fun i hi j hj => ?_⟩
  obtain rfl : j = 0 := by omega
  rw [add_mk, Nat.mul_one, Nat.add_zero, Nat.zero_add]
  have h1 : vs[i]? = some (.int .i64 (l.getD i 0 : Nat)) := by
    rw [← Array.getElem?_toList, h]; exact intsN_at hi
  unfold nums
  rw [intsN_nth]
  have h2 := heap_alloc_new w (.cells vs 3)
  simp only [World.cell?, h2]
  simp [h1]
theorem same_true (va : Value) (l : List Nat) (w : World) (ha : RdI w w.heap.size va l) (vs : Array Value) (n : Nat) (hn : l.length = n) (h : vs.toList = (intsN l).map (Value.int .i64)) (hl : n ≤ 1000000) :
    Calls Try.prog 15 #[va, .slice (some ⟨w.heap.size, 0, none⟩) n n] (w.alloc (.cells vs 3)) fun e w' => e = .returned (.bool true) ∧ Below w.heap.size w w' := by
  have hb : Below w.heap.size w (w.alloc (.cells vs 3)) := (Below.refl _ w).alloc (Nat.le_refl _) _
  refine (sameI_any (w.heap.size + 1) va _ l l _ ((ha.below hb).mono (Nat.le_succ _)) (rdI_lit w l vs n hn h) (by omega)).mono ?_
  rintro e w' ⟨rfl, q, rfl⟩
  exact ⟨by simp, below_drewN hb q⟩
/-- what example answers -/
def ExRes (w : World) (e : Ending) (w' : World) : Prop := ∃ A, e = .returned (.slice (some ⟨w.heap.size, 0, none⟩) ex6.length 6) ∧ ES w' w'.heap.size (.slice (some ⟨w.heap.size, 0, none⟩) ex6.length 6) ex6 A ∧ Below w.heap.size w w'
theorem ex6_es (w : World) : ES (w.alloc (.cells #[.int .i64 0, .int .i64 1, .int .i64 0, .int .i64 1, .int .i64 2, .int .i64 0, .int .i64 2, .int .i64 0, .int .i64 0, .int .i64 2, .int .i64 3, .int .i64 0, .int .i64 3, .int .i64 4, .int .i64 0, .int .i64 4, .int .i64 3, .int .i64 0] 48)) (w.heap.size + 1) (.slice (some ⟨w.heap.size, 0, none⟩) ex6.length 6) ex6 fun i => (⟨w.heap.size, 0, none⟩ : Addr).add (i * 3) :=
  Rd.addr etE (fun _ => Nat.lt_succ_self _) fun i hi j hj => by
    rw [add_mk, Nat.zero_add]
    simp only [World.cell?, World.alloc, Array.getElem?_push_size]
    have hl : ex6.length = 6 := rfl
    match i, j, hi, hj with
    | 0, 0, _, _ => rfl
    | 0, 1, _, _ => rfl
    | 0, 2, _, _ => rfl
    | 1, 0, _, _ => rfl
    | 1, 1, _, _ => rfl
    | 1, 2, _, _ => rfl
    | 2, 0, _, _ => rfl
    | 2, 1, _, _ => rfl
    | 2, 2, _, _ => rfl
    | 3, 0, _, _ => rfl
    | 3, 1, _, _ => rfl
    | 3, 2, _, _ => rfl
    | 4, 0, _, _ => rfl
    | 4, 1, _, _ => rfl
    | 4, 2, _, _ => rfl
    | 5, 0, _, _ => rfl
    | 5, 1, _, _ => rfl
    | 5, 2, _, _ => rfl
    | i + 6, _, h, _ => omega
    | _, j + 3, _, h => omega
set_option maxRecDepth 100000 in
theorem example_any (w : World) : Calls Try.prog 35 #[] w (ExRes w) := by
  have hE := ex6_es w
  have hb1 := (Below.refl w.heap.size w).alloc (Nat.le_refl _) (.cells #[.int .i64 0, .int .i64 1, .int .i64 0, .int .i64 1, .int .i64 2, .int .i64 0, .int .i64 2, .int .i64 0, .int .i64 0, .int .i64 2, .int .i64 3, .int .i64 0, .int .i64 3, .int .i64 4, .int .i64 0, .int .i64 4, .int .i64 3, .int .i64 0] 48)
  have HE := Lib.hid hE; have HB := Lib.hid hb1
  clear hE hb1
  go_enter Try.func35, Try.ntmps35
  go_wp2_with fail
  go_ret
  exact ⟨_, rfl, HE.out.mono (by simp), HB.out⟩
end Go.Proofs.Ytcpikabhcjkkmaa
