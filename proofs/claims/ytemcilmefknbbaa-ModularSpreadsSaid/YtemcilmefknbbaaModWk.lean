/- The walk of works of the statements about modular, the chapter's example; whether two lists are the same. No conditions. -/
import Derived.Test.YtemcilmefknbbaaModGr
import Derived.Laws.StructEq
namespace Go.Proofs.Ytemcilmefknbbaa
open Go.RowKit Go.Shelf Go.Maps Go.Sort

theorem frac_eq (a b c d : Int) (w : World) : (binOp .eql 33 (.agg #[.int .i64 a, .int .i64 b]) (.agg #[.int .i64 c, .int .i64 d])).run Try.prog w = .ok (.bool (decide (a = c) && decide (b = d))) w := by
  have u2 := Try.underlying2
  have a2 := Try.isAgg2
  have z2 := Try.sizeOf2
  have hS : Try.prog.underlying 33 = some (.struct (Try.prog.fieldsOf 33)) := by kernel_rfl
  have hp : Try.prog.stoodInHeld 33 = false := by kernel_rfl
  rw [run_eql_struct, show (10000 : Nat) = 9999 + 1 from rfl, run_equalIn_agg w 9999 33 _ _ hS hp]
  simp only [Program.fieldsOf, Try.underlying33]
  go_simp
  by_cases h1 : a = c <;> by_cases h2 : b = d <;> simp [h1, h2]
set_option maxRecDepth 100000 in
theorem same_any (B : Nat) (a b : Option Addr) (cap cap2 : Nat) (A A2 : Nat → Addr) (l : List Int) (w : World) (S1 : Sl 23 .i64 w B (.slice a l.length cap) l A) (S2 : Sl 23 .i64 w B (.slice b l.length cap2) l A2) (hB : B ≤ w.heap.size) (hl : l.length ≤ 1000000) :
    Calls Try.prog 22 #[.slice a l.length cap, .slice b l.length cap2] w fun e w' => e = .returned (.bool true) ∧ Below w.heap.size w w' := by
  have H1 := Lib.hid S1
  have H2 := Lib.hid S2
  clear S1 S2
  go_enter Try.func22, Try.ntmps22
  go_wp2_with fail
  go_loopw [5] (fun i wr => ∃ k : Nat, k ≤ l.length ∧ i = .int .i64 k ∧ Below w.heap.size w wr) (fun i _ => l.length - (intOf i).toNat)
  case atStart => exact ⟨0, Nat.zero_le _, rfl, Below.refl _ _⟩
  case round =>
    obtain ⟨k, hk, rfl, bel⟩ := hrel
    by_cases hlt : k < l.length
    · have h1 := H1.out.below (bel.mono hB)
      have h2 := H2.out.below (bel.mono hB)
      have x1 := h1.ix k hlt
      have x2 := h2.ix k hlt
      have c1 : wr.cell? (A k) = some (.int .i64 (nth l k)) := Sl.at h1 hlt
      have c2 : wr.cell? (A2 k) = some (.int .i64 (nth l k)) := Sl.at h2 hlt
      have hq : (nth l k != nth l k) = false := by simp
      clear h1 h2
      go_wp2_with fail
      go_quiet (fail)
      go_wp2_with fail
      go_roundw
      case rel => exact ⟨k + 1, by omega, by go_num, below_drewN bel _⟩
      case measure => simp only [intOf]; omega
    · obtain rfl : k = l.length := by omega
      go_wp2_with fail
      go_ret
      exact ⟨rfl, bel⟩
/-- numbers that are written out -/
theorem lit_sl (w : World) (l : List Int) : Sl 23 .i64 (w.alloc (.cells (l.map (Value.int .i64)).toArray 3)) (w.heap.size + 1) (.slice (some ⟨w.heap.size, 0, none⟩) l.length l.length) l (fun i => (⟨w.heap.size, 0, none⟩ : Addr).add (i * 1)) := by
  have hr : Row (w.alloc (.cells (l.map (Value.int .i64)).toArray 3)) w.heap.size l.length (fun i => .int .i64 (nth l i)) :=
    Row.lit w _ _ (by simp) fun i hi => by simp [nth, List.getD, hi]
  refine Rd.addr etI (fun _ => Nat.lt_succ_self _) fun i hi j hj => ?_
  obtain rfl : j = 0 := by omega
  rw [add_mk, Nat.mul_one, Nat.add_zero, Nat.zero_add]
  exact hr.cell hi

/-- the edges of the chapter's example -/
def mE : List Ed := [⟨0, 1, 0⟩, ⟨1, 2, 0⟩, ⟨2, 0, 0⟩, ⟨2, 3, 0⟩, ⟨3, 4, 0⟩, ⟨4, 5, 0⟩, ⟨5, 3, 0⟩]
theorem mE_row (w : World) : Row (w.alloc (.cells #[.int .i64 0, .int .i64 1, .int .i64 0, .int .i64 1, .int .i64 2, .int .i64 0, .int .i64 2, .int .i64 0, .int .i64 0, .int .i64 2, .int .i64 3, .int .i64 0, .int .i64 3, .int .i64 4, .int .i64 0, .int .i64 4, .int .i64 5, .int .i64 0, .int .i64 5, .int .i64 3, .int .i64 0] 56)) w.heap.size 21 (fun q => edC mE (q / 3) (q % 3)) :=
  Row.lit w _ _ (by decide) fun i hi => by
    match i, hi with
    | 0, _ => rfl
    | 1, _ => rfl
    | 2, _ => rfl
    | 3, _ => rfl
    | 4, _ => rfl
    | 5, _ => rfl
    | 6, _ => rfl
    | 7, _ => rfl
    | 8, _ => rfl
    | 9, _ => rfl
    | 10, _ => rfl
    | 11, _ => rfl
    | 12, _ => rfl
    | 13, _ => rfl
    | 14, _ => rfl
    | 15, _ => rfl
    | 16, _ => rfl
    | 17, _ => rfl
    | 18, _ => rfl
    | 19, _ => rfl
    | 20, _ => rfl
    | n + 21, h => exact absurd h (by omega)
theorem mE_es (w : World) : ES (w.alloc (.cells #[.int .i64 0, .int .i64 1, .int .i64 0, .int .i64 1, .int .i64 2, .int .i64 0, .int .i64 2, .int .i64 0, .int .i64 0, .int .i64 2, .int .i64 3, .int .i64 0, .int .i64 3, .int .i64 4, .int .i64 0, .int .i64 4, .int .i64 5, .int .i64 0, .int .i64 5, .int .i64 3, .int .i64 0] 56)) (w.heap.size + 1) (.slice (some ⟨w.heap.size, 0, none⟩) mE.length 7) mE (fun i => (⟨w.heap.size, 0, none⟩ : Addr).add (i * 3)) := by
  have h := mE_row w
  refine Rd.addr etE (fun _ => Nat.lt_succ_self _) fun i hi j hj => ?_
  have hl : mE.length = 7 := rfl
  rw [add_mk, Nat.zero_add, h.cell (by omega)]
  congr 2 <;> omega
theorem mE_ok : GOk 6 mE := by
  obtain ⟨k, h1, h2⟩ := gErr_zero (n := 6) (E := mE) (by decide +kernel)
  obtain rfl : k = 6 := by omega
  exact h2
theorem mE_vals : qlN (some (6, mE)) [0, 0, 0, 3, 3, 3] = 5 ∧ qlD (some (6, mE)) [0, 0, 0, 3, 3, 3] = 14 ∧ mErr (some (6, mE)) 6 = 0 := by
  decide +kernel
theorem mE_greed : Greed mE [0, 1, 2, 3, 4, 5] [1, 1, 1, 5, 5, 5] := by
  refine ⟨2, ?_, ?_, ?_⟩
  · decide +kernel
  · decide +kernel
  · decide +kernel
theorem lwf_small {l : List Int} (h : ∀ x, x ∈ l → 0 ≤ x ∧ x ≤ 1000) : LWf l := fun x hx => WalkArith.wf_i64 (by have := h x hx; omega)

set_option maxRecDepth 100000 in
set_option maxHeartbeats 2000000 in
theorem works_any (w : World) : Calls Try.prog 14 #[] w fun e w' => e = .returned (.bool true) ∧ Below w.heap.size w w' := by
  have hE := mE_es w
  have hb1 : Below w.heap.size w (w.alloc (.cells #[.int .i64 0, .int .i64 1, .int .i64 0, .int .i64 1, .int .i64 2, .int .i64 0, .int .i64 2, .int .i64 0, .int .i64 0, .int .i64 2, .int .i64 3, .int .i64 0, .int .i64 3, .int .i64 4, .int .i64 0, .int .i64 4, .int .i64 5, .int .i64 0, .int .i64 5, .int .i64 3, .int .i64 0] 56)) := (Below.refl _ _).alloc (Nat.le_refl _) _
  have hs1 : (w.alloc (.cells #[.int .i64 0, .int .i64 1, .int .i64 0, .int .i64 1, .int .i64 2, .int .i64 0, .int .i64 2, .int .i64 0, .int .i64 0, .int .i64 2, .int .i64 3, .int .i64 0, .int .i64 3, .int .i64 4, .int .i64 0, .int .i64 4, .int .i64 5, .int .i64 0, .int .i64 5, .int .i64 3, .int .i64 0] 56)).heap.size = w.heap.size + 1 := by simp
  have HC := Lib.hid (gnew_any _ _ _ _ 6 mE _ hE (by omega) (by decide))
  clear hE
  go_enter Try.func14, Try.ntmps14
  go_wp2_with fail
  refine HC.out.mono ?_
  rintro e w1 ⟨hb2, h2⟩
  rcases h2 with ⟨h2, _⟩ | ⟨b, k, hk, hok, rfl, hG⟩
  · exact absurd (gErr_ok mE_ok) h2
  obtain rfl : k = 6 := by omega
  clear HC hk hok
  have hV : GV w1 w1.heap.size (.pointer (some ⟨b, 0, none⟩)) (some (6, mE)) := ⟨b, rfl, hG⟩
  have bel1 : Below w.heap.size w w1 := hb1.trans (hb2.mono (by omega))
  have HV := Lib.hid hV
  clear hG hb1 hb2 hs1 hV
  -- Quality
  have S1 := lit_sl w1 [0, 0, 0, 3, 3, 3]
  have hb3 : Below w1.heap.size w1 (w1.alloc (.cells #[.int .i64 0, .int .i64 0, .int .i64 0, .int .i64 3, .int .i64 3, .int .i64 3] 3)) := (Below.refl _ _).alloc (Nat.le_refl _) _
  have hs3 : (w1.alloc (.cells #[.int .i64 0, .int .i64 0, .int .i64 0, .int .i64 3, .int .i64 3, .int .i64 3] 3)).heap.size = w1.heap.size + 1 := by simp
  obtain ⟨v1, v2, v3⟩ := mE_vals
  have HQ := Lib.hid (quality_any (w1.heap.size + 1) (.pointer (some ⟨b, 0, none⟩)) (some (6, mE)) (some ⟨w1.heap.size, 0, none⟩) 6 _ [0, 0, 0, 3, 3, 3] _ ((HV.out.below hb3).mono (by omega)) S1 (by rw [← hs3]; exact Nat.le_refl _) (lwf_small (by decide)))
  have V1 := Lib.hid v1; have V2 := Lib.hid v2; have V3 := Lib.hid v3
  clear v1 v2 v3 S1
  go_wp2_with fail
  refine HQ.out.mono ?_
  rintro e w2 ⟨rfl, hb4⟩
  rw [V1.out, V2.out, show mErr (some (6, mE)) ([0, 0, 0, 3, 3, 3] : List Int).length = 0 from V3.out]
  have bel2 : Below w1.heap.size w1 w2 := stepB0 hb3 hb4
  have T2 := Two.new w2 5 14 33
  have bel3 : Below w1.heap.size w1 (w2.alloc (.cells #[.int .i64 5, .int .i64 14] 33)) := bel2.alloc bel2.size _
  have hs4 : (w2.alloc (.cells #[.int .i64 5, .int .i64 14] 33)).heap.size = w2.heap.size + 1 := by simp
  clear hb3 hb4 hs3 HQ bel2
  go_upto_region 5 with fail
  generalize w2.alloc (.cells #[.int .i64 5, .int .i64 14] 33) = W3 at *
  have hs4' : w2.heap.size < W3.heap.size := by omega
  clear hs4
  have hs5 : (W3.alloc (.cells #[.int .i64 0, .int .i64 1, .int .i64 2, .int .i64 3, .int .i64 4, .int .i64 5] 3)).heap.size = W3.heap.size + 1 := by simp
  have hb5 : Below W3.heap.size W3 (W3.alloc (.cells #[.int .i64 0, .int .i64 1, .int .i64 2, .int .i64 3, .int .i64 4, .int .i64 5] 3)) := (Below.refl _ _).alloc (Nat.le_refl _) _
  have bel5 := stepB0 bel3 hb5
  have T5 := T2.below hb5 (by omega)
  have S2 := lit_sl W3 [0, 1, 2, 3, 4, 5]
  have HR := Lib.hid (greedy_any (W3.heap.size + 1) (.pointer (some ⟨b, 0, none⟩)) (some (6, mE)) (some ⟨W3.heap.size, 0, none⟩) 6 _ [0, 1, 2, 3, 4, 5] _ ((HV.out.below bel5).mono (by have := bel3.size; omega)) S2 (by rw [← hs5]; exact Nat.le_refl _) (lwf_small (by decide)))
  clear S2
  go_wp2_with fail
  refine HR.out.mono ?_
  rintro e w4 ⟨hb6, hres⟩
  rcases hres with ⟨h0, _⟩ | ⟨-, R, a, cap, A, hgr, rfl, hSl, -⟩
  · exact absurd V3.out h0
  obtain rfl : R = [1, 1, 1, 5, 5, 5] := hgr.same mE_greed
  have bel6 := stepB0 bel5 hb6
  have T6 := T5.below hb6 (by omega)
  have hs6 := hb6.size
  clear hb5 hb6 bel5 T5 bel3 T2 hgr HR
  have hb7 : Below w4.heap.size w4 (w4.alloc (.cells #[.int .i64 1, .int .i64 1, .int .i64 1, .int .i64 5, .int .i64 5, .int .i64 5] 3)) := (Below.refl _ _).alloc (Nat.le_refl _) _
  have hs7 : (w4.alloc (.cells #[.int .i64 1, .int .i64 1, .int .i64 1, .int .i64 5, .int .i64 5, .int .i64 5] 3)).heap.size = w4.heap.size + 1 := by simp
  have S3 := lit_sl w4 [1, 1, 1, 5, 5, 5]
  have HSm := Lib.hid (same_any (w4.heap.size + 1) a (some ⟨w4.heap.size, 0, none⟩) cap 6 A _ [1, 1, 1, 5, 5, 5] _ ((hSl.below hb7).mono (by omega)) S3 (by rw [← hs7]; exact Nat.le_refl _) (by decide))
  have bel7 := stepB0 bel6 hb7
  have c0 := T6.c0; have c1 := T6.c1
  have q1 : ∀ w, (binOp .eql 33 (.agg #[.int .i64 5, .int .i64 14]) (.agg #[.int .i64 5, .int .i64 14])).run Try.prog w = .ok (.bool true) w := fun w => by simpa using frac_eq 5 14 5 14 w
  clear T6 S3 hSl bel6 hb7
  go_wp2_with fail
  refine HSm.out.mono ?_
  rintro e w5 ⟨rfl, hb8⟩
  have bel8 := stepB0 bel7 hb8
  go_wp2_with fail
  go_ret
  exact ⟨rfl, stepB0 bel1 bel8⟩
end Go.Proofs.Ytemcilmefknbbaa
