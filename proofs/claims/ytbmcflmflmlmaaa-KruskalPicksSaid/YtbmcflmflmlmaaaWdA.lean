/- The walks of more, less and size of the document's package of numbers. Conditions: sums have at most six digits. -/
import Derived.Test.YtbmcflmflmlmaaaWdN
import Derived.Test.YtbmcflmflmlmaaaRow
import Derived.IntWalk
namespace Go.Proofs.Ytbmcflmflmlmaaa
open Go.RowKit

/-- the digits of a magnitude -/
def arrC (U : Nat) : Array Value := #[.int .u64 (dg U 0 : Nat), .int .u64 (dg U 1 : Nat), .int .u64 (dg U 2 : Nat), .int .u64 (dg U 3 : Nat), .int .u64 (dg U 4 : Nat), .int .u64 (dg U 5 : Nat)]
theorem arr_row (w : World) (U : Nat) (t : TypeId) : Row (w.alloc (.cells (arrC U) t)) w.heap.size 6 (fun i => .int .u64 (dg U i : Nat)) :=
  Row.lit w _ _ (by simp [arrC]) fun i hi => by
    match i, hi with
    | 0, _ => rfl
    | 1, _ => rfl
    | 2, _ => rfl
    | 3, _ => rfl
    | 4, _ => rfl
    | 5, _ => rfl
    | n + 6, h => omega
theorem zero_row (w : World) (t : TypeId) : Row (w.alloc (.cells #[.int .u64 0, .int .u64 0, .int .u64 0, .int .u64 0, .int .u64 0, .int .u64 0] t)) w.heap.size 6 (fun _ => .int .u64 0) :=
  Row.lit w _ _ (by simp) fun i hi => by
    match i, hi with
    | 0, _ => rfl
    | 1, _ => rfl
    | 2, _ => rfl
    | 3, _ => rfl
    | 4, _ => rfl
    | 5, _ => rfl
    | n + 6, h => omega

set_option maxRecDepth 100000 in
set_option maxHeartbeats 2000000 in
theorem rmore_any (U V : Nat) (w : World) :
    Calls Try.prog 91 #[.agg (arrC U), .agg (arrC V)] w fun e w' => e = .returned (.agg (arrC (U + V))) ∧ Below w.heap.size w w' := by
  have hU := arr_row w U 81
  have hV := arr_row (w.alloc (.cells (arrC U) 81)) V 81
  rw [World.size_alloc] at hV
  obtain ⟨uu, huu⟩ : ∃ x, arrC U = x := ⟨_, rfl⟩
  obtain ⟨vv, hvv⟩ : ∃ x, arrC V = x := ⟨_, rfl⟩
  rw [huu] at hU hV ⊢; rw [hvv] at hV ⊢
  have HU := Lib.hid (show Row ((((w.alloc (.cells uu 81)).alloc (.cells vv 81)).alloc (.cells #[.int .u64 0, .int .u64 0, .int .u64 0, .int .u64 0, .int .u64 0, .int .u64 0] 81)).alloc (.cells #[.int .u64 0, .int .u64 0, .int .u64 0, .int .u64 0, .int .u64 0, .int .u64 0] 81)) w.heap.size 6 (fun i => .int .u64 (dg U i : Nat)) from ((hU.alloc _).alloc _).alloc _)
  have HV := Lib.hid (show Row ((((w.alloc (.cells uu 81)).alloc (.cells vv 81)).alloc (.cells #[.int .u64 0, .int .u64 0, .int .u64 0, .int .u64 0, .int .u64 0, .int .u64 0] 81)).alloc (.cells #[.int .u64 0, .int .u64 0, .int .u64 0, .int .u64 0, .int .u64 0, .int .u64 0] 81)) (w.heap.size + 1) 6 (fun i => .int .u64 (dg V i : Nat)) from (hV.alloc _).alloc _)
  have z1 := zero_row ((w.alloc (.cells uu 81)).alloc (.cells vv 81)) 81
  have z2 := zero_row (((w.alloc (.cells uu 81)).alloc (.cells vv 81)).alloc (.cells #[.int .u64 0, .int .u64 0, .int .u64 0, .int .u64 0, .int .u64 0, .int .u64 0] 81)) 81
  simp only [World.size_alloc] at z1 z2
  have HZ1 := Lib.hid (show Row ((((w.alloc (.cells uu 81)).alloc (.cells vv 81)).alloc (.cells #[.int .u64 0, .int .u64 0, .int .u64 0, .int .u64 0, .int .u64 0, .int .u64 0] 81)).alloc (.cells #[.int .u64 0, .int .u64 0, .int .u64 0, .int .u64 0, .int .u64 0, .int .u64 0] 81)) (w.heap.size + 1 + 1) 6 (fun _ => .int .u64 0) from z1.alloc _)
  have HZ2 := Lib.hid (show Row ((((w.alloc (.cells uu 81)).alloc (.cells vv 81)).alloc (.cells #[.int .u64 0, .int .u64 0, .int .u64 0, .int .u64 0, .int .u64 0, .int .u64 0] 81)).alloc (.cells #[.int .u64 0, .int .u64 0, .int .u64 0, .int .u64 0, .int .u64 0, .int .u64 0] 81)) (w.heap.size + 1 + 1 + 1) 6 (fun i => if i < 0 then .int .u64 (dg (U + V) i : Nat) else .int .u64 0) from z2.congr fun i _ => by simp)
  have HB := Lib.hid (show Below w.heap.size w ((((w.alloc (.cells uu 81)).alloc (.cells vv 81)).alloc (.cells #[.int .u64 0, .int .u64 0, .int .u64 0, .int .u64 0, .int .u64 0, .int .u64 0] 81)).alloc (.cells #[.int .u64 0, .int .u64 0, .int .u64 0, .int .u64 0, .int .u64 0, .int .u64 0] 81)) from ((((Below.refl _ w).alloc (Nat.le_refl _) _).alloc (by simp) _).alloc (by simp; omega) _).alloc (by simp; omega) _)
  clear hU hV huu hvv z1 z2
  go_enter Try.func91, Try.ntmps91
  go_wp2_with fail
  generalize ((((w.alloc (.cells uu 81)).alloc (.cells vv 81)).alloc (.cells #[.int .u64 0, .int .u64 0, .int .u64 0, .int .u64 0, .int .u64 0, .int .u64 0] 81)).alloc (.cells #[.int .u64 0, .int .u64 0, .int .u64 0, .int .u64 0, .int .u64 0, .int .u64 0] 81)) = wa at *
  go_loopw [6, 7] (fun c iv wr => ∃ i : Nat, i ≤ 6 ∧ iv = .int .i64 (i : Nat) ∧ c = .int .u64 (cy U V i : Nat) ∧ Hid (Row wr w.heap.size 6 (fun i => .int .u64 (dg U i : Nat))) ∧ Hid (Row wr (w.heap.size + 1) 6 (fun i => .int .u64 (dg V i : Nat))) ∧ Hid (Row wr (w.heap.size + 1 + 1) 6 (fun _ => .int .u64 0)) ∧
    Hid (Row wr (w.heap.size + 1 + 1 + 1) 6 (fun j => if j < i then .int .u64 (dg (U + V) j : Nat) else .int .u64 0)) ∧ Hid (Below w.heap.size w wr)) (fun _ iv _ => 6 - (intOf iv).toNat)
  case atStart => exact ⟨0, by omega, rfl, rfl, HU, HV, HZ1, HZ2, HB⟩
  case round =>
    clear HU HV HZ1 HZ2 HB
    obtain ⟨i, hi, rfl, rfl, HU, HV, HZ1, HZ2, HB⟩ := hrel
    by_cases hlt : i < 6
    · have c1 := HU.out.cell hlt
      have c2 := HV.out.cell hlt
      have c3 := HZ2.out.cell hlt
      rw [if_neg (Nat.lt_irrefl i)] at c3
      have f3 := HZ2.out.frozen i
      have hii : (0 : Int) ≤ i ∧ (i : Int) < 6 := by omega
      obtain ⟨x, hx⟩ : ∃ x, dg U i = x := ⟨_, rfl⟩
      obtain ⟨y, hy⟩ : ∃ y, dg V i = y := ⟨_, rfl⟩
      obtain ⟨c, hc⟩ : ∃ c, cy U V i = c := ⟨_, rfl⟩
      have hx1 := dg_lt U i; have hy1 := dg_lt V i; have hc1 := cy_le U V i
      have hn : cy U V (i + 1) = (dg U i + dg V i + cy U V i) / 4294967296 := rfl
      have hdg := dg_add U V i
      rw [hx] at c1 hx1; rw [hy] at c2 hy1; rw [hc] at hc1 ⊢
      rw [hx, hy, hc] at hn hdg
      have HN := Lib.hid (show (((x : Int) + y + c) / 4294967296) = ((cy U V (i + 1) : Nat) : Int) by omega)
      have HD := Lib.hid (show Value.int .u64 (((x : Int) + y + c) % 4294967296) = .int .u64 ((dg (U + V) i : Nat) : Int) by congr 1; omega)
      have w1 : IntKind.u64.wrap ((x : Int) + y) = (x : Int) + y := IntWalk.u64_in _ (by omega)
      have w2 : IntKind.u64.wrap ((x : Int) + y + c) = (x : Int) + y + c := IntWalk.u64_in _ (by omega)
      have p1 : (0 : Int) ≤ (x : Int) + y + c := by omega
      clear hx hy hc hn hdg
      go_wp2_with fail
      go_quiet (fail)
      go_wp2_with fail
      go_roundw
      case rel =>
        refine ⟨i + 1, by omega, by go_num, by rw [← HN.out], Lib.hid ((HU.out.drewN _).setOther (by show w.heap.size ≠ _; simp <;> omega) _), Lib.hid ((HV.out.drewN _).setOther (by show w.heap.size + 1 ≠ _; simp <;> omega) _), Lib.hid ((HZ1.out.drewN _).setOther (by show w.heap.size + 1 + 1 ≠ _; simp) _), Lib.hid (((HZ2.out.drewN _).set i _).congr fun j hj => ?_), Lib.hid ((below_drewN HB.out _).setCell (by show w.heap.size ≤ _; simp <;> omega) _)⟩
        by_cases e : j = i
        · subst e; rw [if_pos rfl, if_pos (by omega)]; exact HD.out
        · rw [if_neg e]
          by_cases e2 : j < i
          · rw [if_pos e2, if_pos (by omega)]
          · rw [if_neg e2, if_neg (by omega)]
      case measure => simp only [intOf]; omega
    · obtain rfl : i = 6 := by omega
      have r0 := HZ2.out.cell (i := 0) (by omega)
      have r1 := HZ2.out.cell (i := 1) (by omega)
      have r2 := HZ2.out.cell (i := 2) (by omega)
      have r3 := HZ2.out.cell (i := 3) (by omega)
      have r4 := HZ2.out.cell (i := 4) (by omega)
      have r5 := HZ2.out.cell (i := 5) (by omega)
      rw [if_pos (by omega)] at r0 r1 r2 r3 r4 r5
      have q0 := HZ1.out.cell (i := 0) (by omega)
      have q1 := HZ1.out.cell (i := 1) (by omega)
      have q2 := HZ1.out.cell (i := 2) (by omega)
      have q3 := HZ1.out.cell (i := 3) (by omega)
      have q4 := HZ1.out.cell (i := 4) (by omega)
      have q5 := HZ1.out.cell (i := 5) (by omega)
      have fz := fun i => HZ1.out.frozen i
      have HR := Lib.hid (show Row ((((((wr.setCell ⟨w.heap.size + 1 + 1, 0, none⟩ (.int .u64 (dg (U + V) 0 : Nat))).setCell ⟨w.heap.size + 1 + 1, 1, none⟩ (.int .u64 (dg (U + V) 1 : Nat))).setCell ⟨w.heap.size + 1 + 1, 2, none⟩ (.int .u64 (dg (U + V) 2 : Nat))).setCell ⟨w.heap.size + 1 + 1, 3, none⟩ (.int .u64 (dg (U + V) 3 : Nat))).setCell ⟨w.heap.size + 1 + 1, 4, none⟩ (.int .u64 (dg (U + V) 4 : Nat))).setCell ⟨w.heap.size + 1 + 1, 5, none⟩ (.int .u64 (dg (U + V) 5 : Nat))) (w.heap.size + 1 + 1) 6 (fun i => .int .u64 (dg (U + V) i : Nat)) from Row.congr ((((((HZ1.out.set 0 (.int .u64 (dg (U + V) 0 : Nat))).set 1 (.int .u64 (dg (U + V) 1 : Nat))).set 2 (.int .u64 (dg (U + V) 2 : Nat))).set 3 (.int .u64 (dg (U + V) 3 : Nat))).set 4 (.int .u64 (dg (U + V) 4 : Nat))).set 5 (.int .u64 (dg (U + V) 5 : Nat))) (fun i hi => by
        match i, hi with
        | 0, _ => rfl
        | 1, _ => rfl
        | 2, _ => rfl
        | 3, _ => rfl
        | 4, _ => rfl
        | 5, _ => rfl
        | n + 6, h => omega))
      have HB6 := Lib.hid (show Below w.heap.size w ((((((wr.setCell ⟨w.heap.size + 1 + 1, 0, none⟩ (.int .u64 (dg (U + V) 0 : Nat))).setCell ⟨w.heap.size + 1 + 1, 1, none⟩ (.int .u64 (dg (U + V) 1 : Nat))).setCell ⟨w.heap.size + 1 + 1, 2, none⟩ (.int .u64 (dg (U + V) 2 : Nat))).setCell ⟨w.heap.size + 1 + 1, 3, none⟩ (.int .u64 (dg (U + V) 3 : Nat))).setCell ⟨w.heap.size + 1 + 1, 4, none⟩ (.int .u64 (dg (U + V) 4 : Nat))).setCell ⟨w.heap.size + 1 + 1, 5, none⟩ (.int .u64 (dg (U + V) 5 : Nat))) from ((((((HB.out.setCell (p := ⟨w.heap.size + 1 + 1, 0, none⟩) (by show w.heap.size ≤ w.heap.size + 1 + 1; omega) _).setCell (p := ⟨w.heap.size + 1 + 1, 1, none⟩) (by show w.heap.size ≤ w.heap.size + 1 + 1; omega) _).setCell (p := ⟨w.heap.size + 1 + 1, 2, none⟩) (by show w.heap.size ≤ w.heap.size + 1 + 1; omega) _).setCell (p := ⟨w.heap.size + 1 + 1, 3, none⟩) (by show w.heap.size ≤ w.heap.size + 1 + 1; omega) _).setCell (p := ⟨w.heap.size + 1 + 1, 4, none⟩) (by show w.heap.size ≤ w.heap.size + 1 + 1; omega) _).setCell (p := ⟨w.heap.size + 1 + 1, 5, none⟩) (by show w.heap.size ≤ w.heap.size + 1 + 1; omega) _))
      go_wp2_with fail
      generalize ((((((wr.setCell ⟨w.heap.size + 1 + 1, 0, none⟩ (.int .u64 (dg (U + V) 0 : Nat))).setCell ⟨w.heap.size + 1 + 1, 1, none⟩ (.int .u64 (dg (U + V) 1 : Nat))).setCell ⟨w.heap.size + 1 + 1, 2, none⟩ (.int .u64 (dg (U + V) 2 : Nat))).setCell ⟨w.heap.size + 1 + 1, 3, none⟩ (.int .u64 (dg (U + V) 3 : Nat))).setCell ⟨w.heap.size + 1 + 1, 4, none⟩ (.int .u64 (dg (U + V) 4 : Nat))).setCell ⟨w.heap.size + 1 + 1, 5, none⟩ (.int .u64 (dg (U + V) 5 : Nat))) = wz at *
      have s0 := HR.out.cell (i := 0) (by omega)
      have s1 := HR.out.cell (i := 1) (by omega)
      have s2 := HR.out.cell (i := 2) (by omega)
      have s3 := HR.out.cell (i := 3) (by omega)
      have s4 := HR.out.cell (i := 4) (by omega)
      have s5 := HR.out.cell (i := 5) (by omega)
      exact bodyPost_ret (v := .agg (arrC (U + V))) (by simp [results, Try.results91, go_sem, s0, s1, s2, s3, s4, s5, arrC]) rfl ⟨rfl, HB6.out⟩
set_option maxRecDepth 100000 in
set_option maxHeartbeats 2000000 in
theorem rless_any (U V : Nat) (w : World) (h : V ≤ U) :
    Calls Try.prog 93 #[.agg (arrC U), .agg (arrC V)] w fun e w' => e = .returned (.agg (arrC (U - V))) ∧ Below w.heap.size w w' := by
  have H0 := Lib.hid h
  clear h
  have hU := arr_row w U 81
  have hV := arr_row (w.alloc (.cells (arrC U) 81)) V 81
  rw [World.size_alloc] at hV
  obtain ⟨uu, huu⟩ : ∃ x, arrC U = x := ⟨_, rfl⟩
  obtain ⟨vv, hvv⟩ : ∃ x, arrC V = x := ⟨_, rfl⟩
  rw [huu] at hU hV ⊢; rw [hvv] at hV ⊢
  have HU := Lib.hid (show Row ((((w.alloc (.cells uu 81)).alloc (.cells vv 81)).alloc (.cells #[.int .u64 0, .int .u64 0, .int .u64 0, .int .u64 0, .int .u64 0, .int .u64 0] 81)).alloc (.cells #[.int .u64 0, .int .u64 0, .int .u64 0, .int .u64 0, .int .u64 0, .int .u64 0] 81)) w.heap.size 6 (fun i => .int .u64 (dg U i : Nat)) from ((hU.alloc _).alloc _).alloc _)
  have HV := Lib.hid (show Row ((((w.alloc (.cells uu 81)).alloc (.cells vv 81)).alloc (.cells #[.int .u64 0, .int .u64 0, .int .u64 0, .int .u64 0, .int .u64 0, .int .u64 0] 81)).alloc (.cells #[.int .u64 0, .int .u64 0, .int .u64 0, .int .u64 0, .int .u64 0, .int .u64 0] 81)) (w.heap.size + 1) 6 (fun i => .int .u64 (dg V i : Nat)) from (hV.alloc _).alloc _)
  have z1 := zero_row ((w.alloc (.cells uu 81)).alloc (.cells vv 81)) 81
  have z2 := zero_row (((w.alloc (.cells uu 81)).alloc (.cells vv 81)).alloc (.cells #[.int .u64 0, .int .u64 0, .int .u64 0, .int .u64 0, .int .u64 0, .int .u64 0] 81)) 81
  simp only [World.size_alloc] at z1 z2
  have HZ1 := Lib.hid (show Row ((((w.alloc (.cells uu 81)).alloc (.cells vv 81)).alloc (.cells #[.int .u64 0, .int .u64 0, .int .u64 0, .int .u64 0, .int .u64 0, .int .u64 0] 81)).alloc (.cells #[.int .u64 0, .int .u64 0, .int .u64 0, .int .u64 0, .int .u64 0, .int .u64 0] 81)) (w.heap.size + 1 + 1) 6 (fun _ => .int .u64 0) from z1.alloc _)
  have HZ2 := Lib.hid (show Row ((((w.alloc (.cells uu 81)).alloc (.cells vv 81)).alloc (.cells #[.int .u64 0, .int .u64 0, .int .u64 0, .int .u64 0, .int .u64 0, .int .u64 0] 81)).alloc (.cells #[.int .u64 0, .int .u64 0, .int .u64 0, .int .u64 0, .int .u64 0, .int .u64 0] 81)) (w.heap.size + 1 + 1 + 1) 6 (fun i => if i < 0 then .int .u64 (dg (U - V) i : Nat) else .int .u64 0) from z2.congr fun i _ => by simp)
  have HB := Lib.hid (show Below w.heap.size w ((((w.alloc (.cells uu 81)).alloc (.cells vv 81)).alloc (.cells #[.int .u64 0, .int .u64 0, .int .u64 0, .int .u64 0, .int .u64 0, .int .u64 0] 81)).alloc (.cells #[.int .u64 0, .int .u64 0, .int .u64 0, .int .u64 0, .int .u64 0, .int .u64 0] 81)) from ((((Below.refl _ w).alloc (Nat.le_refl _) _).alloc (by simp) _).alloc (by simp; omega) _).alloc (by simp; omega) _)
  clear hU hV huu hvv z1 z2
  go_enter Try.func93, Try.ntmps93
  go_wp2_with fail
  generalize ((((w.alloc (.cells uu 81)).alloc (.cells vv 81)).alloc (.cells #[.int .u64 0, .int .u64 0, .int .u64 0, .int .u64 0, .int .u64 0, .int .u64 0] 81)).alloc (.cells #[.int .u64 0, .int .u64 0, .int .u64 0, .int .u64 0, .int .u64 0, .int .u64 0] 81)) = wa at *
  go_loopw [6, 7] (fun c iv wr => ∃ i : Nat, i ≤ 6 ∧ iv = .int .i64 (i : Nat) ∧ c = .int .u64 (bw U V i : Nat) ∧ Hid (Row wr w.heap.size 6 (fun i => .int .u64 (dg U i : Nat))) ∧ Hid (Row wr (w.heap.size + 1) 6 (fun i => .int .u64 (dg V i : Nat))) ∧ Hid (Row wr (w.heap.size + 1 + 1) 6 (fun _ => .int .u64 0)) ∧
    Hid (Row wr (w.heap.size + 1 + 1 + 1) 6 (fun j => if j < i then .int .u64 (dg (U - V) j : Nat) else .int .u64 0)) ∧ Hid (Below w.heap.size w wr)) (fun _ iv _ => 6 - (intOf iv).toNat)
  case atStart => exact ⟨0, by omega, rfl, rfl, HU, HV, HZ1, HZ2, HB⟩
  case round =>
    clear HU HV HZ1 HZ2 HB
    obtain ⟨i, hi, rfl, rfl, HU, HV, HZ1, HZ2, HB⟩ := hrel
    by_cases hlt : i < 6
    · have c1 := HU.out.cell hlt
      have c2 := HV.out.cell hlt
      have c3 := HZ2.out.cell hlt
      rw [if_neg (Nat.lt_irrefl i)] at c3
      have f3 := HZ2.out.frozen i
      have hii : (0 : Int) ≤ i ∧ (i : Int) < 6 := by omega
      obtain ⟨x, hx⟩ : ∃ x, dg U i = x := ⟨_, rfl⟩
      obtain ⟨y, hy⟩ : ∃ y, dg V i = y := ⟨_, rfl⟩
      obtain ⟨c, hc⟩ : ∃ c, bw U V i = c := ⟨_, rfl⟩
      have hx1 := dg_lt U i; have hy1 := dg_lt V i; have hc1 := bw_le U V i
      have hn : bw U V (i + 1) = 1 - (dg U i + 4294967296 - dg V i - bw U V i) / 4294967296 := rfl
      have hdg := dg_sub H0.out i
      rw [hx] at c1 hx1; rw [hy] at c2 hy1; rw [hc] at hc1 ⊢
      rw [hx, hy, hc] at hn hdg
      have HN := Lib.hid (show 1 - (((x : Int) + 4294967296 - y - c) / 4294967296) = ((bw U V (i + 1) : Nat) : Int) by omega)
      have HD := Lib.hid (show Value.int .u64 (((x : Int) + 4294967296 - y - c) % 4294967296) = .int .u64 ((dg (U - V) i : Nat) : Int) by congr 1; omega)
      have w1 : IntKind.u64.wrap ((x : Int) + 4294967296) = (x : Int) + 4294967296 := IntWalk.u64_in _ (by omega)
      have w2 : IntKind.u64.wrap ((x : Int) + 4294967296 - y) = (x : Int) + 4294967296 - y := IntWalk.u64_in _ (by omega)
      have w3 : IntKind.u64.wrap ((x : Int) + 4294967296 - y - c) = (x : Int) + 4294967296 - y - c := IntWalk.u64_in _ (by omega)
      have w4 : IntKind.u64.wrap (1 - ((x : Int) + 4294967296 - y - c) / 4294967296) = 1 - ((x : Int) + 4294967296 - y - c) / 4294967296 := IntWalk.u64_in _ (by omega)
      have p1 : (0 : Int) ≤ (x : Int) + 4294967296 - y - c := by omega
      clear hx hy hc hn hdg
      go_wp2_with fail
      go_quiet (fail)
      go_wp2_with fail
      go_roundw
      case rel =>
        refine ⟨i + 1, by omega, by go_num, by rw [← HN.out], Lib.hid ((HU.out.drewN _).setOther (by show w.heap.size ≠ _; simp <;> omega) _), Lib.hid ((HV.out.drewN _).setOther (by show w.heap.size + 1 ≠ _; simp <;> omega) _), Lib.hid ((HZ1.out.drewN _).setOther (by show w.heap.size + 1 + 1 ≠ _; simp) _), Lib.hid (((HZ2.out.drewN _).set i _).congr fun j hj => ?_), Lib.hid ((below_drewN HB.out _).setCell (by show w.heap.size ≤ _; simp <;> omega) _)⟩
        by_cases e : j = i
        · subst e; rw [if_pos rfl, if_pos (by omega)]; exact HD.out
        · rw [if_neg e]
          by_cases e2 : j < i
          · rw [if_pos e2, if_pos (by omega)]
          · rw [if_neg e2, if_neg (by omega)]
      case measure => simp only [intOf]; omega
    · obtain rfl : i = 6 := by omega
      have r0 := HZ2.out.cell (i := 0) (by omega)
      have r1 := HZ2.out.cell (i := 1) (by omega)
      have r2 := HZ2.out.cell (i := 2) (by omega)
      have r3 := HZ2.out.cell (i := 3) (by omega)
      have r4 := HZ2.out.cell (i := 4) (by omega)
      have r5 := HZ2.out.cell (i := 5) (by omega)
      rw [if_pos (by omega)] at r0 r1 r2 r3 r4 r5
      have q0 := HZ1.out.cell (i := 0) (by omega)
      have q1 := HZ1.out.cell (i := 1) (by omega)
      have q2 := HZ1.out.cell (i := 2) (by omega)
      have q3 := HZ1.out.cell (i := 3) (by omega)
      have q4 := HZ1.out.cell (i := 4) (by omega)
      have q5 := HZ1.out.cell (i := 5) (by omega)
      have fz := fun i => HZ1.out.frozen i
      have HR := Lib.hid (show Row ((((((wr.setCell ⟨w.heap.size + 1 + 1, 0, none⟩ (.int .u64 (dg (U - V) 0 : Nat))).setCell ⟨w.heap.size + 1 + 1, 1, none⟩ (.int .u64 (dg (U - V) 1 : Nat))).setCell ⟨w.heap.size + 1 + 1, 2, none⟩ (.int .u64 (dg (U - V) 2 : Nat))).setCell ⟨w.heap.size + 1 + 1, 3, none⟩ (.int .u64 (dg (U - V) 3 : Nat))).setCell ⟨w.heap.size + 1 + 1, 4, none⟩ (.int .u64 (dg (U - V) 4 : Nat))).setCell ⟨w.heap.size + 1 + 1, 5, none⟩ (.int .u64 (dg (U - V) 5 : Nat))) (w.heap.size + 1 + 1) 6 (fun i => .int .u64 (dg (U - V) i : Nat)) from Row.congr ((((((HZ1.out.set 0 (.int .u64 (dg (U - V) 0 : Nat))).set 1 (.int .u64 (dg (U - V) 1 : Nat))).set 2 (.int .u64 (dg (U - V) 2 : Nat))).set 3 (.int .u64 (dg (U - V) 3 : Nat))).set 4 (.int .u64 (dg (U - V) 4 : Nat))).set 5 (.int .u64 (dg (U - V) 5 : Nat))) (fun i hi => by
        match i, hi with
        | 0, _ => rfl
        | 1, _ => rfl
        | 2, _ => rfl
        | 3, _ => rfl
        | 4, _ => rfl
        | 5, _ => rfl
        | n + 6, h => omega))
      have HB6 := Lib.hid (show Below w.heap.size w ((((((wr.setCell ⟨w.heap.size + 1 + 1, 0, none⟩ (.int .u64 (dg (U - V) 0 : Nat))).setCell ⟨w.heap.size + 1 + 1, 1, none⟩ (.int .u64 (dg (U - V) 1 : Nat))).setCell ⟨w.heap.size + 1 + 1, 2, none⟩ (.int .u64 (dg (U - V) 2 : Nat))).setCell ⟨w.heap.size + 1 + 1, 3, none⟩ (.int .u64 (dg (U - V) 3 : Nat))).setCell ⟨w.heap.size + 1 + 1, 4, none⟩ (.int .u64 (dg (U - V) 4 : Nat))).setCell ⟨w.heap.size + 1 + 1, 5, none⟩ (.int .u64 (dg (U - V) 5 : Nat))) from ((((((HB.out.setCell (p := ⟨w.heap.size + 1 + 1, 0, none⟩) (by show w.heap.size ≤ w.heap.size + 1 + 1; omega) _).setCell (p := ⟨w.heap.size + 1 + 1, 1, none⟩) (by show w.heap.size ≤ w.heap.size + 1 + 1; omega) _).setCell (p := ⟨w.heap.size + 1 + 1, 2, none⟩) (by show w.heap.size ≤ w.heap.size + 1 + 1; omega) _).setCell (p := ⟨w.heap.size + 1 + 1, 3, none⟩) (by show w.heap.size ≤ w.heap.size + 1 + 1; omega) _).setCell (p := ⟨w.heap.size + 1 + 1, 4, none⟩) (by show w.heap.size ≤ w.heap.size + 1 + 1; omega) _).setCell (p := ⟨w.heap.size + 1 + 1, 5, none⟩) (by show w.heap.size ≤ w.heap.size + 1 + 1; omega) _))
      go_wp2_with fail
      generalize ((((((wr.setCell ⟨w.heap.size + 1 + 1, 0, none⟩ (.int .u64 (dg (U - V) 0 : Nat))).setCell ⟨w.heap.size + 1 + 1, 1, none⟩ (.int .u64 (dg (U - V) 1 : Nat))).setCell ⟨w.heap.size + 1 + 1, 2, none⟩ (.int .u64 (dg (U - V) 2 : Nat))).setCell ⟨w.heap.size + 1 + 1, 3, none⟩ (.int .u64 (dg (U - V) 3 : Nat))).setCell ⟨w.heap.size + 1 + 1, 4, none⟩ (.int .u64 (dg (U - V) 4 : Nat))).setCell ⟨w.heap.size + 1 + 1, 5, none⟩ (.int .u64 (dg (U - V) 5 : Nat))) = wz at *
      have s0 := HR.out.cell (i := 0) (by omega)
      have s1 := HR.out.cell (i := 1) (by omega)
      have s2 := HR.out.cell (i := 2) (by omega)
      have s3 := HR.out.cell (i := 3) (by omega)
      have s4 := HR.out.cell (i := 4) (by omega)
      have s5 := HR.out.cell (i := 5) (by omega)
      exact bodyPost_ret (v := .agg (arrC (U - V))) (by simp [results, Try.results93, go_sem, s0, s1, s2, s3, s4, s5, arrC]) rfl ⟨rfl, HB6.out⟩

/-- what size answers -/
def szv (U V : Nat) : Int := if U < V then -1 else if V < U then 1 else 0
set_option maxRecDepth 100000 in
set_option maxHeartbeats 2000000 in
theorem rsize_any (U V : Nat) (w : World) (hFU : Fit U) (hFV : Fit V) :
    Calls Try.prog 92 #[.agg (arrC U), .agg (arrC V)] w fun e w' => e = .returned (.int .i64 (szv U V)) ∧ Below w.heap.size w w' := by
  have hU := arr_row w U 81
  have hV := arr_row (w.alloc (.cells (arrC U) 81)) V 81
  rw [World.size_alloc] at hV
  obtain ⟨uu, huu⟩ : ∃ x, arrC U = x := ⟨_, rfl⟩
  obtain ⟨vv, hvv⟩ : ∃ x, arrC V = x := ⟨_, rfl⟩
  rw [huu] at hU hV ⊢; rw [hvv] at hV ⊢
  have HU := Lib.hid (show Row ((w.alloc (.cells uu 81)).alloc (.cells vv 81)) w.heap.size 6 (fun i => .int .u64 (dg U i : Nat)) from hU.alloc _)
  have HV := Lib.hid hV
  have HB := Lib.hid (show Below w.heap.size w ((w.alloc (.cells uu 81)).alloc (.cells vv 81)) from ((Below.refl _ w).alloc (Nat.le_refl _) _).alloc (by simp) _)
  have HE := Lib.hid (show up U (5 + 1) = up V (5 + 1) from hFU.trans hFV.symm)
  clear hU hV huu hvv hFU hFV
  go_enter Try.func92, Try.ntmps92
  go_wp2_with fail
  generalize (w.alloc (.cells uu 81)).alloc (.cells vv 81) = wa at *
  go_loopw [5] (fun iv wr => ∃ i : Nat, i ≤ 6 ∧ iv = .int .i64 ((i : Int) - 1) ∧ Hid (up U i = up V i) ∧ Hid (∃ m, wr = wa.drewN m)) (fun iv _ => (intOf iv + 1).toNat)
  case atStart => exact ⟨6, by omega, rfl, HE, Lib.hid ⟨0, rfl⟩⟩
  case round =>
    obtain ⟨i, hi, rfl, HQ, HW⟩ := hrel
    cases i with
    | zero =>
      go_wp2_with fail
      go_ret
      have h1 := HQ.out
      have h2 : U = V := h1
      refine ⟨?_, ?_⟩
      · unfold szv; rw [h2, if_neg (Nat.lt_irrefl _), if_neg (Nat.lt_irrefl _)]; rfl
      · obtain ⟨m, rfl⟩ := HW.out; exact below_drewN HB.out _
    | succ i =>
      have hiv : (((i + 1 : Nat) : Int) - 1) = (i : Nat) := by omega
      rw [hiv]
      have hlt : i < 6 := by omega
      have hii : (0 : Int) ≤ i ∧ (i : Int) < 6 := by omega
      have c1 : wr.cell? ⟨w.heap.size, i, none⟩ = some (.int .u64 (dg U i : Nat)) := by obtain ⟨m, rfl⟩ := HW.out; exact HU.out.cell hlt
      have c2 : wr.cell? ⟨w.heap.size + 1, i, none⟩ = some (.int .u64 (dg V i : Nat)) := by obtain ⟨m, rfl⟩ := HW.out; exact HV.out.cell hlt
      have hb : Below w.heap.size w wr := by obtain ⟨m, rfl⟩ := HW.out; exact below_drewN HB.out _
      obtain ⟨x, hx⟩ : ∃ x, dg U i = x := ⟨_, rfl⟩
      obtain ⟨y, hy⟩ : ∃ y, dg V i = y := ⟨_, rfl⟩
      rw [hx] at c1; rw [hy] at c2
      have HX := Lib.hid hx; have HY := Lib.hid hy
      clear hx hy hiv
      by_cases h1 : x < y
      · have d1 : decide ((x : Int) < (y : Int)) = true := decide_eq_true (by omega)
        have d2 : decide (x < y) = true := decide_eq_true h1
        have HL := Lib.hid (up_lt_of HQ.out (by rw [HX.out, HY.out]; exact h1))
        clear h1
        go_wp2_with fail
        go_quiet (fail)
        go_wp2_with fail
        go_ret
        exact ⟨by unfold szv; rw [if_pos HL.out]; rfl, below_drewN hb _⟩
      · have d1 : decide ((x : Int) < (y : Int)) = false := decide_eq_false (by omega)
        have d2 : decide (x < y) = false := decide_eq_false h1
        by_cases h2 : y < x
        · have d3 : decide ((x : Int) > (y : Int)) = true := decide_eq_true (by omega)
          have d4 : decide (y < x) = true := decide_eq_true h2
          have HL := Lib.hid (up_lt_of HQ.out.symm (by rw [HX.out, HY.out]; exact h2))
          clear h1 h2
          go_wp2_with fail
          go_quiet (fail)
          go_wp2_with fail
          go_quiet (fail)
          go_wp2_with fail
          go_ret
          exact ⟨by unfold szv; rw [if_neg (by have := HL.out; omega), if_pos HL.out]; rfl, below_drewN (below_drewN hb _) _⟩
        · have d3 : decide ((x : Int) > (y : Int)) = false := decide_eq_false (by omega)
          have d4 : decide (y < x) = false := decide_eq_false h2
          have HL := Lib.hid (up_eq_of HQ.out (by rw [HX.out, HY.out]; omega))
          clear h1 h2
          go_wp2_with fail
          go_quiet (fail)
          go_wp2_with fail
          go_quiet (fail)
          go_wp2_with fail
          go_roundw
          case rel =>
            refine ⟨i, by omega, rfl, HL, Lib.hid ?_⟩
            obtain ⟨m, rfl⟩ := HW.out
            exact ⟨_, World.drewN_drewN _ _ _⟩
          case measure => simp only [intOf]; omega
end Go.Proofs.Ytbmcflmflmlmaaa
