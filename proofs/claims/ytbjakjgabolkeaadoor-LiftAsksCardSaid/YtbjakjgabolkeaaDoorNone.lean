/- What the methods of both packages answer where there is no table: the pointer is nil, or the table was not made by New. No conditions. -/
import Derived.Test.YtbjakjgabolkeaaDoorRef3
namespace Go.Proofs.YtbjakjgabolkeaaDoor
open Go.RowKit Go.Shelf

/-- no table: nil, or one that was not made -/
def NoTab (w : World) (B : Nat) (v : Value) : Prop := v = .pointer none ∨ ∃ b, b < B ∧ v = .pointer (some ⟨b, 0, none⟩) ∧ w.cell? ⟨b, 0, none⟩ = some (.bool false)
theorem NoTab.below {w w' : World} {B : Nat} {v : Value} (h : NoTab w B v) (hb : Below B w w') : NoTab w' B v := by
  rcases h with h | ⟨b, h1, h2, h3⟩
  · exact .inl h
  · exact .inr ⟨b, h1, h2, by rw [hb.cell h1]; exact h3⟩

theorem len_no {w : World} {B : Nat} {v : Value} (h : NoTab w B v) : Calls Tryd.prog 25 #[v] w fun e w' => e = .returned (.int .i64 0) ∧ w = w' := by
  rcases h with rfl | ⟨b, _, rfl, hc⟩
  all_goals go_enter Tryd.func25, Tryd.ntmps25
  all_goals go_wp2
  all_goals go_ret
  all_goals exact ⟨rfl, rfl⟩
theorem has_no {w : World} {B : Nat} {v : Value} {x : Int} (h : NoTab w B v) : Calls Tryd.prog 26 #[v, .int .i64 x] w fun e w' => e = .returned (.bool false) ∧ w = w' := by
  by_cases h0 : 0 ≤ x
  · go_enter Tryd.func26, Tryd.ntmps26
    go_wp2_with fail
    refine (len_no h).mono ?_
    rintro e w' ⟨rfl, rfl⟩
    go_wp2_with fail
    go_ret
    exact ⟨by simp [h0], rfl⟩
  · go_enter Tryd.func26, Tryd.ntmps26
    go_wp2
    go_ret
    exact ⟨rfl, rfl⟩
theorem depth_no {w : World} {B : Nat} {v : Value} {x : Int} (h : NoTab w B v) : Calls Tryd.prog 16 #[v, .int .i64 x] w fun e w' => e = .returned (.int .i64 0) ∧ w = w' := by
  go_enter Tryd.func16, Tryd.ntmps16
  go_wp2_with fail
  refine (has_no h).mono ?_
  rintro e w' ⟨rfl, rfl⟩
  go_wp2
  go_ret
  exact ⟨rfl, rfl⟩
theorem above_no {w : World} {B : Nat} {v : Value} {x y : Int} (h : NoTab w B v) : Calls Tryd.prog 18 #[v, .int .i64 x, .int .i64 y] w fun e w' => e = .returned (.bool false) ∧ w = w' := by
  go_enter Tryd.func18, Tryd.ntmps18
  go_wp2_with fail
  refine (has_no h).mono ?_
  rintro e w' ⟨rfl, rfl⟩
  go_wp2_with fail
  go_ret
  exact ⟨rfl, rfl⟩
theorem common_no {w : World} {B : Nat} {v : Value} {x y : Int} (h : NoTab w B v) : Calls Tryd.prog 14 #[v, .int .i64 x, .int .i64 y] w fun e w' => e = .returned (.tuple #[.int .i64 0, .bool false]) ∧ w = w' := by
  go_enter Tryd.func14, Tryd.ntmps14
  go_wp2_with fail
  refine (has_no h).mono ?_
  rintro e w' ⟨rfl, rfl⟩
  go_wp2_with fail
  go_ret2
  exact ⟨rfl, rfl⟩
theorem dist_no {w : World} {B : Nat} {v : Value} {x y : Int} (h : NoTab w B v) : Calls Tryd.prog 15 #[v, .int .i64 x, .int .i64 y] w fun e w' => e = .returned (.tuple #[.int .i64 0, .bool false]) ∧ w = w' := by
  go_enter Tryd.func15, Tryd.ntmps15
  go_wp2_with fail
  refine (common_no h).mono ?_
  rintro e w' ⟨rfl, rfl⟩
  go_wp2_with fail
  go_ret2
  exact ⟨rfl, rfl⟩
set_option maxHeartbeats 1000000 in
theorem up_no' {w : World} {B : Nat} {v : Value} {x k : Int} (h : NoTab w B v) (hB : B ≤ w.heap.size) : Calls Tryd.prog 20 #[v, .int .i64 x, .int .i64 k] w fun e w' => e = .returned (.tuple #[.int .i64 0, .bool false]) ∧ Below w.heap.size w w' := by
  have hB2 : Below w.heap.size w ((w.alloc (.cells #[v] 24)).alloc (.cells #[.int .i64 x] 3)) := ((Below.refl _ w).alloc (Nat.le_refl _) _).alloc (by simp) _
  have h2 := (h.below (hB2.mono hB))
  rcases h2 with rfl | ⟨b, hbB, rfl, hc⟩
  · have hN : ∀ n, NoTab (((w.alloc (.cells #[.pointer none] 24)).alloc (.cells #[.int .i64 x] 3)).drewN n) B (.pointer none) := fun n => .inl rfl
    refine (callsIn_wide (n := 5)).1 ?_
    refine callsIn_of_wp_marks Tryd.func20 rfl trivial ?_ rfl
    simp only [Tryd.ntmps20, List.size_toArray, List.length_cons, List.length_nil, Nat.reduceAdd, Nat.reduceSub, Array.replicate_succ, Array.replicate_zero, List.push_toArray, List.append_toArray, List.nil_append, List.cons_append]
    gi_wp2
    have hwide : ∀ f, Fence.wide.fn f := fun _ => trivial
    gi_big_quiet_th ((gi_at_call 26; exact quiet_same_in (has_no (hN _))))
    gi_wp2
    exact ⟨_, results_tmp2 rfl _ _ _, rfl, below_drewN hB2 _⟩
  · have hN : ∀ n, NoTab (((w.alloc (.cells #[.pointer (some ⟨b, 0, none⟩)] 24)).alloc (.cells #[.int .i64 x] 3)).drewN n) B (.pointer (some ⟨b, 0, none⟩)) := fun n => .inr ⟨b, hbB, rfl, hc⟩
    refine (callsIn_wide (n := 5)).1 ?_
    refine callsIn_of_wp_marks Tryd.func20 rfl trivial ?_ rfl
    simp only [Tryd.ntmps20, List.size_toArray, List.length_cons, List.length_nil, Nat.reduceAdd, Nat.reduceSub, Array.replicate_succ, Array.replicate_zero, List.push_toArray, List.append_toArray, List.nil_append, List.cons_append]
    gi_wp2
    have hwide : ∀ f, Fence.wide.fn f := fun _ => trivial
    gi_big_quiet_th ((gi_at_call 26; exact quiet_same_in (has_no (hN _))))
    gi_wp2
    exact ⟨_, results_tmp2 rfl _ _ _, rfl, below_drewN hB2 _⟩
theorem root_no {w : World} {B : Nat} {v : Value} {x : Int} (h : NoTab w B v) (hB : B ≤ w.heap.size) : Calls Tryd.prog 19 #[v, .int .i64 x] w fun e w' => e = .returned (.tuple #[.int .i64 0, .bool false]) ∧ Below w.heap.size w w' := by
  go_enter Tryd.func19, Tryd.ntmps19
  go_wp2_with fail
  refine (depth_no h).mono ?_
  rintro e w' ⟨rfl, rfl⟩
  go_wp2_with fail
  refine (up_no' h hB).mono ?_
  rintro e w' ⟨rfl, hb⟩
  go_wp2_with fail
  go_ret2
  exact ⟨rfl, hb⟩
set_option maxHeartbeats 1000000 in
theorem climb_no {w : World} {B : Nat} {v : Value} {x m : Int} {a : Option Addr} {n cap : Nat} (h : NoTab w B v) (hB : B ≤ w.heap.size) : Calls Tryd.prog 24 #[v, .int .i64 x, .slice a n cap, .int .i64 m] w fun e w' => e = .returned (.tuple #[.int .i64 0, .int .i64 1]) ∧ Below w.heap.size w w' := by
  have hB0 : Below w.heap.size w (((w.alloc (.cells #[v] 24)).alloc (.cells #[.slice a n cap] 40)).alloc (.cells #[.int .i64 m] 2)) :=
    (((Below.refl _ w).alloc (Nat.le_refl _) _).alloc (by simp) _).alloc (by simp; omega) _
  have h2 := (h.below (hB0.mono hB))
  rcases h2 with rfl | ⟨b, hbB, rfl, hc⟩
  · go_enter Tryd.func24, Tryd.ntmps24
    go_wp2_with fail
    go_ret2
    exact ⟨rfl, hB0⟩
  · go_enter Tryd.func24, Tryd.ntmps24
    go_wp2_with fail
    go_ret2
    exact ⟨rfl, hB0⟩

/-- the document's side: its pointer is nil -/
theorem node_nil {w : World} {x : Int} : Calls Tryd.prog 40 #[.pointer none, .int .i64 x] w fun e w' => e = .returned (.bool false) ∧ w = w' := by
  go_enter Tryd.func40, Tryd.ntmps40
  go_wp2
  go_ret
  exact ⟨rfl, rfl⟩
theorem len_nil {w : World} : Calls Tryd.prog 30 #[.pointer none] w fun e w' => e = .returned (.int .i64 0) ∧ w = w' := by
  go_enter Tryd.func30, Tryd.ntmps30
  go_wp2
  go_ret
  exact ⟨rfl, rfl⟩
theorem line_nil {w : World} {x : Int} : Calls Tryd.prog 41 #[.pointer none, .int .i64 x] w fun e w' => e = .returned (.slice none 0 0) ∧ w = w' := by
  go_enter Tryd.func41, Tryd.ntmps41
  go_wp2_with fail
  refine node_nil.mono ?_
  rintro e w' ⟨rfl, rfl⟩
  go_wp2
  go_ret
  exact ⟨rfl, rfl⟩
theorem depth_nil {w : World} {x : Int} : Calls Tryd.prog 31 #[.pointer none, .int .i64 x] w fun e w' => e = .returned (.int .i64 0) ∧ w = w' := by
  go_enter Tryd.func31, Tryd.ntmps31
  go_wp2_with fail
  refine node_nil.mono ?_
  rintro e w' ⟨rfl, rfl⟩
  go_wp2
  go_ret
  exact ⟨rfl, rfl⟩
theorem up_nil {w : World} {x k : Int} : Calls Tryd.prog 33 #[.pointer none, .int .i64 x, .int .i64 k] w fun e w' => e = .returned (.tuple #[.int .i64 0, .bool false]) ∧ w = w' := by
  by_cases hk : k < 0
  · go_enter Tryd.func33, Tryd.ntmps33
    go_wp2_with fail
    refine line_nil.mono ?_
    rintro e w' ⟨rfl, rfl⟩
    go_wp2
    go_ret2
    exact ⟨rfl, rfl⟩
  · have hk' : 0 ≤ k := by omega
    go_enter Tryd.func33, Tryd.ntmps33
    go_wp2_with fail
    refine line_nil.mono ?_
    rintro e w' ⟨rfl, rfl⟩
    go_wp2
    go_ret2
    exact ⟨rfl, rfl⟩
theorem root_nil {w : World} {x : Int} : Calls Tryd.prog 29 #[.pointer none, .int .i64 x] w fun e w' => e = .returned (.tuple #[.int .i64 0, .bool false]) ∧ w = w' := by
  go_enter Tryd.func29, Tryd.ntmps29
  go_wp2_with fail
  refine depth_nil.mono ?_
  rintro e w' ⟨rfl, rfl⟩
  go_wp2_with fail
  refine up_nil.mono ?_
  rintro e w' ⟨rfl, rfl⟩
  go_wp2_with fail
  go_ret2
  exact ⟨rfl, rfl⟩
theorem above_nil {w : World} {x y : Int} : Calls Tryd.prog 32 #[.pointer none, .int .i64 x, .int .i64 y] w fun e w' => e = .returned (.bool false) ∧ w = w' := by
  go_enter Tryd.func32, Tryd.ntmps32
  go_wp2_with fail
  refine line_nil.mono ?_
  rintro e w' ⟨rfl, rfl⟩
  go_wp2_with fail
  go_loop [8] (fun i => i = .int .i64 0) (fun i => 0)
  case atStart => rfl
  case round =>
    obtain rfl := hrel
    go_wp2
    go_ret
    exact ⟨rfl, rfl⟩
theorem common_nil {w : World} {x y : Int} : Calls Tryd.prog 34 #[.pointer none, .int .i64 x, .int .i64 y] w fun e w' => e = .returned (.tuple #[.int .i64 0, .bool false]) ∧ w = w' := by
  go_enter Tryd.func34, Tryd.ntmps34
  go_wp2_with fail
  refine line_nil.mono ?_
  rintro e w' ⟨rfl, rfl⟩
  go_wp2_with fail
  refine line_nil.mono ?_
  rintro e w' ⟨rfl, rfl⟩
  go_wp2_with fail
  go_loop [10] (fun i => i = .int .i64 0) (fun i => 0)
  case atStart => rfl
  case round =>
    obtain rfl := hrel
    go_wp2
    go_ret2
    exact ⟨rfl, rfl⟩
theorem dist_nil {w : World} {x y : Int} : Calls Tryd.prog 35 #[.pointer none, .int .i64 x, .int .i64 y] w fun e w' => e = .returned (.tuple #[.int .i64 0, .bool false]) ∧ w = w' := by
  go_enter Tryd.func35, Tryd.ntmps35
  go_wp2_with fail
  refine common_nil.mono ?_
  rintro e w' ⟨rfl, rfl⟩
  go_wp2_with fail
  go_ret2
  exact ⟨rfl, rfl⟩
theorem climb_nil {w : World} {x m : Int} {a : Option Addr} {n cap : Nat} : Calls Tryd.prog 36 #[.pointer none, .int .i64 x, .slice a n cap, .int .i64 m] w fun e w' => e = .returned (.tuple #[.int .i64 0, .int .i64 1]) ∧ w = w' := by
  go_enter Tryd.func36, Tryd.ntmps36
  go_wp2_with fail
  go_ret2
  exact ⟨rfl, rfl⟩
end Go.Proofs.YtbjakjgabolkeaaDoor
