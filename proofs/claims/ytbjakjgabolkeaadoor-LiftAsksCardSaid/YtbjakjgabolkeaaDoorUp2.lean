/- The walk of Up. Conditions: the table was made by New; the library's table of de Bruijn is as its initialiser lays it. -/
import Derived.Test.YtbjakjgabolkeaaDoorOnes
import Derived.BigQuiet
import Derived.Deep.QuietTactic
import Derived.Sort.BigQuietIn
namespace Go.Proofs.YtbjakjgabolkeaaDoor
open Go.RowKit Go.Shelf
attribute [local go_sem] Oper.semAt_some

set_option maxHeartbeats 400000 in
theorem ones_any (k : Int) (w : World) :
    Calls Tryd.prog 28 #[.int .i64 k] w fun e w' => e = .returned (.func (.func 38) #[] #[.pointer (some ⟨w.heap.size, 0, none⟩)]) ∧ w.alloc (.cells #[.int .i64 k] 3) = w' := by
  go_enter Tryd.func28, Tryd.ntmps28
  go_wp2
  go_ret
  exact ⟨rfl, rfl⟩

/-- where Up answers -/
def upB (p : List Int) (v k : Int) : Bool := inB p v && decide (0 ≤ k) && decide (k ≤ dp p v.toNat)
/-- what Up answers -/
def upV (p : List Int) (v k : Int) : Int := if upB p v k then oi (anc p k.toNat v.toNat) else 0

theorem quiet_same {f : FuncId} {args : Array Value} {w : World} {n : Nat} {v : Value}
    (h : Calls Tryd.prog f args (w.drewN n) fun e w' => e = .returned v ∧ w.drewN n = w') : Calls Tryd.prog f args (w.drewN n) fun e w'' => e = .returned v ∧ ∃ m, w'' = w.drewN m :=
  h.mono fun _ _ ⟨he, hm⟩ => ⟨he, n, hm.symm⟩
theorem quiet_same_in {r : Nat} {f : FuncId} {args : Array Value} {w : World} {n : Nat} {v : Value}
    (h : Calls Tryd.prog f args (w.drewN n) fun e w' => e = .returned v ∧ w.drewN n = w') : CallsIn Fence.wide r Tryd.prog f args (w.drewN n) fun e w'' => e = .returned v ∧ ∃ m, w'' = w.drewN m :=
  callsIn_wide.2 (quiet_same h)
theorem TabAt.drewN {w : World} {B b : Nat} {p : List Int} (h : TabAt w B b p) (n : Nat) : TabAt (w.drewN n) B b p := h.below (below_drewN (Below.refl _ _) n)

set_option maxHeartbeats 1000000 in
theorem up_out (b B : Nat) (p : List Int) (v k : Int) (w : World) (h : TabAt w B b p) (hBw : B ≤ w.heap.size) (hv : inB p v = false) :
    Calls Tryd.prog 20 #[.pointer (some ⟨b, 0, none⟩), .int .i64 v, .int .i64 k] w fun e w' => e = .returned (.tuple #[.int .i64 0, .bool false]) ∧ Below w.heap.size w w' := by
  have hB2 : Below w.heap.size w ((w.alloc (.cells #[.pointer (some ⟨b, 0, none⟩)] 24)).alloc (.cells #[.int .i64 v] 3)) := ((Below.refl _ w).alloc (Nat.le_refl _) _).alloc (by simp) _
  have h2 := (h.below (hB2.mono hBw))
  have H := Lib.hid hv
  clear hv
  refine (callsIn_wide (n := 5)).1 ?_
  refine callsIn_of_wp_marks Tryd.func20 rfl trivial ?_ rfl
  simp only [Tryd.ntmps20, List.size_toArray, List.length_cons, List.length_nil, Nat.reduceAdd, Nat.reduceSub, Array.replicate_succ, Array.replicate_zero, List.push_toArray, List.append_toArray, List.nil_append, List.cons_append]
  gi_wp2
  have hwide : ∀ f, Fence.wide.fn f := fun _ => trivial
  gi_big_quiet_th ((gi_at_call 26; exact quiet_same_in (has_is H.out (h2.drewN _))))
  gi_wp2
  exact ⟨_, results_tmp2 rfl _ _ _, rfl, below_drewN hB2 _⟩

set_option maxHeartbeats 1000000 in
theorem up_neg (b B : Nat) (p : List Int) (v k : Int) (w : World) (h : TabAt w B b p) (hBw : B ≤ w.heap.size) (hv : inB p v = true) (hk : k < 0) :
    Calls Tryd.prog 20 #[.pointer (some ⟨b, 0, none⟩), .int .i64 v, .int .i64 k] w fun e w' => e = .returned (.tuple #[.int .i64 0, .bool false]) ∧ Below w.heap.size w w' := by
  have hB2 : Below w.heap.size w ((w.alloc (.cells #[.pointer (some ⟨b, 0, none⟩)] 24)).alloc (.cells #[.int .i64 v] 3)) := ((Below.refl _ w).alloc (Nat.le_refl _) _).alloc (by simp) _
  have h2 := (h.below (hB2.mono hBw))
  have H := Lib.hid hv
  clear hv
  refine (callsIn_wide (n := 5)).1 ?_
  refine callsIn_of_wp_marks Tryd.func20 rfl trivial ?_ rfl
  simp only [Tryd.ntmps20, List.size_toArray, List.length_cons, List.length_nil, Nat.reduceAdd, Nat.reduceSub, Array.replicate_succ, Array.replicate_zero, List.push_toArray, List.append_toArray, List.nil_append, List.cons_append]
  gi_wp2
  have hwide : ∀ f, Fence.wide.fn f := fun _ => trivial
  have hd : decide (k < 0) = true := by simpa using hk
  gi_big_quiet_th ((gi_at_call 26; exact quiet_same_in (has_is H.out (h2.drewN _))))
  gi_wp2
  exact ⟨_, results_tmp2 rfl _ _ _, rfl, below_drewN hB2 _⟩

set_option maxHeartbeats 1000000 in
theorem up_far (b B : Nat) (p : List Int) (u : Nat) (k : Int) (w : World) (h : TabAt w B b p) (hBw : B ≤ w.heap.size) (hu : u < p.length) (hk : 0 ≤ k) (hf : (dp p u : Int) < k) :
    Calls Tryd.prog 20 #[.pointer (some ⟨b, 0, none⟩), .int .i64 u, .int .i64 k] w fun e w' => e = .returned (.tuple #[.int .i64 0, .bool false]) ∧ Below w.heap.size w w' := by
  have hB2 : Below w.heap.size w ((w.alloc (.cells #[.pointer (some ⟨b, 0, none⟩)] 24)).alloc (.cells #[.int .i64 u] 3)) := ((Below.refl _ w).alloc (Nat.le_refl _) _).alloc (by simp) _
  have h2 := (h.below (hB2.mono hBw))
  have H := Lib.hid (inB_iff.2 ⟨u, rfl, hu⟩)
  obtain ⟨db, hdb, c1, c2⟩ := h2.dep
  have c3 := c2 u hu
  clear c2
  have hs := h.small
  refine (callsIn_wide (n := 5)).1 ?_
  refine callsIn_of_wp_marks Tryd.func20 rfl trivial ?_ rfl
  simp only [Tryd.ntmps20, List.size_toArray, List.length_cons, List.length_nil, Nat.reduceAdd, Nat.reduceSub, Array.replicate_succ, Array.replicate_zero, List.push_toArray, List.append_toArray, List.nil_append, List.cons_append]
  gi_wp2
  have hwide : ∀ f, Fence.wide.fn f := fun _ => trivial
  have hd : decide (k < 0) = false := by simpa using hk
  have hi : (0 : Int) ≤ u ∧ (u : Int) < p.length := by omega
  have hd2 : decide ((dp p u : Int) < k) = true := by simpa using hf
  gi_big_quiet_th ((gi_at_call 26; exact quiet_same_in (has_is H.out (h2.drewN _))))
  gi_wp2
  exact ⟨_, results_tmp2 rfl _ _ _, rfl, below_drewN hB2 _⟩

theorem up_round {w W W0 : World} {u : Nat} {b : Nat} {p : List Int} {pre : List Nat} {x m : Nat} {a : Act}
    (g1 : W.cell? ⟨w.heap.size, 0, none⟩ = some (.pointer (some ⟨b, 0, none⟩)))
    (g2 : W.cell? ⟨w.heap.size + 1, 0, none⟩ = some (.int .i64 m)) (g3 : W.frozen? ⟨w.heap.size + 1, 0, none⟩ = false) (gB : Below w.heap.size w W) :
    ownPostG W0.heap.size (Below w.heap.size)
      (fun pre W => (W.cell? ⟨w.heap.size, 0, none⟩ = some (.pointer (some ⟨b, 0, none⟩)) ∧ W.cell? ⟨w.heap.size + 1, 0, none⟩ = some (.int .i64 (oi (anc p (sumP pre) u))) ∧ W.frozen? ⟨w.heap.size + 1, 0, none⟩ = false) ∧ Below w.heap.size w W)
      (fun _ _ _ => False) (pre ++ [x]) W Exit.normal a ((W.setCell ⟨w.heap.size + 1, 0, none⟩ (.int .i64 (oi (anc p (sumP (pre ++ [x])) u)))).drew) := by
  have h1 : (W.setCell ⟨w.heap.size + 1, 0, none⟩ (.int .i64 (oi (anc p (sumP (pre ++ [x])) u)))).cell? ⟨w.heap.size, 0, none⟩ = some (.pointer (some ⟨b, 0, none⟩)) := by
    rw [World.cell?_of_block (Below.heap_setCell _ _ _ _ (by simp))]; exact g1
  exact ⟨(((KeepsOthers.setCell _ _ _).trans (KeepsOthers.drew _)).from _), ((Below.refl w.heap.size W).setCell (p := ⟨w.heap.size + 1, 0, none⟩) (by simp) _).drew, ⟨h1, World.cell?_setCell_same' _ _ _ (by rw [g2]; rfl), by rw [frozen_drew_own, World.frozen?_setCell]; exact g3⟩, (gB.setCell (p := ⟨w.heap.size + 1, 0, none⟩) (by simp) _).drew⟩

set_option maxRecDepth 100000 in
set_option maxHeartbeats 2000000 in
theorem up_ok (b B : Nat) (p : List Int) (u k : Nat) (w : World) (h : TabAt w B b p) (hBw : B ≤ w.heap.size) (hT : DeB w) (hu : u < p.length) (hf : k ≤ dp p u) :
    Calls Tryd.prog 20 #[.pointer (some ⟨b, 0, none⟩), .int .i64 u, .int .i64 k] w fun e w' => e = .returned (.tuple #[.int .i64 (oi (anc p k u)), .bool true]) ∧ Below w.heap.size w w' := by
  have hB2 : Below w.heap.size w ((w.alloc (.cells #[.pointer (some ⟨b, 0, none⟩)] 24)).alloc (.cells #[.int .i64 u] 3)) := ((Below.refl _ w).alloc (Nat.le_refl _) _).alloc (by simp) _
  have h2 := (h.below (hB2.mono hBw))
  have H := Lib.hid (inB_iff.2 ⟨u, rfl, hu⟩)
  have hw1 : 1 < w.heap.size := by
    have := hT 0 (by decide)
    obtain ⟨o, ho, _⟩ := cells_of_cell this
    exact (Array.getElem?_eq_some_iff.1 ho).1
  have hs := h.small
  have htree := h.tree
  have hd0 : dp p u < p.length := dep_lt htree hu
  refine (callsIn_wide (n := 5)).1 ?_
  refine callsIn_of_wp_marks Tryd.func20 rfl trivial ?_ rfl
  simp only [Tryd.ntmps20, List.size_toArray, List.length_cons, List.length_nil, Nat.reduceAdd, Nat.reduceSub, Array.replicate_succ, Array.replicate_zero, List.push_toArray, List.append_toArray, List.nil_append, List.cons_append]
  gi_wp2
  have hwide : ∀ f, Fence.wide.fn f := fun _ => trivial
  have hd : decide ((k : Int) < 0) = false := by simp
  have hi : (0 : Int) ≤ u ∧ (u : Int) < p.length := by omega
  have hd2 : decide (dp p u < k) = false := by simp; omega
  obtain ⟨db, hdb, c1, c2⟩ := h2.dep
  have c3 := c2 u hu
  clear c2
  gi_big_quiet_th ((gi_at_call 26; exact quiet_same_in (has_is H.out (h2.drewN _))))
  clear c1 c3 hd hd2
  gi_wp2_with (gi_at_call 28; refine (callsIn_wide.2 (ones_any _ _)).mono ?_; rintro e w' ⟨rfl, rfl⟩)
  have hB3 : Below w.heap.size w ((((w.alloc (.cells #[.pointer (some ⟨b, 0, none⟩)] 24)).alloc (.cells #[.int .i64 u] 3)).drewN nq).alloc (.cells #[.int .i64 k] 3)) :=
    (below_drewN hB2 nq).alloc (by simp; omega) _
  have f1 : ((((w.alloc (.cells #[.pointer (some ⟨b, 0, none⟩)] 24)).alloc (.cells #[.int .i64 u] 3)).drewN nq).alloc (.cells #[.int .i64 k] 3)).cell? ⟨w.heap.size, 0, none⟩ = some (.pointer (some ⟨b, 0, none⟩)) := by go_simp
  have f2 : ((((w.alloc (.cells #[.pointer (some ⟨b, 0, none⟩)] 24)).alloc (.cells #[.int .i64 u] 3)).drewN nq).alloc (.cells #[.int .i64 k] 3)).cell? ⟨w.heap.size + 1, 0, none⟩ = some (.int .i64 u) := by go_simp
  have f3 : ((((w.alloc (.cells #[.pointer (some ⟨b, 0, none⟩)] 24)).alloc (.cells #[.int .i64 u] 3)).drewN nq).alloc (.cells #[.int .i64 k] 3)).frozen? ⟨w.heap.size + 1, 0, none⟩ = false := by go_simp
  have f4 : ((((w.alloc (.cells #[.pointer (some ⟨b, 0, none⟩)] 24)).alloc (.cells #[.int .i64 u] 3)).drewN nq).alloc (.cells #[.int .i64 k] 3)).cell? ⟨w.heap.size + 1 + 1, 0, none⟩ = some (.int .i64 k) := by go_simp
  have f5 : ((((w.alloc (.cells #[.pointer (some ⟨b, 0, none⟩)] 24)).alloc (.cells #[.int .i64 u] 3)).drewN nq).alloc (.cells #[.int .i64 k] 3)).heap.size = w.heap.size + 3 := by simp
  generalize ((((w.alloc (.cells #[.pointer (some ⟨b, 0, none⟩)] 24)).alloc (.cells #[.int .i64 u] 3)).drewN nq).alloc (.cells #[.int .i64 k] 3)) = W0 at *
  obtain ⟨jb, hj⟩ := (h.below (hB3.mono hBw)).jmp
  have hjB : ∀ j, j < 13 → jb j < w.heap.size := fun j hj' => Nat.lt_of_lt_of_le (hj j hj').1 hBw
  have hlt := h.lt
  clear h h2
  refine rangeR (F := Fence.wide) rfl (by omega) (gf := 38) (lb := #[.pointer (some ⟨w.heap.size + 1 + 1, 0, none⟩)]) rfl trivial (enters_of Tryd.func38 (by kernel_rfl) rfl)
    (ones_stops 4 (by omega) k (w.heap.size + 1 + 1) w.heap.size (by omega) hw1 W0 (by omega) (by omega) f4 (hT.below hB3 hw1)) belowK_t (belowK_b (by omega)) (Below.refl _ _) (fun _ => rfl)
    (fun pre W => (W.cell? ⟨w.heap.size, 0, none⟩ = some (.pointer (some ⟨b, 0, none⟩)) ∧ W.cell? ⟨w.heap.size + 1, 0, none⟩ = some (.int .i64 (oi (anc p (sumP pre) u))) ∧ W.frozen? ⟨w.heap.size + 1, 0, none⟩ = false) ∧ Below w.heap.size w W)
    (fun _ _ _ => False)
    (OwnFrom.and (Own.from (fun s A B row hs hg hr => ⟨cell_kept hs.1 hg hr, cell_kept hs.2.1 hg hr, (frozen_kept hs.2.1 hg hr).trans hs.2.2⟩) _) (ownFrom_below (Nat.le_refl _) (by omega)))
    (fun _ _ _ _ _ hs _ _ => hs)
    ⟨⟨f1, f2, f3⟩, hB3⟩
    (fun _ x a' _ => a' = { tmps := #[.pointer (some ⟨b, 0, none⟩), .int .i64 u, .int .i64 k, .pointer (some ⟨w.heap.size, 0, none⟩), .pointer (some ⟨w.heap.size + 1, 0, none⟩), undef, .int .i64 0, .bool false, .int .i64 x, .pointer (some ⟨b, 0, none⟩), .int .i64 u, .bool true, .bool false, .bool false, .int .i64 k, .bool false, .bool false, .bool false, .int .i64 k, .pointer (some ⟨b, 0, none⟩), .pointer (some ⟨b, 0, none⟩), .pointer (some ⟨b, 1, none⟩), .slice (some ⟨db, 0, none⟩) p.length p.length, .int .i64 u, .pointer (some ⟨db, u, none⟩), .int .i64 (dp p u : Nat), .bool false, .bool false, .int .i64 k, .func (Fn.func 38) #[] #[.pointer (some ⟨w.heap.size + 1 + 1, 0, none⟩)], .int .i64 x, undef, undef, undef, undef, undef, undef, undef, undef, undef, undef], defers := [] })
    (fun _ _ _ _ _ _ _ hs _ _ => hs) ?assign ?body ?done ?stop
  case assign =>
    intro l pre x W K hI hR hK
    gi_wp2
    exact hK _ _ (KeepsFrom.refl _ _) (Below.refl _ _) hI rfl
  case body =>
    rintro l pre x a' W hl - ⟨⟨g1, g2, g3⟩, gB⟩ rfl ⟨hx, hsum⟩
    have hpow : 0 < 2 ^ x := Nat.two_pow_pos x
    obtain ⟨m, hm⟩ := anc_some htree (sumP pre) u hu (by omega)
    have hml := anc_lt htree hu hm
    have g4 : W.cell? ⟨b, 2 + x, none⟩ = some (.slice (some ⟨jb x, 0, none⟩) p.length p.length) := by
      rw [gB.cell (Nat.lt_of_lt_of_le hlt hBw), ← hB3.cell (Nat.lt_of_lt_of_le hlt hBw)]; exact (hj x hx).2.1
    have g5 : W.cell? ⟨jb x, m, none⟩ = some (.int .i64 (oi (anc p (2 ^ x) m))) := by
      rw [gB.cell (hjB x hx), ← hB3.cell (hjB x hx)]; exact (hj x hx).2.2 m hml
    have g6 : anc p (2 ^ x) m = anc p (sumP (pre ++ [x])) u := by rw [sumP_snoc, anc_add, hm]; rfl
    rw [hm] at g2
    rw [g6] at g5
    replace g2 : W.cell? ⟨w.heap.size + 1, 0, none⟩ = some (.int .i64 m) := g2
    have hmi : (0 : Int) ≤ m ∧ (m : Int) < p.length := by omega
    have hxi : (0 : Int) ≤ x ∧ (x : Int) < 13 := by omega
    have hmx : Tryd.prog.follows .mixedOrders = true := by kernel_rfl
    clear hm g6 hj hsum hpow
    dsimp only
    gi_wp2
    gi_region_with_o (fail)
    all_goals gi_wp2
    all_goals exact up_round g1 g2 g3 gB
  case done =>
    rintro D xs W hD hS ⟨⟨g1, g2, g3⟩, gB⟩ hK
    gi_wp2
    refine ⟨by simp, .inl ⟨_, _, rfl, run_takeDeferred hK, ?_⟩⟩
    exact ⟨_, results_tmp2 rfl _ _ _, rfl, gB.trans (belowK_b (w := w) (Nat.le_refl _) W D _ _ (by omega) hK rfl rfl)⟩
  case stop =>
    rintro D c pre W _ h _
    exact h.elim
end Go.Proofs.YtbjakjgabolkeaaDoor
