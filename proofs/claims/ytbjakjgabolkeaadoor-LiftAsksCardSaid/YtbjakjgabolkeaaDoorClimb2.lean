/- The walk of Climb of package lift. Conditions: the table was made by New; the keys are given as cells. -/
import Derived.Test.YtbjakjgabolkeaaDoorClimb
namespace Go.Proofs.YtbjakjgabolkeaaDoor
open Go.RowKit Go.Shelf

/-- a slice of 64 bit numbers (type 40) -/
structure Key (w : World) (B : Nat) (v : Value) (l : List Int) (A : Nat → Addr) : Prop where
  ix : ∀ i : Nat, i < l.length → ∀ w' : World, (Instr.indexAt 40 v (.int .i64 i)).run Tryd.prog w' = .ok (.pointer (some (A i))) w'
  lt : ∀ i : Nat, i < l.length → (A i).block < B
  cell : ∀ i : Nat, i < l.length → w.cell? (A i) = some (.int .i64 (nth l i))
theorem Key.below {w w' : World} {B : Nat} {v : Value} {l : List Int} {A : Nat → Addr} (h : Key w B v l A) (hb : Below B w w') : Key w' B v l A :=
  ⟨h.ix, h.lt, fun i hi => by rw [hb.cell (h.lt i hi)]; exact h.cell i hi⟩

theorem ret_ii {a b c d : Int} (h : a = b) (h' : c = d) : Ending.returned (.tuple #[.int .i64 a, .int .i64 c]) = .returned (.tuple #[.int .i64 b, .int .i64 d]) := by rw [h, h']
def Quiet (w : World) (v : Value) (e : Ending) (w' : World) : Prop := e = .returned v ∧ ∃ n, w.drewN n = w'

set_option maxHeartbeats 1000000 in
theorem onward_any (b B b0 b1 b2 : Nat) (p key : List Int) (m : Int) (a : Option Addr) (cap : Nat) (A : Nat → Addr) (v : Nat) (w : World) (h : TabAt w B b p) (hK : Key w B (.slice a key.length cap) key A) (hl : key.length = p.length) (hv : v < p.length)
    (h0 : w.cell? ⟨b0, 0, none⟩ = some (.pointer (some ⟨b, 0, none⟩))) (h1 : w.cell? ⟨b1, 0, none⟩ = some (.slice a key.length cap)) (h2 : w.cell? ⟨b2, 0, none⟩ = some (.int .i64 m)) :
    Calls Tryd.prog 37 #[.int .i64 v, .pointer (some ⟨b0, 0, none⟩), .pointer (some ⟨b1, 0, none⟩), .pointer (some ⟨b2, 0, none⟩)] w (Quiet w (.bool (onward p key m v))) := by
  obtain ⟨jb, hj⟩ := h.jmp
  have c1 := (hj 0 (by omega)).2.1
  replace c1 : w.cell? ⟨b, 2, none⟩ = some (.slice (some ⟨jb 0, 0, none⟩) p.length p.length) := c1
  have c2 := (hj 0 (by omega)).2.2 v hv
  have F := h.tree
  have hs := h.small
  have vi : (0 : Int) ≤ v ∧ (v : Int) < p.length := by omega
  clear hj
  cases hp : pa p v with
  | none =>
    have e : onward p key m v = false := by simp [onward, hp]
    rw [e]
    replace c2 : w.cell? ⟨jb 0, v, none⟩ = some (.int .i64 (-1)) := by rw [c2]; show some (Value.int .i64 (oi (pa p v))) = _; rw [hp]; rfl
    clear e hp hl hK
    have hd : decide ((0 : Int) ≤ -1) = false := by decide
    go_enter Tryd.func37, Tryd.ntmps37
    go_wp2_with fail
    go_quiet (fail)
    go_wp2_with fail
    go_ret
    exact ⟨rfl, _, rfl⟩
  | some u =>
    have hul := F.rng v u hv hp
    have e : onward p key m v = decide (nth key u ≤ m) := by simp [onward, hp]
    rw [e]
    replace c2 : w.cell? ⟨jb 0, v, none⟩ = some (.int .i64 u) := by rw [c2]; show some (Value.int .i64 (oi (pa p v))) = _; rw [hp]; rfl
    have c3 := hK.cell u (by omega)
    have hix := hK.ix u (by omega)
    have ui : (0 : Int) ≤ u ∧ (u : Int) < p.length := by omega
    have hd : decide ((0 : Int) ≤ u) = true := by simp
    clear e hp hl hK
    go_enter Tryd.func37, Tryd.ntmps37
    go_wp2_with fail
    go_quiet (fail)
    go_wp2_with fail
    go_ret
    exact ⟨rfl, _, rfl⟩

set_option maxRecDepth 100000 in
set_option maxHeartbeats 2000000 in
theorem climb_tab (b B : Nat) (p key : List Int) (m : Int) (a : Option Addr) (cap : Nat) (A : Nat → Addr) (v : Int) (w : World) (h : TabAt w B b p) (hK : Key w B (.slice a key.length cap) key A) (hBw : B ≤ w.heap.size) :
    Calls Tryd.prog 24 #[.pointer (some ⟨b, 0, none⟩), .int .i64 v, .slice a key.length cap, .int .i64 m] w fun e w' => e = .returned (.tuple #[.int .i64 (clV p v key m), .int .i64 (clE p v key)]) ∧ Below w.heap.size w w' := by
  have hB0 : Below w.heap.size w (((w.alloc (.cells #[.pointer (some ⟨b, 0, none⟩)] 24)).alloc (.cells #[.slice a key.length cap] 40)).alloc (.cells #[.int .i64 m] 2)) :=
    (((Below.refl _ w).alloc (Nat.le_refl _) _).alloc (by simp) _).alloc (by simp; omega) _
  have f0 : (((w.alloc (.cells #[.pointer (some ⟨b, 0, none⟩)] 24)).alloc (.cells #[.slice a key.length cap] 40)).alloc (.cells #[.int .i64 m] 2)).cell? ⟨w.heap.size, 0, none⟩ = some (.pointer (some ⟨b, 0, none⟩)) := by go_simp
  have f1 : (((w.alloc (.cells #[.pointer (some ⟨b, 0, none⟩)] 24)).alloc (.cells #[.slice a key.length cap] 40)).alloc (.cells #[.int .i64 m] 2)).cell? ⟨w.heap.size + 1, 0, none⟩ = some (.slice a key.length cap) := by go_simp
  have f2 : (((w.alloc (.cells #[.pointer (some ⟨b, 0, none⟩)] 24)).alloc (.cells #[.slice a key.length cap] 40)).alloc (.cells #[.int .i64 m] 2)).cell? ⟨w.heap.size + 1 + 1, 0, none⟩ = some (.int .i64 m) := by go_simp
  have hc0 := h.made
  have h' := h.below (hB0.mono hBw)
  have hc1 := h'.made
  have hs := h.small
  cases hv : inB p v with
  | false =>
    have e1 : clE p v key = 3 := by simp [clE, hv]
    have e2 : clV p v key m = 0 := by simp [clV, e1]
    rw [e1, e2]
    have H := Lib.hid hv; clear hv e1 e2
    go_enter Tryd.func24, Tryd.ntmps24
    go_wp2_with fail
    refine (has_is H.out h').mono ?_
    rintro e w' ⟨rfl, rfl⟩
    go_wp2_with fail
    go_ret2
    exact ⟨rfl, hB0⟩
  | true =>
    by_cases hl : key.length = p.length
    · have e1 : clE p v key = 0 := by simp [clE, hv, hl]
      obtain ⟨u, rfl, hu⟩ := inB_iff.1 hv
      have e2 : clV p u key m = climb p key m u := by simp [clV, e1]
      rw [e1, e2]
      have H := Lib.hid hv
      have HL := Lib.hid hl
      have hK' := hK.below (hB0.mono hBw)
      have hF := h.tree
      clear hv hl e1 e2
      have hlb : ((key.length : Int) != (p.length : Int)) = false := by simp [HL.out]
      go_enter Tryd.func24, Tryd.ntmps24
      go_wp2_with fail
      refine (has_is H.out h').mono ?_
      rintro e w' ⟨rfl, rfl⟩
      go_wp2_with fail
      generalize hW0 : (((w.alloc (.cells #[.pointer (some ⟨b, 0, none⟩)] 24)).alloc (.cells #[.slice a key.length cap] 40)).alloc (.cells #[.int .i64 m] 2)) = W0 at *
      clear hW0
      go_quiet ((go_at_call 25; exact quiet_same (len_tab _ _ _ _ (h'.drewN _))))
      go_wp2_with fail
      go_loopw [1] (fun vv wr => ∃ (v n : Nat), vv = .int .i64 v ∧ v < p.length ∧ climb p key m v = climb p key m u ∧ wr = W0.drewN n) (fun vv _ => dp p (intOf vv).toNat)
      case atStart => exact ⟨u, nq, rfl, hu, rfl, rfl⟩
      case round =>
        obtain ⟨v, n, rfl, hvl, hcl, rfl⟩ := hrel
        have HC := Lib.hid hcl
        clear hcl
        have hd := dep_lt hF hvl
        cases ho : onward p key m v with
        | false =>
          have hq := onward_any b B w.heap.size (w.heap.size + 1) (w.heap.size + 1 + 1) p key m a cap A v (W0.drewN n) (h'.drewN n) (hK'.below (below_drewN (Below.refl _ _) n)) HL.out hvl f0 f1 f2
          rw [ho] at hq
          have HO := Lib.hid ho
          clear ho
          have HQ := Lib.hid hq
          clear hq
          go_wp2_with fail
          refine HQ.out.mono ?_
          rintro e w' ⟨rfl, j, rfl⟩
          go_wp2_with fail
          go_ret2
          exact ⟨ret_ii (by rw [← HC.out, climb_stop HO.out]) rfl, below_drewN hB0 _⟩
        | true =>
          obtain ⟨x, hx, hxl, hxd, hxc⟩ := climb_go hF hvl ho
          have hq := onward_any b B w.heap.size (w.heap.size + 1) (w.heap.size + 1 + 1) p key m a cap A v (W0.drewN n) (h'.drewN n) (hK'.below (below_drewN (Below.refl _ _) n)) HL.out hvl f0 f1 f2
          rw [ho] at hq
          clear ho
          have HQ := Lib.hid hq
          clear hq
          obtain ⟨jb, hj⟩ := h'.jmp
          have c1 := (hj 0 (by omega)).2.1
          replace c1 : W0.cell? ⟨b, 2, none⟩ = some (.slice (some ⟨jb 0, 0, none⟩) p.length p.length) := c1
          have c2 := (hj 0 (by omega)).2.2 v hvl
          replace c2 : W0.cell? ⟨jb 0, v, none⟩ = some (.int .i64 x) := by rw [c2]; show some (Value.int .i64 (oi (pa p v))) = _; rw [hx]; rfl
          have vi : (0 : Int) ≤ v ∧ (v : Int) < p.length := by omega
          have HX := Lib.hid hxc
          have HD := Lib.hid hxd
          clear hj hx hxc hxd
          go_wp2_with fail
          refine HQ.out.mono ?_
          rintro e w' ⟨rfl, j, rfl⟩
          go_wp2_with fail
          go_roundw
          case rel => exact ⟨x, _, rfl, hxl, by rw [← HX.out]; exact HC.out, rfl⟩
          case measure => have := HD.out; simp only [intOf, Int.toNat_natCast]; omega
    · have e1 : clE p v key = 2 := by simp [clE, hv, hl]
      have e2 : clV p v key m = 0 := by simp [clV, e1]
      rw [e1, e2]
      have H := Lib.hid hv
      clear hv e1 e2
      have hlb : ((key.length : Int) != (p.length : Int)) = true := by simp; omega
      go_enter Tryd.func24, Tryd.ntmps24
      go_wp2_with fail
      refine (has_is H.out h').mono ?_
      rintro e w' ⟨rfl, rfl⟩
      go_wp2_with fail
      go_quiet ((go_at_call 25; exact quiet_same (len_tab _ _ _ _ (h'.drewN _))))
      go_wp2_with fail
      go_ret2
      exact ⟨rfl, below_drewN hB0 _⟩
end Go.Proofs.YtbjakjgabolkeaaDoor
