/- The walk of Climb of package lift, and New in two parts. Conditions: the table was made by New; the keys are given as cells. -/
import Derived.Test.YtibdggbejogciaaGreatLfN
import Derived.BigQuiet
import Derived.Deep.QuietTactic
import Derived.Sort.BigQuietIn
namespace Go.Proofs.YtibdggbejogciaaGreat
open Go.RowKit

theorem inB_iff {p : List Int} {v : Int} : inB p v = true ↔ ∃ u : Nat, v = u ∧ u < p.length := by
  simp only [inB, decide_eq_true_eq]
  constructor
  · intro h; exact ⟨v.toNat, by omega, by omega⟩
  · rintro ⟨u, rfl, h⟩; omega
theorem quiet_same {f : FuncId} {args : Array Value} {w : World} {n : Nat} {v : Value}
    (h : Calls Tryz.prog f args (w.drewN n) fun e w' => e = .returned v ∧ w.drewN n = w') : Calls Tryz.prog f args (w.drewN n) fun e w'' => e = .returned v ∧ ∃ m, w'' = w.drewN m :=
  h.mono fun _ _ ⟨he, hm⟩ => ⟨he, n, hm.symm⟩
theorem TabAt.drewN {w : World} {B b : Nat} {p : List Int} (h : TabAt w B b p) (n : Nat) : TabAt (w.drewN n) B b p := h.below (below_drewN (Below.refl _ _) n)
theorem new_bad {B : Nat} {a : Option Addr} {cap : Nat} {A : Nat → Addr} {p : List Int} {w : World} {c : Int} (hE : newE p = c) (hc : c ≠ 0) (hm : p.length ≤ 9223372036854775807) (hS : Sl 37 .i64 w B (.slice a p.length cap) p A) (hB : B ≤ w.heap.size) :
    Calls Tryz.prog 47 #[.slice a p.length cap] w fun e w' => e = .returned (.tuple #[.pointer none, .int .i64 c]) ∧ Below w.heap.size w w' := by
  unfold newE at hE
  by_cases h1 : 8192 < p.length
  · rw [if_pos h1] at hE
    subst hE
    exact (new_arg a p.length cap w h1 hm).mono fun e w' ⟨h2, h3⟩ => ⟨h2, h3 ▸ Below.refl _ _⟩
  · rw [if_neg h1] at hE
    by_cases h2 : inRB p = true
    · rw [if_pos h2] at hE
      by_cases h3 : treeB p = true
      · rw [if_pos h3] at hE; exact absurd hE.symm hc
      · rw [if_neg h3] at hE
        subst hE
        refine (new_in B a cap A p w (by omega) (inRB_iff.1 h2) hS hB).mono fun e w' ⟨h4, h5⟩ => ?_
        rcases h5 with ⟨_, h5⟩ | ⟨h5, _⟩
        · exact ⟨h5, h4⟩
        · exact absurd h5 h3
    · rw [if_neg h2] at hE
      subst hE
      exact (new_range B a cap A p w (by omega) (fun h => h2 (inRB_iff.2 h)) hS).mono fun e w' ⟨h2, h3⟩ => ⟨h2, h3 ▸ Below.refl _ _⟩
theorem newE_zero {p : List Int} (hE : newE p = 0) : p.length ≤ 8192 ∧ InRange p ∧ treeB p = true := by
  unfold newE at hE
  by_cases h1 : 8192 < p.length
  · rw [if_pos h1] at hE; omega
  · rw [if_neg h1] at hE
    by_cases h2 : inRB p = true
    · rw [if_pos h2] at hE
      by_cases h3 : treeB p = true
      · exact ⟨by omega, inRB_iff.1 h2, h3⟩
      · rw [if_neg h3] at hE; omega
    · rw [if_neg h2] at hE; omega
def NewOk (p : List Int) (w : World) (e : Ending) (w' : World) : Prop := ∃ b, e = .returned (.tuple #[.pointer (some ⟨b, 0, none⟩), .int .i64 0]) ∧ TabAt w' w'.heap.size b p ∧ Below w.heap.size w w' ∧ Held w.heap.size w' fun W => TabAt W w'.heap.size b p
theorem new_ok {B : Nat} {a : Option Addr} {cap : Nat} {A : Nat → Addr} {p : List Int} {w : World} (hE : newE p = 0) (hS : Sl 37 .i64 w B (.slice a p.length cap) p A) (hB : B ≤ w.heap.size) :
    Calls Tryz.prog 47 #[.slice a p.length cap] w (NewOk p w) := by
  obtain ⟨h1, h2, h3⟩ := newE_zero hE
  refine (new_in B a cap A p w h1 h2 hS hB).mono fun e w' ⟨h4, h5⟩ => ?_
  rcases h5 with ⟨h5, _⟩ | ⟨_, b, h5, h6⟩
  · rw [h3] at h5; cases h5
  · exact ⟨b, h5, h6.self, h4, h6⟩

/-- climbing: one step, and all of them -/
def onward (p key : List Int) (m : Int) (v : Nat) : Bool := match pa p v with
  | some u => decide (nth key u ≤ m)
  | none => false
def climbF (p key : List Int) (m : Int) : Nat → Nat → Nat
  | 0, v => v
  | f + 1, v => match pa p v with
    | some u => if nth key u ≤ m then climbF p key m f u else v
    | none => v
def climb (p key : List Int) (m : Int) (v : Nat) : Nat := climbF p key m (dp p v) v
/-- what Climb answers -/
def clE (p : List Int) (v : Int) (key : List Int) : Int := if inB p v then (if key.length = p.length then 0 else 2) else 3
def clV (p : List Int) (v : Int) (key : List Int) (m : Int) : Int := if clE p v key = 0 then climb p key m v.toNat else 0

theorem climb_stop {p key : List Int} {m : Int} {v : Nat} (h : onward p key m v = false) : climb p key m v = v := by
  unfold climb
  cases hd : dp p v with
  | zero => rfl
  | succ f =>
    rw [climbF]
    unfold onward at h
    cases hp : pa p v with
    | none => rfl
    | some u => rw [hp] at h; simp only [decide_eq_false_iff_not] at h; simp only [if_neg h]
theorem climb_go {p key : List Int} {m : Int} {v : Nat} (F : Tree p) (hv : v < p.length) (h : onward p key m v = true) : ∃ u, pa p v = some u ∧ u < p.length ∧ dp p v = dp p u + 1 ∧ climb p key m v = climb p key m u := by
  unfold onward at h
  cases hp : pa p v with
  | none => rw [hp] at h; cases h
  | some u =>
    rw [hp] at h
    have hd := F.up v u hv hp
    refine ⟨u, rfl, F.rng v u hv hp, hd, ?_⟩
    unfold climb
    rw [hd, climbF, hp]
    simp only [decide_eq_true_eq] at h
    simp only [if_pos h]

/-- a slice of 64 bit numbers  -/
structure Key (w : World) (B : Nat) (v : Value) (l : List Int) (A : Nat → Addr) : Prop where
  ix : ∀ i : Nat, i < l.length → ∀ w' : World, (Instr.indexAt 30 v (.int .i64 i)).run Tryz.prog w' = .ok (.pointer (some (A i))) w'
  lt : ∀ i : Nat, i < l.length → (A i).block < B
  cell : ∀ i : Nat, i < l.length → w.cell? (A i) = some (.int .i64 (nth l i))
theorem Key.below {w w' : World} {B : Nat} {v : Value} {l : List Int} {A : Nat → Addr} (h : Key w B v l A) (hb : Below B w w') : Key w' B v l A :=
  ⟨h.ix, h.lt, fun i hi => by rw [hb.cell (h.lt i hi)]; exact h.cell i hi⟩

theorem ret_ii {a b c d : Int} (h : a = b) (h' : c = d) : Ending.returned (.tuple #[.int .i64 a, .int .i64 c]) = .returned (.tuple #[.int .i64 b, .int .i64 d]) := by rw [h, h']
def Quiet (w : World) (v : Value) (e : Ending) (w' : World) : Prop := e = .returned v ∧ ∃ n, w.drewN n = w'

set_option maxHeartbeats 1000000 in
theorem onward_any (b B b0 b1 b2 : Nat) (p key : List Int) (m : Int) (a : Option Addr) (cap : Nat) (A : Nat → Addr) (v : Nat) (w : World) (h : TabAt w B b p) (hK : Key w B (.slice a key.length cap) key A) (hl : key.length = p.length) (hv : v < p.length)
    (h0 : w.cell? ⟨b0, 0, none⟩ = some (.pointer (some ⟨b, 0, none⟩))) (h1 : w.cell? ⟨b1, 0, none⟩ = some (.slice a key.length cap)) (h2 : w.cell? ⟨b2, 0, none⟩ = some (.int .i64 m)) :
    Calls Tryz.prog 63 #[.int .i64 v, .pointer (some ⟨b0, 0, none⟩), .pointer (some ⟨b1, 0, none⟩), .pointer (some ⟨b2, 0, none⟩)] w (Quiet w (.bool (onward p key m v))) := by
  obtain ⟨jb, hj⟩ := h.jmp
  have c1 := (hj 0 (by omega)).2.1
  replace c1 : w.cell? ⟨b, 2, none⟩ = some (.slice (some ⟨jb 0, 0, none⟩) p.length p.length) := c1
  have c2 := (hj 0 (by omega)).2.2 v hv
  have F := h.tree
  have hs := h.small
  have vi : (0 : Int) ≤ v ∧ (v : Int) < p.length := by omega
  clear hj
  cases hp : pa p v with
  | none =>
    have e : onward p key m v = false := by simp [onward, hp]
    rw [e]
    replace c2 : w.cell? ⟨jb 0, v, none⟩ = some (.int .i64 (-1)) := by rw [c2]; show some (Value.int .i64 (oi (pa p v))) = _; rw [hp]; rfl
    clear e hp hl hK
    have hd : decide ((0 : Int) ≤ -1) = false := by decide
    go_enter Tryz.func63, Tryz.ntmps63
    go_wp2_with fail
    go_quiet (fail)
    go_wp2_with fail
    go_ret
    exact ⟨rfl, _, rfl⟩
  | some u =>
    have hul := F.rng v u hv hp
    have e : onward p key m v = decide (nth key u ≤ m) := by simp [onward, hp]
    rw [e]
    replace c2 : w.cell? ⟨jb 0, v, none⟩ = some (.int .i64 u) := by rw [c2]; show some (Value.int .i64 (oi (pa p v))) = _; rw [hp]; rfl
    have c3 := hK.cell u (by omega)
    have hix := hK.ix u (by omega)
    have ui : (0 : Int) ≤ u ∧ (u : Int) < p.length := by omega
    have hd : decide ((0 : Int) ≤ u) = true := by simp
    clear e hp hl hK
    go_enter Tryz.func63, Tryz.ntmps63
    go_wp2_with fail
    go_quiet (fail)
    go_wp2_with fail
    go_ret
    exact ⟨rfl, _, rfl⟩

set_option maxRecDepth 100000 in
set_option maxHeartbeats 2000000 in
theorem climb_tab (b B : Nat) (p key : List Int) (m : Int) (a : Option Addr) (cap : Nat) (A : Nat → Addr) (v : Int) (w : World) (h : TabAt w B b p) (hK : Key w B (.slice a key.length cap) key A) (hBw : B ≤ w.heap.size) :
    Calls Tryz.prog 50 #[.pointer (some ⟨b, 0, none⟩), .int .i64 v, .slice a key.length cap, .int .i64 m] w fun e w' => e = .returned (.tuple #[.int .i64 (clV p v key m), .int .i64 (clE p v key)]) ∧ Below w.heap.size w w' := by
  have hB0 : Below w.heap.size w (((w.alloc (.cells #[.pointer (some ⟨b, 0, none⟩)] 61)).alloc (.cells #[.slice a key.length cap] 30)).alloc (.cells #[.int .i64 m] 2)) :=
    (((Below.refl _ w).alloc (Nat.le_refl _) _).alloc (by simp) _).alloc (by simp; omega) _
  have f0 : (((w.alloc (.cells #[.pointer (some ⟨b, 0, none⟩)] 61)).alloc (.cells #[.slice a key.length cap] 30)).alloc (.cells #[.int .i64 m] 2)).cell? ⟨w.heap.size, 0, none⟩ = some (.pointer (some ⟨b, 0, none⟩)) := by go_simp
  have f1 : (((w.alloc (.cells #[.pointer (some ⟨b, 0, none⟩)] 61)).alloc (.cells #[.slice a key.length cap] 30)).alloc (.cells #[.int .i64 m] 2)).cell? ⟨w.heap.size + 1, 0, none⟩ = some (.slice a key.length cap) := by go_simp
  have f2 : (((w.alloc (.cells #[.pointer (some ⟨b, 0, none⟩)] 61)).alloc (.cells #[.slice a key.length cap] 30)).alloc (.cells #[.int .i64 m] 2)).cell? ⟨w.heap.size + 1 + 1, 0, none⟩ = some (.int .i64 m) := by go_simp
  have hc0 := h.made
  have h' := h.below (hB0.mono hBw)
  have hc1 := h'.made
  have hs := h.small
  cases hv : inB p v with
  | false =>
    have e1 : clE p v key = 3 := by simp [clE, hv]
    have e2 : clV p v key m = 0 := by simp [clV, e1]
    rw [e1, e2]
    have H := Lib.hid hv; clear hv e1 e2
    go_enter Tryz.func50, Tryz.ntmps50
    go_wp2_with fail
    refine (has_is H.out h').mono ?_
    rintro e w' ⟨rfl, rfl⟩
    go_wp2_with fail
    go_ret2
    exact ⟨rfl, hB0⟩
  | true =>
    by_cases hl : key.length = p.length
    · have e1 : clE p v key = 0 := by simp [clE, hv, hl]
      obtain ⟨u, rfl, hu⟩ := inB_iff.1 hv
      have e2 : clV p u key m = climb p key m u := by simp [clV, e1]
      rw [e1, e2]
      have H := Lib.hid hv
      have HL := Lib.hid hl
      have hK' := hK.below (hB0.mono hBw)
      have hF := h.tree
      clear hv hl e1 e2
      have hlb : ((key.length : Int) != (p.length : Int)) = false := by simp [HL.out]
      go_enter Tryz.func50, Tryz.ntmps50
      go_wp2_with fail
      refine (has_is H.out h').mono ?_
      rintro e w' ⟨rfl, rfl⟩
      go_wp2_with fail
      generalize hW0 : (((w.alloc (.cells #[.pointer (some ⟨b, 0, none⟩)] 61)).alloc (.cells #[.slice a key.length cap] 30)).alloc (.cells #[.int .i64 m] 2)) = W0 at *
      clear hW0
      go_quiet ((go_at_call 62; exact quiet_same (len_tab _ _ _ _ (h'.drewN _))))
      go_wp2_with fail
      go_loopw [1] (fun vv wr => ∃ (v n : Nat), vv = .int .i64 v ∧ v < p.length ∧ climb p key m v = climb p key m u ∧ wr = W0.drewN n) (fun vv _ => dp p (intOf vv).toNat)
      case atStart => exact ⟨u, nq, rfl, hu, rfl, rfl⟩
      case round =>
        obtain ⟨v, n, rfl, hvl, hcl, rfl⟩ := hrel
        have HC := Lib.hid hcl
        clear hcl
        have hd := dep_lt hF hvl
        cases ho : onward p key m v with
        | false =>
          have hq := onward_any b B w.heap.size (w.heap.size + 1) (w.heap.size + 1 + 1) p key m a cap A v (W0.drewN n) (h'.drewN n) (hK'.below (below_drewN (Below.refl _ _) n)) HL.out hvl f0 f1 f2
          rw [ho] at hq
          have HO := Lib.hid ho
          clear ho
          have HQ := Lib.hid hq
          clear hq
          go_wp2_with fail
          refine HQ.out.mono ?_
          rintro e w' ⟨rfl, j, rfl⟩
          go_wp2_with fail
          go_ret2
          exact ⟨ret_ii (by rw [← HC.out, climb_stop HO.out]) rfl, below_drewN hB0 _⟩
        | true =>
          obtain ⟨x, hx, hxl, hxd, hxc⟩ := climb_go hF hvl ho
          have hq := onward_any b B w.heap.size (w.heap.size + 1) (w.heap.size + 1 + 1) p key m a cap A v (W0.drewN n) (h'.drewN n) (hK'.below (below_drewN (Below.refl _ _) n)) HL.out hvl f0 f1 f2
          rw [ho] at hq
          clear ho
          have HQ := Lib.hid hq
          clear hq
          obtain ⟨jb, hj⟩ := h'.jmp
          have c1 := (hj 0 (by omega)).2.1
          replace c1 : W0.cell? ⟨b, 2, none⟩ = some (.slice (some ⟨jb 0, 0, none⟩) p.length p.length) := c1
          have c2 := (hj 0 (by omega)).2.2 v hvl
          replace c2 : W0.cell? ⟨jb 0, v, none⟩ = some (.int .i64 x) := by rw [c2]; show some (Value.int .i64 (oi (pa p v))) = _; rw [hx]; rfl
          have vi : (0 : Int) ≤ v ∧ (v : Int) < p.length := by omega
          have HX := Lib.hid hxc
          have HD := Lib.hid hxd
          clear hj hx hxc hxd
          go_wp2_with fail
          refine HQ.out.mono ?_
          rintro e w' ⟨rfl, j, rfl⟩
          go_wp2_with fail
          go_roundw
          case rel => exact ⟨x, _, rfl, hxl, by rw [← HX.out]; exact HC.out, rfl⟩
          case measure => have := HD.out; simp only [intOf, Int.toNat_natCast]; omega
    · have e1 : clE p v key = 2 := by simp [clE, hv, hl]
      have e2 : clV p v key m = 0 := by simp [clV, e1]
      rw [e1, e2]
      have H := Lib.hid hv
      clear hv e1 e2
      have hlb : ((key.length : Int) != (p.length : Int)) = true := by simp; omega
      go_enter Tryz.func50, Tryz.ntmps50
      go_wp2_with fail
      refine (has_is H.out h').mono ?_
      rintro e w' ⟨rfl, rfl⟩
      go_wp2_with fail
      go_quiet ((go_at_call 62; exact quiet_same (len_tab _ _ _ _ (h'.drewN _))))
      go_wp2_with fail
      go_ret2
      exact ⟨rfl, below_drewN hB0 _⟩
end Go.Proofs.YtibdggbejogciaaGreat
