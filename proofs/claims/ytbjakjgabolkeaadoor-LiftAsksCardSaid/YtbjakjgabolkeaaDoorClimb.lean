/- The walks of Dist and Climb of package lift, and New's contract in two parts. Conditions: the table was made by New; the library's table of de Bruijn is as its initialiser lays it. -/
import Derived.Test.YtbjakjgabolkeaaDoorCommon
import Derived.Test.YtbjakjgabolkeaaDoorNew
namespace Go.Proofs.YtbjakjgabolkeaaDoor
open Go.RowKit Go.Shelf

theorem new_bad {B : Nat} {a : Option Addr} {cap : Nat} {A : Nat → Addr} {p : List Int} {w : World} {c : Int} (hE : newE p = c) (hc : c ≠ 0) (hm : p.length ≤ 9223372036854775807) (hS : Sl 25 .i64 w B (.slice a p.length cap) p A) (hB : B ≤ w.heap.size) :
    Calls Tryd.prog 17 #[.slice a p.length cap] w fun e w' => e = .returned (.tuple #[.pointer none, .int .i64 c]) ∧ Below w.heap.size w w' := by
  unfold newE at hE
  by_cases h1 : 8192 < p.length
  · rw [if_pos h1] at hE
    subst hE
    exact (new_arg a p.length cap w h1 hm).mono fun e w' ⟨h2, h3⟩ => ⟨h2, h3 ▸ Below.refl _ _⟩
  · rw [if_neg h1] at hE
    by_cases h2 : inRB p = true
    · rw [if_pos h2] at hE
      by_cases h3 : treeB p = true
      · rw [if_pos h3] at hE; exact absurd hE.symm hc
      · rw [if_neg h3] at hE
        subst hE
        refine (new_in B a cap A p w (by omega) (inRB_iff.1 h2) hS hB).mono fun e w' ⟨h4, h5⟩ => ?_
        rcases h5 with ⟨_, h5⟩ | ⟨h5, _⟩
        · exact ⟨h5, h4⟩
        · exact absurd h5 h3
    · rw [if_neg h2] at hE
      subst hE
      exact (new_range B a cap A p w (by omega) (fun h => h2 (inRB_iff.2 h)) hS).mono fun e w' ⟨h2, h3⟩ => ⟨h2, h3 ▸ Below.refl _ _⟩
theorem newE_zero {p : List Int} (hE : newE p = 0) : p.length ≤ 8192 ∧ InRange p ∧ treeB p = true := by
  unfold newE at hE
  by_cases h1 : 8192 < p.length
  · rw [if_pos h1] at hE; omega
  · rw [if_neg h1] at hE
    by_cases h2 : inRB p = true
    · rw [if_pos h2] at hE
      by_cases h3 : treeB p = true
      · exact ⟨by omega, inRB_iff.1 h2, h3⟩
      · rw [if_neg h3] at hE; omega
    · rw [if_neg h2] at hE; omega
def NewOk (p : List Int) (w : World) (e : Ending) (w' : World) : Prop := ∃ b, e = .returned (.tuple #[.pointer (some ⟨b, 0, none⟩), .int .i64 0]) ∧ TabAt w' w'.heap.size b p ∧ Below w.heap.size w w'
theorem new_ok {B : Nat} {a : Option Addr} {cap : Nat} {A : Nat → Addr} {p : List Int} {w : World} (hE : newE p = 0) (hS : Sl 25 .i64 w B (.slice a p.length cap) p A) (hB : B ≤ w.heap.size) :
    Calls Tryd.prog 17 #[.slice a p.length cap] w (NewOk p w) := by
  obtain ⟨h1, h2, h3⟩ := newE_zero hE
  refine (new_in B a cap A p w h1 h2 hS hB).mono fun e w' ⟨h4, h5⟩ => ?_
  rcases h5 with ⟨h5, _⟩ | ⟨_, b, h5, h6⟩
  · rw [h3] at h5; cases h5
  · exact ⟨b, h5, h6, h4⟩

/-- what Dist answers -/
def diV (p : List Int) (a b : Int) : Int := if coB p a b then (dp p a.toNat : Int) + dp p b.toNat - 2 * dp p (coV p a b).toNat else 0

theorem co_range {p : List Int} (F : Tree p) {x y : Int} (h : coB p x y = true) : ∃ a b c : Nat, x = a ∧ y = b ∧ a < p.length ∧ b < p.length ∧ com p a b = some c ∧ coV p x y = c ∧ c < p.length := by
  have h' := h
  simp only [coB, Bool.and_eq_true] at h'
  obtain ⟨⟨hx, hy⟩, hc⟩ := h'
  obtain ⟨a, rfl, ha⟩ := inB_iff.1 hx
  obtain ⟨b, rfl, hb⟩ := inB_iff.1 hy
  obtain ⟨c, hc⟩ := Option.isSome_iff_exists.1 hc
  have hc' : com p a b = some c := by simpa using hc
  refine ⟨a, b, c, rfl, rfl, ha, hb, hc', ?_, isAnc_lt F ha (com_some F ha hc').1⟩
  rw [(co_eq hx hy).1, hc']

set_option maxHeartbeats 1000000 in
theorem dist_tab (b B : Nat) (p : List Int) (x y : Int) (w : World) (h : TabAt w B b p) (hBw : B ≤ w.heap.size) (hT : DeB w) :
    Calls Tryd.prog 15 #[.pointer (some ⟨b, 0, none⟩), .int .i64 x, .int .i64 y] w fun e w' => e = .returned (.tuple #[.int .i64 (diV p x y), .bool (coB p x y)]) ∧ Below w.heap.size w w' := by
  cases hc : coB p x y with
  | false =>
    have e : diV p x y = 0 := by simp [diV, hc]
    rw [e]
    have H := Lib.hid hc; clear hc e
    go_enter Tryd.func15, Tryd.ntmps15
    go_wp2_with (go_at_call 14; refine (common_tab _ _ _ _ _ _ h hBw hT).mono ?_; rw [H.out]; rintro e w' ⟨rfl, hb⟩)
    go_ret2
    exact ⟨rfl, hb⟩
  | true =>
    obtain ⟨a, b', c, rfl, rfl, ha, hb, hcm, hcv, hcl⟩ := co_range h.tree hc
    have e : diV p a b' = (dp p a : Int) + dp p b' - 2 * dp p c := by
      rw [diV, hc, if_pos rfl, hcv]; rfl
    rw [e]
    have d1 := dep_lt h.tree ha
    have d2 := dep_lt h.tree hb
    have d3 := dep_lt h.tree hcl
    have hs := h.small
    have i1 : (0 : Int) ≤ a ∧ (a : Int) < p.length := by omega
    have i2 : (0 : Int) ≤ b' ∧ (b' : Int) < p.length := by omega
    have i3 : (0 : Int) ≤ c ∧ (c : Int) < p.length := by omega
    have H := Lib.hid hc; have H2 := Lib.hid hcv
    clear hc hcv e hcm
    go_enter Tryd.func15, Tryd.ntmps15
    go_wp2_with fail
    refine (common_tab _ _ _ _ _ _ h hBw hT).mono ?_
    rw [H.out, H2.out]
    rintro e w1 ⟨rfl, hb1⟩
    obtain ⟨db, hdb, c1, c2⟩ := (h.below (hb1.mono hBw)).dep
    have c3 := c2 a ha
    have c4 := c2 b' hb
    have c5 := c2 c hcl
    clear c2
    go_wp2_with fail
    go_quiet (fail)
    go_wp2_with fail
    go_ret2
    exact ⟨rfl, below_drewN hb1 _⟩

/-- climbing: one step, and all of them -/
def onward (p key : List Int) (m : Int) (v : Nat) : Bool := match pa p v with
  | some u => decide (nth key u ≤ m)
  | none => false
def climbF (p key : List Int) (m : Int) : Nat → Nat → Nat
  | 0, v => v
  | f + 1, v => match pa p v with
    | some u => if nth key u ≤ m then climbF p key m f u else v
    | none => v
def climb (p key : List Int) (m : Int) (v : Nat) : Nat := climbF p key m (dp p v) v
/-- what Climb answers -/
def clE (p : List Int) (v : Int) (key : List Int) : Int := if inB p v then (if key.length = p.length then 0 else 2) else 3
def clV (p : List Int) (v : Int) (key : List Int) (m : Int) : Int := if clE p v key = 0 then climb p key m v.toNat else 0

theorem climb_stop {p key : List Int} {m : Int} {v : Nat} (h : onward p key m v = false) : climb p key m v = v := by
  unfold climb
  cases hd : dp p v with
  | zero => rfl
  | succ f =>
    rw [climbF]
    unfold onward at h
    cases hp : pa p v with
    | none => rfl
    | some u => rw [hp] at h; simp only [decide_eq_false_iff_not] at h; simp only [if_neg h]
theorem climb_go {p key : List Int} {m : Int} {v : Nat} (F : Tree p) (hv : v < p.length) (h : onward p key m v = true) : ∃ u, pa p v = some u ∧ u < p.length ∧ dp p v = dp p u + 1 ∧ climb p key m v = climb p key m u := by
  unfold onward at h
  cases hp : pa p v with
  | none => rw [hp] at h; cases h
  | some u =>
    rw [hp] at h
    have hd := F.up v u hv hp
    refine ⟨u, rfl, F.rng v u hv hp, hd, ?_⟩
    unfold climb
    rw [hd, climbF, hp]
    simp only [decide_eq_true_eq] at h
    simp only [if_pos h]
end Go.Proofs.YtbjakjgabolkeaaDoor
