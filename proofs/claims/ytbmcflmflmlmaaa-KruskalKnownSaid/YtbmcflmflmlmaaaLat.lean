/- The walk of kruskal.later. Conditions: the indexes are valid. -/
import Derived.Test.YtbmcflmflmlmaaaOrd
import Derived.Test.YtbmcflmflmlmaaaRow
import Derived.BigQuiet
import Derived.Deep.QuietTactic
namespace Go.Proofs.Ytbmcflmflmlmaaa
open Go.RowKit

/-- the later one of two edges -/
def latE (E : List Ed) (i j : Nat) : Nat := if ltE E j i then i else j
def latO (E : List Ed) (i : Nat) : Option Nat → Nat
  | none => i
  | some j => latE E i j
/-- no edge is -1 -/
def optI : Option Nat → Int
  | none => -1
  | some j => (j : Int)
set_option maxRecDepth 100000 in
set_option maxHeartbeats 1000000 in
theorem later_any (B : Nat) (E : List Ed) (a : Option Addr) (cap : Nat) (A : Nat → Addr) (i : Nat) (r : Option Nat) (w : World) (hE : ES w B (.slice a E.length cap) E A) (hi : i < E.length) (hr : ∀ j, r = some j → j < E.length) :
    Calls Try.prog 50 #[.slice a E.length cap, .int .i64 (i : Nat), .int .i64 (optI r)] w fun e w' => e = .returned (.int .i64 (latO E i r : Nat)) ∧ Below w.heap.size w w' := by
  cases r with
  | none =>
    have k1 : decide ((-1 : Int) < 0) = true := rfl
    unfold optI latO
    clear hr hE
    go_enter Try.func50, Try.ntmps50
    go_wp2_with fail
    go_quiet (fail)
    go_wp2_with fail
    go_ret
    exact ⟨rfl, below_drewN (Below.refl _ _) _⟩
  | some j =>
    have hj := hr j rfl
    unfold optI latO latE
    have k1 : decide ((j : Int) < 0) = false := decide_eq_false (by omega)
    have i1 := hE.ix i hi
    have i2 := hE.ix j hj
    have c1 : ∀ q, (w.drewN q).cell? ⟨(A i).block, (A i).off + 2, none⟩ = some (.int .i64 (eAt E i).w) := fun _ => ES.w hE hi
    have c2 : ∀ q, (w.drewN q).cell? ⟨(A j).block, (A j).off + 2, none⟩ = some (.int .i64 (eAt E j).w) := fun _ => ES.w hE hj
    have hki : (0 : Int) ≤ i ∧ (i : Int) < E.length := by omega
    have hkj : (0 : Int) ≤ j ∧ (j : Int) < E.length := by omega
    have HD := Lib.hid (show ltE E j i ↔ ((eAt E j).w < (eAt E i).w ∨ ((eAt E j).w = (eAt E i).w ∧ j < i)) from Iff.rfl)
    generalize (eAt E i).w = x at *
    generalize (eAt E j).w = y at *
    clear hr hE
    rcases Int.lt_trichotomy x y with h | h | h
    · have HN := Lib.hid (show ¬ ltE E j i from fun c => by have := HD.out.1 c; omega)
      have k2 : decide (x > y) = false := decide_eq_false (by omega)
      have k3 : (x == y) = false := by simp; omega
      clear h
      go_enter Try.func50, Try.ntmps50
      go_wp2_with fail
      go_quiet (fail)
      go_wp2_with fail
      go_ret
      exact ⟨by first | rfl | (rw [if_neg HN.out]; rfl), below_drewN (Below.refl _ _) _⟩
    · subst h
      have k2 : decide (x > x) = false := decide_eq_false (by omega)
      have k3 : (x == x) = true := by simp
      by_cases hij : j < i
      · have HN := Lib.hid (show ltE E j i from HD.out.2 (.inr ⟨rfl, hij⟩))
        have k4 : decide ((i : Int) > (j : Int)) = true := decide_eq_true (by omega)
        go_enter Try.func50, Try.ntmps50
        go_wp2_with fail
        go_quiet (fail)
        go_wp2_with fail
        go_ret
        exact ⟨by first | rfl | (rw [if_pos HN.out]; rfl), below_drewN (Below.refl _ _) _⟩
      · have HN := Lib.hid (show ¬ ltE E j i from fun c => by have := HD.out.1 c; omega)
        have k4 : decide ((i : Int) > (j : Int)) = false := decide_eq_false (by omega)
        go_enter Try.func50, Try.ntmps50
        go_wp2_with fail
        go_quiet (fail)
        go_wp2_with fail
        go_ret
        exact ⟨by first | rfl | (rw [if_neg HN.out]; rfl), below_drewN (Below.refl _ _) _⟩
    · have HN := Lib.hid (show ltE E j i from HD.out.2 (.inl h))
      have k2 : decide (x > y) = true := decide_eq_true (by omega)
      clear h
      go_enter Try.func50, Try.ntmps50
      go_wp2_with fail
      go_quiet (fail)
      go_wp2_with fail
      go_ret
      exact ⟨by first | rfl | (rw [if_pos HN.out]; rfl), below_drewN (Below.refl _ _) _⟩
end Go.Proofs.Ytbmcflmflmlmaaa
