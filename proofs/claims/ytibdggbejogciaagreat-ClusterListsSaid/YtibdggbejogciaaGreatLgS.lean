/- The largest class, and the sum of the squares of the classes. No conditions. -/
import Derived.Test.YtibdggbejogciaaGreatDsGp
import Derived.Test.YtibdggbejogciaaGreatMe
namespace Go.Proofs.YtibdggbejogciaaGreat
open Go.RowKit

/-- the largest class, and the sum of the squares -/
def lgN (n : Nat) (lab : Nat → Nat) (l : List Nat) : Nat := l.foldl (fun a j => max a (clsN n lab j)) 0
def sqN (n : Nat) (lab : Nat → Nat) (l : List Nat) : Nat := (l.map fun j => clsN n lab j * clsN n lab j).sum
theorem lgN_snoc (n : Nat) (lab : Nat → Nat) (l : List Nat) (j : Nat) : lgN n lab (l ++ [j]) = max (lgN n lab l) (clsN n lab j) := by simp [lgN]
theorem sqN_snoc (n : Nat) (lab : Nat → Nat) (l : List Nat) (j : Nat) : sqN n lab (l ++ [j]) = sqN n lab l + clsN n lab j * clsN n lab j := by simp [sqN]
theorem lgN_le (n : Nat) (lab : Nat → Nat) (l : List Nat) : lgN n lab l ≤ n := by
  induction l using rev_ind with
  | h0 => simp [lgN]
  | h1 l j ih => rw [lgN_snoc]; have := clsN_le n lab j; omega
theorem sqN_le (n : Nat) (lab : Nat → Nat) (l : List Nat) : sqN n lab l ≤ l.length * (n * n) := by
  induction l using rev_ind with
  | h0 => simp [sqN]
  | h1 l j ih =>
    rw [sqN_snoc, List.length_append, List.length_singleton, Nat.add_mul, Nat.one_mul]
    have h := clsN_le n lab j
    have := Nat.mul_le_mul h h
    omega
/-- what Row answers -/
def RowRes (n : Nat) (lab : Nat → Nat) (w : World) (e : Ending) (w' : World) : Prop :=
  e = .returned (.agg #[.int .i64 (lgN n lab (lbL lab n) : Nat), .int .i64 (cntN n lab : Nat), .int .i64 (sqN n lab (lbL lab n) : Nat)]) ∧ Below w.heap.size w w'
theorem row3 (w : World) (x y z : Value) (t : TypeId) : Row (w.alloc (.cells #[x, y, z] t)) w.heap.size 3 (fun i => (#[x, y, z] : Array Value).getD i undef) :=
  Row.lit w _ _ (by simp) fun i hi => by
    match i, hi with
    | 0, _ => rfl
    | 1, _ => rfl
    | 2, _ => rfl
    | n + 3, h => omega
end Go.Proofs.YtibdggbejogciaaGreat
