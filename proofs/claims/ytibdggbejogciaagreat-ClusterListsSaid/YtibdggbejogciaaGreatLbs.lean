/- Labels as a list, in memory: as they are read, and as a call has laid them. No conditions. -/
import Derived.Test.YtibdggbejogciaaGreatMe
namespace Go.Proofs.YtibdggbejogciaaGreat
open Go.RowKit

/-- labels as a list -/
def labs (n : Nat) (f : Nat → Nat) : List Nat := (List.range n).map f
theorem labs_len (n : Nat) (f : Nat → Nat) : (labs n f).length = n := by simp [labs]
theorem labs_succ (n : Nat) (f : Nat → Nat) : labs (n + 1) f = labs n f ++ [f n] := by simp [labs, List.range_succ]
theorem labs_at {n i : Nat} {f : Nat → Nat} (h : i < n) : (labs n f).getD i 0 = f i := by simp [labs, List.getD, h]
/-- labels in memory, as they are read -/
abbrev LabR (w : World) (B : Nat) (v : Value) (n : Nat) (f : Nat → Nat) (A : Nat → Addr) : Prop := Rd 37 1 w B v n (nums .i64 (intsN (labs n f))) A
theorem lab_cell {w : World} {B n : Nat} {v : Value} {f : Nat → Nat} {A : Nat → Addr} (h : LabR w B v n f A) {i : Nat} (hi : i < n) : w.cell? (A i) = some (.int .i64 ((f i : Nat) : Int)) := by
  have h1 := h.cell i hi 0 (by omega)
  rw [add_zero] at h1
  rw [h1]
  unfold nums
  rw [intsN_nth, labs_at hi]
/-- labels that a call has laid -/
def LabO (base : Nat) (v : Value) (n : Nat) (f : Nat → Nat) (w : World) : Prop := w.ownsRow base 3 1 v n ((intsN (labs n f)).map (Value.int .i64))
theorem LabO.rd {base n : Nat} {v : Value} {f : Nat → Nat} {w : World} (h : LabO base v n f w) : ∃ a cap A, v = .slice a n cap ∧ LabR w w.heap.size (.slice a n cap) n f A := by
  have h0 : OwnI base v (labs n f) w := by unfold OwnI; rw [labs_len]; exact h
  obtain ⟨a, cap, A, e1, e2⟩ := ownI_rd h0
  rw [labs_len] at e1 e2
  exact ⟨a, cap, A, e1, e2⟩
theorem labs_id_succ (k : Nat) : intsN (labs (k + 1) id) = intsN (labs k id) ++ [(k : Int)] := by rw [labs_succ, intsN_snoc]; rfl
end Go.Proofs.YtibdggbejogciaaGreat
