/- All groups of a view as a list of pairs. Conditions: New has made the view, or the labels are known. -/
import Derived.Test.YtibdggbejogciaaGreatCq
import Derived.Test.YtibdggbejogciaaGreatCr
namespace Go.Proofs.YtibdggbejogciaaGreat
open Go.RowKit

/-- the groups of labels -/
def gpL (n : Nat) (f : Nat → Nat) : List (Int × Int) := (lbL f n).map fun (j : Nat) => (((j : Nat) : Int), ((clsN n f j : Nat) : Int))
theorem gpL_len (n : Nat) (f : Nat → Nat) : (gpL n f).length = (lbL f n).length := by simp [gpL]
theorem gpL_at {n : Nat} {f : Nat → Nat} {i : Nat} (h : i < (lbL f n).length) (j : Nat) : gpC n f (lbL f n) i j = pq (gpL n f) i j := by
  unfold gpC pq
  have e : (gpL n f).getD i (0, 0) = ((((lbL f n).getD i 0 : Nat) : Int), ((clsN n f ((lbL f n).getD i 0) : Nat) : Int)) := by
    rw [getD_eq (by rw [gpL_len]; exact h)]
    simp only [gpL, List.getElem_map]
    rw [List.getD_eq_getElem?_getD, List.getElem?_eq_getElem h]; rfl
  rw [e]
theorem AllRes.rdP {n : Nat} {f : Nat → Nat} {w w' : World} {e : Ending} (h : AllRes n f w e w') : ∃ (a : Option Addr) (cap : Nat) (A : Nat → Addr), e = .returned (.slice a (gpL n f).length cap) ∧ Rd 43 2 w' w'.heap.size (.slice a (gpL n f).length cap) (gpL n f).length (pq (gpL n f)) A ∧ Below w.heap.size w w' := by
  obtain ⟨a, cap, A, rfl, h1, h2⟩ := h.rd
  refine ⟨a, cap, A, by rw [gpL_len], ?_, h2⟩
  rw [gpL_len]
  exact ⟨h1.ix, h1.lt, fun i hi j hj => by rw [h1.cell i hi j hj, gpL_at hi]⟩
end Go.Proofs.YtibdggbejogciaaGreat
