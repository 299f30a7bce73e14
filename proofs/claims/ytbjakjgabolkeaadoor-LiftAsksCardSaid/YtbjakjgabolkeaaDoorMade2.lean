/- The walk of made of the law: a forest out of a list of bytes, turned round or not, and its table. Conditions: the bytes are given as cells; the library's table of de Bruijn is as its initialiser lays it. -/
import Derived.Test.YtbjakjgabolkeaaDoorMade
namespace Go.Proofs.YtbjakjgabolkeaaDoor
open Go.RowKit Go.Shelf

theorem grownL_len (L : List Int) : (grownL L).length = L.length := by simp [grownL]
theorem grownL_nth (L : List Int) {i : Nat} (h : i < L.length) : nth (grownL L) i = nth L i % ((i : Int) + 1) - 1 := by
  simp [grownL, nth, h]
def turnedL (P : List Int) : List Int := (List.range P.length).map fun u => if 0 ≤ nth P (P.length - 1 - u) then (P.length : Int) - 1 - nth P (P.length - 1 - u) else -1
theorem turnedL_len (P : List Int) : (turnedL P).length = P.length := by simp [turnedL]
theorem turnedL_nth (P : List Int) {u : Nat} (h : u < P.length) : nth (turnedL P) u = if 0 ≤ nth P (P.length - 1 - u) then (P.length : Int) - 1 - nth P (P.length - 1 - u) else -1 := by
  simp only [turnedL, nth, List.getD, List.getElem?_map]
  rw [List.getElem?_range h]; rfl
/-- the parents that made makes -/
def madeL (L : List Int) (turned : Bool) : List Int := if turned then turnedL (grownL (L.take 300)) else grownL (L.take 300)
theorem pa_nth {p : List Int} {v u : Nat} (h : pa p v = some u) : v < p.length ∧ nth p v = u := by
  have hv := pa_lt h
  rw [pa_some] at h
  exact ⟨hv, by simp [nth, h]⟩
theorem newE_of {p : List Int} (hl : p.length ≤ 8192) (hR : InRange p) (F : Tree p) : newE p = 0 := by
  unfold newE
  rw [if_neg (by omega), if_pos (inRB_iff.2 hR), if_pos (treeB_iff.2 F)]
theorem grown_low (L : List Int) {i : Nat} (h : i < L.length) : -1 ≤ nth (grownL L) i ∧ nth (grownL L) i < i := by
  rw [grownL_nth L h]
  have h1 := Int.emod_nonneg (nth L i) (show (i : Int) + 1 ≠ 0 by omega)
  have h2 := Int.emod_lt_of_pos (nth L i) (show (0 : Int) < (i : Int) + 1 by omega)
  omega
theorem newE_grown (L : List Int) (hl : L.length ≤ 300) : newE (grownL L) = 0 := by
  refine newE_of (by rw [grownL_len]; omega) (fun i hi => ?_) (tree_of_rank (fun v => v) (fun v u h => ?_))
  · rw [grownL_len] at hi ⊢
    have := grown_low L hi; omega
  · obtain ⟨hv, hn⟩ := pa_nth h
    rw [grownL_len] at hv ⊢
    have := grown_low L hv; omega
theorem newE_turned (L : List Int) (hl : L.length ≤ 300) : newE (turnedL (grownL L)) = 0 := by
  have key : ∀ u, u < L.length → (nth (turnedL (grownL L)) u = -1 ∨ ((u : Int) < nth (turnedL (grownL L)) u ∧ nth (turnedL (grownL L)) u < L.length)) := fun u hu => by
    rw [turnedL_nth _ (by rw [grownL_len]; exact hu), grownL_len]
    have := grown_low L (i := L.length - 1 - u) (by omega)
    split
    · right; omega
    · left; rfl
  have hlen : (turnedL (grownL L)).length = L.length := by rw [turnedL_len, grownL_len]
  refine newE_of (by omega) (fun i hi => ?_) (tree_of_rank (fun v => L.length - v) (fun v u h => ?_))
  · rw [hlen] at hi ⊢
    have := key i hi; omega
  · obtain ⟨hv, hn⟩ := pa_nth h
    rw [hlen] at hv ⊢
    have := key v hv
    omega
theorem newE_made (L : List Int) (turned : Bool) : newE (madeL L turned) = 0 := by
  have h : (L.take 300).length ≤ 300 := by simp; omega
  cases turned
  · exact newE_grown _ h
  · exact newE_turned _ h

def MadePost (p : List Int) (w : World) (e : Ending) (w' : World) : Prop :=
  ∃ b a cap A B, e = .returned (.tuple #[.pointer (some ⟨b, 0, none⟩), .slice a p.length cap]) ∧ St w B b p w' ∧ Sl 25 .i64 w' w'.heap.size (.slice a p.length cap) p A

theorem Sl.take {t : TypeId} {k : IntKind} {w : World} {B n cap m : Nat} {a : Option Addr} {l : List Int} {A : Nat → Addr} {e : TypeId} {by' : Nat} (E : ET t e 1 by') (h : Sl t k w B (.slice a n cap) l A) (hn : l.length = n) (hm : m ≤ n) : Sl t k w B (.slice a m cap) (l.take m) A := by
  have hl : (l.take m).length = m := by simp; omega
  have hnth : ∀ i, i < m → nth (l.take m) i = nth l i := fun i hi => by simp [nth, hi]
  refine ⟨fun i hi w' => ?_, fun i hi => h.lt i (by omega), fun i hi => by rw [hnth i (by omega)]; exact h.cell i (by omega)⟩
  have h1 := h.ix i (by omega) w'
  have he : Tryd.prog.elem t = e := by simp [Program.elem, E.ht]
  cases a with
  | none =>
    exfalso
    have h2 : (Instr.indexAt t (.slice none n cap) (.int .i64 i)).run Tryd.prog w' = (boundsPanic .i64 i 0 .index).run Tryd.prog w' := by
      simp [Instr.indexAt, run_underlying E.ht, asIntOf]
    rw [h2] at h1
    obtain ⟨s, w2, hrun⟩ := run_boundsPanic (α := Value) (P := Tryd.prog) (w := w') .i64 (i : Int) 0 .index
    rw [hrun] at h1; cases h1
  | some ad =>
    rw [run_indexAt_slice w' t ad n cap .i64 i (by rw [E.ht, he]), if_pos (by omega)] at h1
    rw [run_indexAt_slice w' t ad m cap .i64 i (by rw [E.ht, he]), if_pos (by omega)]
    exact h1

theorem bytes_take {L : List Int} {m : Nat} (hb : ∀ i, i < L.length → 0 ≤ nth L i ∧ nth L i ≤ 255) : ∀ i, i < (L.take m).length → 0 ≤ nth (L.take m) i ∧ nth (L.take m) i ≤ 255 := by
  intro i hi
  have h2 : i < m ∧ i < L.length := by simp at hi; omega
  have : nth (L.take m) i = nth L i := by simp [nth, h2.1]
  rw [this]; exact hb i h2.2

end Go.Proofs.YtbjakjgabolkeaaDoor
