/- Slices of indexes that a call owns: reading them, writing one cell. No conditions. -/
import Derived.Test.YtcpikabhcjkkmaaOwnR
namespace Go.Proofs.Ytcpikabhcjkkmaa
open Go.RowKit

/-- indexes as Go's numbers -/
def intsN (l : List Nat) : List Int := l.map fun (x : Nat) => (x : Int)
theorem intsN_len (l : List Nat) : (intsN l).length = l.length := by simp [intsN]
theorem intsN_snoc (l : List Nat) (i : Nat) : intsN (l ++ [i]) = intsN l ++ [(i : Int)] := by simp [intsN]
theorem intsN_nth {l : List Nat} {i : Nat} : nth (intsN l) i = ((l.getD i 0 : Nat) : Int) := by
  unfold nth intsN
  rw [List.getD_eq_getElem?_getD, List.getD_eq_getElem?_getD, List.getElem?_map]
  cases l[i]? <;> rfl
/-- a slice of indexes that the call owns -/
def OwnI (base : Nat) (v : Value) (l : List Nat) (w : World) : Prop := w.ownsRow base 3 1 v l.length ((intsN l).map (Value.int .i64))
theorem take_snocN {l : List Nat} {k : Nat} (h : k < l.length) : l.take (k + 1) = l.take k ++ [l.getD k 0] := by
  rw [List.take_succ_eq_append_getElem h]; simp [List.getD, h]
theorem ownI_rd {w : World} {base : Nat} {v : Value} {l : List Nat} (h : OwnI base v l w) : ∃ a cap A, v = .slice a l.length cap ∧ Rd 29 1 w w.heap.size (.slice a l.length cap) l.length (nums .i64 (intsN l)) A := by
  have h1 : w.ownsRow base 3 1 v l.length (flat (nums .i64 (intsN l)) l.length 1) := by
    have := flat_nums .i64 (intsN l)
    rw [intsN_len] at this
    rw [this]; exact h
  obtain ⟨a, cap, A, rfl, h2⟩ := Rd.own etI h1
  exact ⟨a, cap, A, rfl, h2⟩
theorem ownI_below {w w' : World} {base : Nat} {v : Value} {l : List Nat} (h : OwnI base v l w) (hb : Below w.heap.size w w') : OwnI base v l w' := ownsRow_below h hb
/-- one cell of an owned row is written -/
theorem own_set {w : World} {base n cap g i : Nat} {e : TypeId} {xs : List Value} (h : w.ownsRow base e 1 (.slice (some ⟨g, 0, none⟩) n cap) n xs) (u : Value) : (w.setCell ⟨g, i, none⟩ u).ownsRow base e 1 (.slice (some ⟨g, 0, none⟩) n cap) n (xs.set i u) := by
  refine ⟨by rw [List.length_set]; exact h.1, ?_⟩
  rcases h.2 with ⟨h0, _⟩ | ⟨g', cap', cur, h1, hb, hg, hn, hm, hs, ht⟩
  · cases h0
  · cases h1
    refine .inr ⟨g, cap, cur.setIfInBounds i u, rfl, hb, ?_, hn, hm, by simpa using hs, ?_⟩
    · simp [World.setCell, Array.getElem?_modify, hg]
    · rw [Array.toList_setIfInBounds, List.take_set, ht]
theorem own_cell {w : World} {base n cap g i : Nat} {e : TypeId} {xs : List Value} {u : Value} (h : w.ownsRow base e 1 (.slice (some ⟨g, 0, none⟩) n cap) n xs) (hu : xs[i]? = some u) : w.cell? ⟨g, i, none⟩ = some u ∧ w.frozen? ⟨g, i, none⟩ = false := by
  have hi : i < n := by have := (List.getElem?_eq_some_iff.1 hu).1; have := h.1; omega
  have r := Row.owned h
  refine ⟨?_, r.frozen i⟩
  rw [r.cell hi]
  simp [List.getD, hu]
theorem intsN_at {l : List Nat} {i : Nat} (h : i < l.length) : ((intsN l).map (Value.int .i64))[i]? = some (.int .i64 ((l.getD i 0 : Nat) : Int)) := by
  simp [intsN, List.getD, h]
theorem intsN_set (l : List Nat) (i x : Nat) : ((intsN l).map (Value.int .i64)).set i (.int .i64 (x : Nat)) = (intsN (l.set i x)).map (Value.int .i64) := by
  simp [intsN, List.map_set]
end Go.Proofs.Ytcpikabhcjkkmaa
