/- slices.Sort of a slice of indexes that a call owns; slices.BinarySearch in a sorted one. Conditions: they are not too long. -/
import Derived.Test.YtcpikabhcjkkmaaMe
import Derived.Test.YtcpikabhcjkkmaaPl
import Derived.Test.YtcpikabhcjkkmaaShelf
import Derived.Sort.OwnSortedInts
namespace Go.Proofs.Ytcpikabhcjkkmaa
open Go.RowKit Go.Shelf Go.Sort

/-- the members of a range that a test picks -/
def selN (m : Nat) (p : Nat → Prop) [DecidablePred p] : List Nat := (List.range m).filter fun i => decide (p i)
theorem selN_lt (m : Nat) (p : Nat → Prop) [DecidablePred p] : (selN m p).Pairwise (· < ·) := List.pairwise_lt_range.filter _
theorem mem_selN {m : Nat} {p : Nat → Prop} [DecidablePred p] {i : Nat} : i ∈ selN m p ↔ i < m ∧ p i := by simp [selN]
theorem intsN_sort (l : List Nat) : ((intsN l).mergeSort fun x y => decide (x ≤ y)) = intsN (srtN l) := by
  unfold intsN srtN
  rw [List.map_mergeSort]
  intro a _ b _
  simp
theorem sort_own (base : Nat) (v : Value) (l : List Nat) (w : World) (h : OwnI base v l w) (hl : l.length ≤ 1000000) :
    Calls Try.prog 39 #[v] w fun e w' => e = .returned (.tuple #[]) ∧ OwnI base v (srtN l) w' ∧ w.grownBy w' v.ownBlock := by
  have h0 := h
  rcases h.2 with ⟨rfl, e2⟩ | ⟨g, cap, cur, rfl, e2, e3, e4, e5, e6, e7⟩
  · obtain rfl := List.length_eq_zero_iff.1 e2
    refine (AnyM.slices_Sort_int_none Try.sortA none 0 w).mono ?_
    rintro e w' ⟨rfl, rfl⟩
    have hn : srtN [] = [] := List.mergeSort_nil
    exact ⟨rfl, by rw [hn]; exact h0, ⟨rfl, rfl, rfl, Nat.le_refl _, fun _ _ _ => rfl⟩⟩
  · have hH : Holds (Value.int .i64) w g 0 (intsN l).toArray := fun j hj => by
      have hj' : j < l.length := by simpa [intsN_len] using hj
      have := own_cell h0 (i := j) (intsN_at hj')
      rw [Nat.zero_add]
      refine ⟨?_, this.2⟩
      rw [this.1]
      simp [intsN, List.getD, hj']
    have hs := AnyM.slices_Sort_int Try.sortA g 0 cap (intsN l) w hH (Array.getElem?_eq_some_iff.1 e3).1 (by rw [intsN_len]; omega)
    rw [intsN_len] at hs
    refine hs.mono ?_
    rintro e w' ⟨rfl, n, os, rfl⟩
    rw [intsN_sort]
    have ho := ownsRow_sortedI (n := n) (os := os) (ss := intsN l) (ts := intsN (srtN l)) (by rw [intsN_len, intsN_len, srtN_len]) e2 e3 (by rw [intsN_len]; exact e4) e5 e6
    rw [intsN_len] at ho
    refine ⟨rfl, ?_, grownBy_sortedI _⟩
    unfold OwnI
    rw [srtN_len]; exact ho
/-- is an index among sorted ones? -/
theorem bsearch_own (base : Nat) (v : Value) (l : List Nat) (w : World) (h : OwnI base v l w) (hs : l.Pairwise (· < ·)) (hl : l.length ≤ 1000000) (x : Nat) :
    Calls Try.prog 47 #[v, .int .i64 (x : Nat)] w fun e w' => (∃ i : Int, e = .returned (.tuple #[.int .i64 i, .bool (decide (x ∈ l))])) ∧ ∃ q, w' = w.drewN q := by
  have h0 := h
  rcases h.2 with ⟨rfl, e2⟩ | ⟨g, cap, cur, rfl, e2, e3, e4, e5, e6, e7⟩
  · obtain rfl := List.length_eq_zero_iff.1 e2
    refine (Any.slices_BinarySearch_int_empty Try.searchA none 0 (x : Int) w).mono ?_
    rintro e w' ⟨rfl, rfl⟩
    exact ⟨⟨_, rfl⟩, 0, rfl⟩
  · have hp : (intsN l).Pairwise (· ≤ ·) := by
      unfold intsN
      rw [List.pairwise_map]
      exact hs.imp fun h => by omega
    have hc := Any.slices_BinarySearch_int Try.searchA g 0 l.length cap (intsN l) (x : Int) w (by rw [intsN_len]; exact Nat.le_refl _) (by omega) (fun j hj => by
      rw [intsN_len] at hj
      rw [Nat.zero_add, (own_cell h0 (i := j) (intsN_at hj)).1]
      simp [intsN, List.getD, hj]) (by rw [← intsN_len l, List.take_length]; exact hp)
    refine hc.mono ?_
    rintro e w' ⟨rfl, hq⟩
    have hcn : ((intsN l).take l.length).contains (x : Int) = decide (x ∈ l) := by
      rw [← intsN_len l, List.take_length]
      by_cases c : x ∈ l
      · rw [decide_eq_true c, List.contains_iff_mem]
        exact List.mem_map_of_mem c
      · rw [decide_eq_false c]
        cases hh : (intsN l).contains (x : Int) with
        | false => rfl
        | true =>
          rw [List.contains_iff_mem] at hh
          obtain ⟨y, hy, e⟩ := List.mem_map.1 hh
          have e : y = x := by omega
          rw [e] at hy
          exact absurd hy c
    exact ⟨⟨_, by rw [hcn]⟩, hq⟩
end Go.Proofs.Ytcpikabhcjkkmaa
