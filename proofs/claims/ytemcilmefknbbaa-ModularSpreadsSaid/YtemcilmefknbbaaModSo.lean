/- slices.Sort of a row that the call owns, in plain words. No conditions but that the row is short. -/
import Derived.Test.YtemcilmefknbbaaModA
import Derived.Test.YtemcilmefknbbaaModFq
import Derived.Test.YtemcilmefknbbaaModRg
namespace Go.Proofs.Ytemcilmefknbbaa
open Go.RowKit Go.Shelf Go.Maps Go.Sort

theorem RowN.holds {w : World} {g : Nat} {K : List Int} (h : RowN w g K.length K) : Holds (Value.int .i64) w g 0 K.toArray := fun j hj => by
  have hj' : j < K.length := by simpa using hj
  rw [Nat.zero_add]
  refine ⟨?_, h.frozen j⟩
  rw [h.cell hj']
  simp [nth, List.getD, hj']
theorem holds_sl {w : World} {g cap : Nat} {K : List Int} (h : Holds (Value.int .i64) w g 0 K.toArray) (hg : g < w.heap.size) : Sl 23 .i64 w w.heap.size (.slice (some ⟨g, 0, none⟩) K.length cap) K (fun j => (⟨g, 0, none⟩ : Addr).add (j * 1)) := by
  refine Rd.addr etI (fun _ => hg) fun k hk j hj => ?_
  obtain rfl : j = 0 := by omega
  have h1 := (h k (by simpa using hk)).1
  rw [Nat.zero_add] at h1
  rw [add_mk, Nat.mul_one, Nat.add_zero, Nat.zero_add, h1]
  simp [nums, nth, List.getD, hk]
theorem sort_row (g cap base : Nat) (K : List Int) (w : World) (h : RowN w g K.length K) (hl : K.length < 4611686018427387904) (hb : base ≤ g) :
    Calls Try.prog 67 #[.slice (some ⟨g, 0, none⟩) K.length cap] w fun e w' => e = .returned (.tuple #[]) ∧
      (∃ A, Sl 23 .i64 w' w'.heap.size (.slice (some ⟨g, 0, none⟩) K.length cap) (K.mergeSort fun x y => decide (x ≤ y)) A) ∧ Below base w w' := by
  refine (AnyM.slices_Sort_int Try.sortA g 0 cap K w h.holds h.lt hl).mono ?_
  rintro e w' ⟨rfl, n, os, rfl⟩
  have hH : Holds (Value.int .i64) (Sort.ahead w n) g 0 K.toArray := h.holds
  have hl2 : (K.mergeSort fun x y => decide (x ≤ y)).length = K.length := List.length_mergeSort _
  have hH2 := holds_putRow (Value.int .i64) (Sort.ahead w n) g 0 K.toArray (K.mergeSort fun x y => decide (x ≤ y)).toArray hH (by simp [hl2])
  have hg : g < (putRow (Value.int .i64) (Sort.ahead w n) g 0 (K.mergeSort fun x y => decide (x ≤ y)).toArray).heap.size := by rw [size_putRow]; exact h.lt
  have hH3 := holds_grow (Value.int .i64) _ os g 0 _ hg hH2
  refine ⟨rfl, ⟨fun j => (⟨g, 0, none⟩ : Addr).add (j * 1), ?_⟩, ?_⟩
  · have := holds_sl (cap := cap) hH3 (by simp [grow]; have := h.lt; omega)
    rw [hl2] at this
    exact this
  · refine ⟨rfl, rfl, rfl, ?_, fun k hk => ?_⟩
    · show w.heap.size ≤ ((putRow (Value.int .i64) (Sort.ahead w n) g 0 (K.mergeSort fun x y => decide (x ≤ y)).toArray).heap ++ os).size
      have : (putRow (Value.int .i64) (Sort.ahead w n) g 0 (K.mergeSort fun x y => decide (x ≤ y)).toArray).heap.size = w.heap.size := size_putRow _ _ _ _ _
      rw [Array.size_append]; omega
    · have hk2 : k < (putRow (Value.int .i64) (Sort.ahead w n) g 0 (K.mergeSort fun x y => decide (x ≤ y)).toArray).heap.size := by
        rw [size_putRow]; have := h.lt; show k < w.heap.size; omega
      refine (Go.Sort.heap_grow_old _ os hk2).trans ?_
      show (mapBlock (Sort.ahead w n) g _).heap[k]? = w.heap[k]?
      have hne : g ≠ k := by omega
      show (w.heap.modify g _)[k]? = w.heap[k]?
      rw [Array.getElem?_modify, if_neg hne]
end Go.Proofs.Ytemcilmefknbbaa
