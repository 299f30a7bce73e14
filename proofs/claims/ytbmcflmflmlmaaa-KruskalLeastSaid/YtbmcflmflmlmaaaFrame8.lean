/- How slices of small numbers are read. No conditions. -/
import Derived.Test.YtbmcflmflmlmaaaFrameL
namespace Go.Proofs.Ytbmcflmflmlmaaa
open Go.ChangeShapes Go.WideShapes Go.ChangeAt Go.RowKit

section
variable {H : Type} {enc : TypeId × Value → H} {w : World} {base : Nat} {spare : Nat → Bool} {held : Bool}
theorem Try.info8 : (Try.prog.info? 55).map (fun i => (i.zero, i.size, i.bytes)) = some (some (.int .i8 0), 1, 1) := by kernel_rfl
theorem et8 : ET 54 55 1 1 := ET.of Try.underlying54 Try.info8 rfl (by decide)
set_option maxRecDepth 100000 in
theorem i8s_of {c : Value} {fuel : Nat} {x : DataW H × List MemPlace} (hf : DataW.trod enc Try.prog w base spare held fuel 54 [c] = some x) :
    ∃ (a : Option Addr) (cap : Nat) (L : List Int) (A : Nat → Addr), c = .slice a L.length cap ∧ Sl 54 .i8 w w.heap.size c L A ∧ L.length ≤ 9223372036854775807 ∧ (∀ z, z ∈ L → -128 ≤ z ∧ z ≤ 127) := by
  rcases open_ints Try.underlying54 Try.underlying55 (by kernel_rfl) hf with ⟨hcs, _⟩ | ⟨y, l, cc, zs, hcs, _, hl, hm, hz, _, hcell, hwz⟩
  · simp only [List.cons.injEq, and_true] at hcs
    subst hcs
    exact ⟨none, 0, [], fun _ => ⟨0, 0, none⟩, rfl, Rd.nil _, by decide, fun _ h => by cases h⟩
  · simp only [List.cons.injEq, and_true] at hcs
    subst hcs
    have hzl : l ≤ zs.length := by rw [hz]; split <;> omega
    have hmax : cc ≤ 9223372036854775807 := hm
    have hlen : (zs.take l).length = l := by rw [List.length_take]; omega
    have hnth : ∀ i, i < l → nth (zs.take l) i = zs.getD i 0 := fun i hi => by simp [nth, List.getD, hi]
    refine ⟨some y, cc, zs.take l, fun i => y.add (i * 1), by rw [hlen], ?_, by omega, fun z hz2 => bounds_i8 (hwz z (List.mem_of_mem_take hz2))⟩
    have e := hlen
    show Rd _ _ _ _ _ (zs.take l).length _ _
    rw [hlen]
    refine Rd.addr et8 (fun h0 => ?_) fun i hi j hj => ?_
    · have := World.block_lt_of_cell? w _ (hcell 0 (by omega))
      rw [add_block] at this; exact this
    · obtain rfl : j = 0 := by omega
      rw [Nat.mul_one, Nat.add_zero, hcell i (by omega)]
      show _ = some (Value.int .i8 (nth (zs.take l) i))
      rw [hnth i hi]
set_option maxRecDepth 100000 in
/-- a slice of small numbers that came in -/
theorem came_i8s {v : Value} {d : DataW H} {p : List MemPlace} {r : Reach} {b0 : Nat} (hv : Value.okWide Try.prog w r b0 54 v) (h : DataW.Trod enc Try.prog w base spare held 54 v d p) :
    ∃ (a : Option Addr) (cap : Nat) (L : List Int) (A : Nat → Addr), v = .slice a L.length cap ∧ Sl 54 .i8 w w.heap.size v L A ∧ L.length ≤ 9223372036854775807 ∧ (∀ z, z ∈ L → -128 ≤ z ∧ z ≤ 127) := by
  obtain ⟨a, len, cap, rfl⟩ := okWide_slice Try.underlying54 hv
  obtain ⟨fuel, hf⟩ := h
  exact i8s_of hf
end
end Go.Proofs.Ytbmcflmflmlmaaa
