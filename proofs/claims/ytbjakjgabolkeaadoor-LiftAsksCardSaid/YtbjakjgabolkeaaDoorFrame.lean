/- What all the laws of this seat share: the library's tables as the rows list them, a world for the witness, and how a slice that came in is read. No conditions. -/
import Derived.Test.YtbjakjgabolkeaaDoorCards
import Derived.Test.YtbjakjgabolkeaaDoorTie
import Derived.Test.YtbjakjgabolkeaaDoorMade3
import Derived.WalkKit
import Derived.ProofKit
import Derived.OpenShut
import Derived.ChangeOld
import Derived.Stop.LaidErr
import Derived.Deep.DeepHandedRow
import Derived.Lib.LaidTab
namespace Go.Proofs.YtbjakjgabolkeaaDoor
open Go.ChangeShapes Go.WideShapes Go.ChangeAt Go.RowKit

theorem own : ownKnob Tryd.prog.godebug = none := by kernel_rfl
theorem laidOut : laidOutB Tryd.prog = true := by kernel_rfl
theorem gTab : Tryd.prog.globalNamed "math/bits.deBruijn64tab" = some 1 := by kernel_rfl
theorem gTabType : (Tryd.prog.globals[1]?).map (·.type) = some 79 := by kernel_rfl
theorem cells79 : Tryd.prog.cellsOf 79 = 64 := by kernel_rfl
theorem cells5 : Tryd.prog.cellsOf 5 = 1 := by kernel_rfl
theorem cells60 : Tryd.prog.cellsOf 60 = 1 := by kernel_rfl
theorem cells3 : Tryd.prog.cellsOf 3 = 1 := by kernel_rfl
theorem cells2 : Tryd.prog.cellsOf 2 = 1 := by kernel_rfl
def tab64 : List Int := [0, 1, 56, 2, 57, 49, 28, 3, 61, 58, 42, 50, 38, 29, 17, 4, 62, 47, 59, 36, 45, 43, 51, 22, 53, 39, 33, 30, 24, 18, 12, 5, 63, 55, 48, 27, 60, 41, 37, 16, 46, 35, 44, 21, 52, 32, 23, 11, 54, 26, 40, 15, 34, 20, 31, 10, 25, 14, 19, 9, 13, 8, 7, 6]

/-- what the rows' list gives -/
theorem deB_of_laid {W : World} (h : laidMetH Tryd.prog [("math/bits.deBruijn32tab", Rows.laid_math_bits_deBruijn32tab), ("math/bits.deBruijn64tab", Rows.laid_math_bits_deBruijn64tab)] W) : DeB W := by
  have h1 : laidMet Tryd.prog [("math/bits.deBruijn32tab", Rows.laid_math_bits_deBruijn32tab), ("math/bits.deBruijn64tab", Rows.laid_math_bits_deBruijn64tab)] W := h
  have h2 := h1.tail
  have h3 : Lib.TabIs Tryd.prog W "math/bits.deBruijn64tab" .u8 tab64 := Lib.tabIs_of_head (rest := []) gTab gTabType Tryd.underlying79 Tryd.underlying5 cells5 cells79 h2
  intro j hj
  have hl : Lib.deBruijn64tab.length = 64 := rfl
  have h4 := h3.cell gTab j (by rw [hl] at hj; exact hj)
  rw [h4]
  congr 2
  have : ∀ j, j < 64 → tab64.getD j 0 = ((Lib.deBruijn64tab.getD j 0 : Nat) : Int) := by decide +kernel
  exact this j (by rw [hl] at hj; exact hj)

/-- a world for the witness: the settled one, the two tables holding what their initialisers lay -/
def layTab (cs : Array Value) : Obj → Obj
  | .cells _ t frozen => .cells cs t frozen
  | o => o
def tab32 : List Int := [0, 1, 28, 2, 29, 14, 24, 3, 30, 22, 20, 15, 25, 17, 4, 8, 31, 27, 13, 23, 21, 19, 16, 7, 26, 12, 18, 6, 11, 5, 10, 9]
noncomputable def laidWorld (os : Os) : World :=
  { World.holding Tryd.prog os ⟨#[], #[], []⟩ with heap := ((World.holding Tryd.prog os ⟨#[], #[], []⟩).heap.modify 0 (layTab (tab32.map (Value.int .u8)).toArray)).modify 1 (layTab (tab64.map (Value.int .u8)).toArray) }

/-- what is known of a slice of integers that came in -/
structure Came (t : TypeId) (k : IntKind) (w : World) (a : Option Addr) (n cap : Nat) (L : List Int) : Prop where
  len : L.length = n
  fits : n ≤ cap
  big : cap ≤ maxLen
  sl : ∃ A, Sl t k w w.heap.size (.slice a n cap) L A
  wf : ∀ i, i < n → (Lit.int k (nth L i)).wf = true
theorem came_of {H : Type} {enc : TypeId × Value → H} {t e : TypeId} {by' : Nat} {k : IntKind} {W : World} {fuel : Nat} {a : Option Addr} {n cap : Nat} {x : DataW H × List MemPlace} (E : ET t e 1 by')
    (he : Tryd.prog.underlying e = some (.int k)) (hc : Tryd.prog.cellsOf e = 1) (h : DataW.trod enc Tryd.prog W 0 (fun _ => true) true fuel t [.slice a n cap] = some x) : ∃ L, Came t k W a n cap L := by
  rcases open_ints E.ht he hc h with ⟨hcs, _⟩ | ⟨y, l, c, zs, hcs, _, hl, hm, hz, _, hcell, hwz⟩
  · simp at hcs
    obtain ⟨rfl, rfl, rfl⟩ := hcs
    exact ⟨[], rfl, Nat.le_refl _, Nat.zero_le _, ⟨fun _ => ⟨0, 0, none⟩, Sl.nil _⟩, fun i hi => absurd hi (by omega)⟩
  · simp at hcs
    obtain ⟨rfl, rfl, rfl⟩ := hcs
    have hz : zs.length = cap := by simpa using hz
    have hlen : (zs.take n).length = n := by simp; omega
    have hnth : ∀ i, i < n → nth (zs.take n) i = zs.getD i 0 := fun i hi => by simp [nth, List.getD, hi]
    refine ⟨zs.take n, hlen, hl, hm, ?_, fun i hi => ?_⟩
    · by_cases h0 : n = 0
      · subst h0
        exact ⟨fun _ => ⟨0, 0, none⟩, Sl.nil _⟩
      · have hblk : y.block < W.heap.size := by
          have h1 := hcell 0 (by omega)
          obtain ⟨o, ho, _⟩ := cells_of_cell h1
          have := (Array.getElem?_eq_some_iff.1 ho).1
          rw [add_block] at this; exact this
        exact ⟨_, Sl.addr E hlen hblk (fun i hi => by rw [hnth i (by omega)]; exact hcell i (by omega))⟩
    · rw [hnth i hi]
      refine hwz _ ?_
      have : i < zs.length := by omega
      rw [List.getD, List.getElem?_eq_getElem this]
      exact List.getElem_mem this
theorem Came.bytes {t : TypeId} {w : World} {a : Option Addr} {n cap : Nat} {L : List Int} (h : Came t .u8 w a n cap L) : ∀ i, i < L.length → 0 ≤ nth L i ∧ nth L i ≤ 255 := fun i hi => bounds_u8 (h.wf i (by have := h.len; omega))
end Go.Proofs.YtbjakjgabolkeaaDoor
