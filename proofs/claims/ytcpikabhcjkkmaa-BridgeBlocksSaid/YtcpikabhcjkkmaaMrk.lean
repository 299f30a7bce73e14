/- The marks that loops over functions lay, where such a loop stands in a loop: they are all taken at the function's end. No conditions. -/
import Derived.Test.YtcpikabhcjkkmaaMe
import Derived.Test.YtcpikabhcjkkmaaAround
import Derived.RangeFuncNested
import Derived.RangeFuncLeaves
namespace Go.Proofs.Ytcpikabhcjkkmaa
open Go.RowKit Go.Shelf

/-- no mark has been taken -/
def KeepD (w w' : World) : Prop := ∀ (k : Nat) (d : Option (List Deferred)), w.heap[k]? = some (.deferred d) → w'.heap[k]? = some (.deferred d)
theorem KeepD.refl (w : World) : KeepD w w := fun _ _ h => h
theorem KeepD.trans {a b c : World} (h : KeepD a b) (k : KeepD b c) : KeepD a c := fun i d hi => k i d (h i d hi)
theorem KeepD.of_below {w w' : World} (hb : Below w.heap.size w w') : KeepD w w' := fun k _ h => (hb.block k (Array.getElem?_eq_some_iff.1 h).1).trans h
/-- the deferred calls of so many loops over functions -/
def colD (Ds : List Nat) : List Deferred := Ds.map fun D => { target := .collected D, args := #[] }
/-- their marks lie in memory, from a block on -/
def Marks (lo : Nat) (Ds : List Nat) (w : World) : Prop := Ds.Nodup ∧ ∀ D, D ∈ Ds → lo ≤ D ∧ w.heap[D]? = some (.deferred (some []))
theorem Marks.nil (lo : Nat) (w : World) : Marks lo [] w := ⟨List.nodup_nil, fun _ h => by cases h⟩
theorem Marks.keep {lo : Nat} {Ds : List Nat} {w w' : World} (h : Marks lo Ds w) (hk : KeepD w w') : Marks lo Ds w' := ⟨h.1, fun D hD => ⟨(h.2 D hD).1, hk D _ (h.2 D hD).2⟩⟩
theorem Marks.cons {lo D : Nat} {Ds : List Nat} {w : World} (h : Marks lo Ds w) (hD : w.heap[D]? = some (.deferred (some []))) (hlo : lo ≤ D) (hn : D ∉ Ds) : Marks lo (D :: Ds) w :=
  ⟨List.nodup_cons.2 ⟨hn, h.1⟩, fun X hX => by
    rcases List.mem_cons.1 hX with rfl | hX
    · exact ⟨hlo, hD⟩
    · exact h.2 X hX⟩
theorem Marks.lt {lo : Nat} {Ds : List Nat} {w : World} (h : Marks lo Ds w) {D : Nat} (hD : D ∈ Ds) : D < w.heap.size := (Array.getElem?_eq_some_iff.1 (h.2 D hD).2).1
/-- the world when marks have been taken -/
structure Took (lo : Nat) (w w' : World) : Prop where
  below : Below lo w w'
  same : ∀ (k : Nat) (o : Obj), w.heap[k]? = some o → (∀ d, o ≠ .deferred d) → w'.heap[k]? = some o
theorem Took.refl (lo : Nat) (w : World) : Took lo w w := ⟨Below.refl _ _, fun _ _ h _ => h⟩
theorem Took.trans {lo : Nat} {a b c : World} (h : Took lo a b) (k : Took lo b c) : Took lo a c := ⟨h.below.trans k.below, fun i o hi ho => k.same i o (h.same i o hi ho) ho⟩
theorem Took.put {lo D : Nat} {w : World} {d d' : Option (List Deferred)} (hD : w.heap[D]? = some (.deferred d)) (hlo : lo ≤ D) : Took lo w (w.putObj D (.deferred d')) :=
  ⟨(Below.refl _ w).grown (grownBy_putObj' w D _) (Nat.le_trans hlo (Nat.le_of_lt (Array.getElem?_eq_some_iff.1 hD).1)) (fun j e => by cases e; exact hlo),
   fun k o hk ho => (World.putObj_heap_other (fun e => by subst e; rw [hD] at hk; cases hk; exact ho _ rfl)).trans hk⟩
theorem leaves_col {F : Fence} {n : Nat} {P : Program} {fn : Func} {tmps : Array Value} {R : Ending → World → Prop} {v : Value} (lo : Nat) (hres : ∀ w, (results fn tmps).run P w = .ok v w) :
    ∀ (Ds : List Nat) (w : World), Marks lo Ds w → (∀ w', Took lo w w' → R (.returned v) w') → LeavesInM F n P fn tmps R (colD Ds) .returning w
  | [], w, _, h => ⟨v, hres w, h w (Took.refl _ _)⟩
  | D :: Ds, w, hM, h => by
    have hD := hM.2 D (by simp)
    obtain ⟨hnd, hnd2⟩ := List.nodup_cons.1 hM.1
    refine ⟨by simp, .inl ⟨_, _, rfl, run_takeDeferred hD.2, ?_⟩⟩
    refine leaves_col lo hres Ds _ ⟨hnd2, fun X hX => ⟨(hM.2 X (by simp [hX])).1, (World.putObj_heap_other (fun e => hnd (by rw [e] at hX; exact hX))).trans (hM.2 X (by simp [hX])).2⟩⟩ fun w' hw' => h w' ((Took.put hD.2 hD.1).trans hw')
theorem row_took {lo g n : Nat} {f : Nat → Value} {w w' : World} (h : Row w g n f) (ht : Took lo w w') : Row w' g n f := by
  obtain ⟨c, t, h1, h2⟩ := h
  exact ⟨c, t, ht.same g _ h1 (fun d e => by cases e), h2⟩
end Go.Proofs.Ytcpikabhcjkkmaa
