/- The marks that loops over functions lay, where such a loop stands in a loop: they are all taken at the function's end. No conditions. -/
import Derived.Test.YtemcilmefknbbaaModMv
namespace Go.Proofs.Ytemcilmefknbbaa
open Go.RowKit Go.Shelf Go.Maps Go.Sort

/-- the deferred calls of so many loops over functions -/
def colD (Ds : List Nat) : List Deferred := Ds.map fun D => { target := .collected D, args := #[] }
/-- their marks lie in memory, from a block on -/
def Marks (lo : Nat) (Ds : List Nat) (w : World) : Prop := Ds.Nodup ∧ ∀ D, D ∈ Ds → lo ≤ D ∧ w.heap[D]? = some (.deferred (some []))
theorem Marks.nil (lo : Nat) (w : World) : Marks lo [] w := ⟨List.nodup_nil, fun _ h => by cases h⟩
theorem Marks.keep {lo : Nat} {Ds : List Nat} {w w' : World} (h : Marks lo Ds w) (hk : KeepD w w') : Marks lo Ds w' := ⟨h.1, fun D hD => ⟨(h.2 D hD).1, hk D _ (h.2 D hD).2⟩⟩
theorem Marks.cons {lo D : Nat} {Ds : List Nat} {w : World} (h : Marks lo Ds w) (hD : w.heap[D]? = some (.deferred (some []))) (hlo : lo ≤ D) (hn : D ∉ Ds) : Marks lo (D :: Ds) w :=
  ⟨List.nodup_cons.2 ⟨hn, h.1⟩, fun X hX => by
    rcases List.mem_cons.1 hX with rfl | hX
    · exact ⟨hlo, hD⟩
    · exact h.2 X hX⟩
theorem Marks.lt {lo : Nat} {Ds : List Nat} {w : World} (h : Marks lo Ds w) {D : Nat} (hD : D ∈ Ds) : D < w.heap.size := (Array.getElem?_eq_some_iff.1 (h.2 D hD).2).1
/-- the world when marks have been taken -/
structure Took (lo : Nat) (w w' : World) : Prop where
  below : Below lo w w'
  same : ∀ (k : Nat) (o : Obj), w.heap[k]? = some o → (∀ d, o ≠ .deferred d) → w'.heap[k]? = some o
theorem Took.refl (lo : Nat) (w : World) : Took lo w w := ⟨Below.refl _ _, fun _ _ h _ => h⟩
theorem Took.trans {lo : Nat} {a b c : World} (h : Took lo a b) (k : Took lo b c) : Took lo a c := ⟨h.below.trans k.below, fun i o hi ho => k.same i o (h.same i o hi ho) ho⟩
theorem Took.put {lo D : Nat} {w : World} {d d' : Option (List Deferred)} (hD : w.heap[D]? = some (.deferred d)) (hlo : lo ≤ D) : Took lo w (w.putObj D (.deferred d')) :=
  ⟨(Below.refl _ w).grown (grownBy_putObj' w D _) (Nat.le_trans hlo (Nat.le_of_lt (Array.getElem?_eq_some_iff.1 hD).1)) (fun j e => by cases e; exact hlo),
   fun k o hk ho => (World.putObj_heap_other (fun e => by subst e; rw [hD] at hk; cases hk; exact ho _ rfl)).trans hk⟩
theorem leaves_col {F : Fence} {n : Nat} {P : Program} {fn : Func} {tmps : Array Value} {R : Ending → World → Prop} {v : Value} (lo : Nat) (hres : ∀ w, (results fn tmps).run P w = .ok v w) :
    ∀ (Ds : List Nat) (w : World), Marks lo Ds w → (∀ w', Took lo w w' → R (.returned v) w') → LeavesInM F n P fn tmps R (colD Ds) .returning w
  | [], w, _, h => ⟨v, hres w, h w (Took.refl _ _)⟩
  | D :: Ds, w, hM, h => by
    have hD := hM.2 D (by simp)
    obtain ⟨hnd, hnd2⟩ := List.nodup_cons.1 hM.1
    refine ⟨by simp, .inl ⟨_, _, rfl, run_takeDeferred hD.2, ?_⟩⟩
    refine leaves_col lo hres Ds _ ⟨hnd2, fun X hX => ⟨(hM.2 X (by simp [hX])).1, (World.putObj_heap_other (fun e => hnd (by rw [e] at hX; exact hX))).trans (hM.2 X (by simp [hX])).2⟩⟩ fun w' hw' => h w' ((Took.put hD.2 hD.1).trans hw')
section
variable {w w' : World} {lo base sb : Nat} {gv : Value} {L : List Int} {ed : Int} {N : Nat} {f : Int → Int}
theorem row_took {g n : Nat} {f : Nat → Value} (h : Row w g n f) (ht : Took lo w w') : Row w' g n f := by
  obtain ⟨c, t, h1, h2⟩ := h
  exact ⟨c, t, ht.same g _ h1 (fun d e => by cases e), h2⟩
theorem ownM_took {mb : Nat} {D : DataW Unit} (h : OwnM w mb N D) (ht : Took lo w w') : OwnM w' mb N D := by
  obtain ⟨es, ck, h1, h2⟩ := h
  exact ⟨es, ck, ht.same mb _ h1 (fun d e => by cases e), h2⟩
theorem StAt.took (h : StAt w base sb gv L ed N f) (ht : Took lo w w') : StAt w' base sb gv L ed N f := by
  obtain ⟨la, lc, mb, D, h1, h2, h3, h4, h5⟩ := h.mem
  refine ⟨h.lo, la, lc, mb, D, row_took h1 ht, ?_, h3, ownM_took h4 ht, h5⟩
  rcases h2 with h | ⟨lb, e1, e2, e3, e4⟩
  · exact .inl h
  · exact .inr ⟨lb, e1, e2, e3, row_took e4 ht⟩
end

/-! labels stay among labels -/
theorem nl_mem {n : Nat} {E : List Ed} (G : GOk n E) {L : List Int} (hL : L.length = n) {v : Nat} {x : Int} (hx : x ∈ nl E L v) : x ∈ L := by
  unfold nl at hx
  obtain ⟨i, hi, rfl⟩ := List.mem_map.1 hx
  obtain ⟨h1, h2⟩ := mem_adj.1 hi
  have h3 := G.ends i h1
  simp only [inc, decide_eq_true_eq] at h2
  have : (oth E (v : Int) i).toNat < L.length := by
    unfold oth
    split <;> omega
  rw [nth_eq this]; exact List.getElem_mem this
theorem bv_mem {n : Nat} {E : List Ed} (G : GOk n E) {L : List Int} (hL : L.length = n) {v : Nat} (hv : v < n) (h : 0 < (bv E L v).2) : (bv E L v).1 ∈ nl E L v ∧ (bv E L v).1 ≠ nth L v ∧ 0 < deg E v ∧ (bv E L v).1 ∈ L := by
  have hb := bv_best E L v
  rcases hb with ⟨h0, _⟩ | ⟨_, h1, h2, _⟩
  · omega
  · refine ⟨h1, fun e => ?_, ?_, nl_mem G hL h1⟩
    · rw [e] at h2
      unfold gainZ at h2
      rw [set_same (by omega)] at h2; omega
    · have := List.length_pos_of_mem h1
      unfold nl at this
      rw [List.length_map] at this
      exact this
theorem step1_wf {n : Nat} {E : List Ed} (G : GOk n E) {L : List Int} (hL : L.length = n) {v : Nat} (hv : v < n) (hW : LWf L) : LWf (step1 E L v) := by
  unfold step1
  split
  · rename_i h
    intro x hx
    rcases List.mem_or_eq_of_mem_set hx with hx | rfl
    · exact hW x hx
    · exact hW _ (bv_mem G hL hv h).2.2.2
  · exact hW
theorem pTo_wf {n : Nat} {E : List Ed} (G : GOk n E) {L : List Int} (hL : L.length = n) (hW : LWf L) {k : Nat} (hk : k ≤ n) : LWf (pTo E L k).1 := by
  induction k with
  | zero => exact hW
  | succ k ih => exact step1_wf G (by rw [pTo_len, hL]) (by omega) (ih (by omega))
end Go.Proofs.Ytemcilmefknbbaa
