/- The walk of neighbours of package triad: the neighbours of a vertex, each once, in increasing order. Conditions: the graph was made by New, or it is nil or zero. -/
import Derived.Test.YtjdpkjjlcbgnbaaNear
import Derived.Test.YtjdpkjjlcbgnbaaShelf
import Derived.Maps.OwnIn
import Derived.Maps.OwnOps
namespace Go.Proofs.Ytjdpkjjlcbgnbaa
open Go.RowKit Go.Shelf Go.Maps Go.Sort
attribute [local go_sem] Oper.semAt_some

/-- slices.Sort's two contracts, at the fence that asks nothing -/
theorem sortsA (m : Nat) : AnyZI.SortsIn Try.prog Try.sortedA_ren Fence.wide m :=
  ⟨fun blk off cap ss W hH hblk hsz => callsIn_wide.2 (AnyM.slices_Sort_int Try.sortA blk off cap ss W hH hblk hsz),
   fun p cap W => callsIn_wide.2 (AnyM.slices_Sort_int_none Try.sortA p cap W)⟩

/-- a row of numbers of the call's own; nil just where there is none -/
def OwnInts (base : Nat) (l : List Int) (w : World) (e : Ending) (w' : World) : Prop :=
  ∃ v, e = .returned v ∧ w'.ownsRow base 3 1 v l.length (l.map (Value.int .i64)) ∧ (v = .slice none 0 0 ↔ l = []) ∧ Below w.heap.size w w'

set_option maxRecDepth 100000 in
set_option maxHeartbeats 2000000 in
theorem nbr_any (B : Nat) (g : Option Addr) (o : Option (Nat × List Ed)) (v : Int) (w : World) (hg : GV w B (.pointer g) o) (hB : B ≤ w.heap.size) :
    Calls Try.prog 32 #[.pointer g, .int .i64 v] w (OwnInts w.heap.size (nbr o v) w) := by
  refine (callsIn_wide (n := 8)).1 ?_
  have hG := hg.good
  have hmm := @run_makeMap Try.prog
  refine callsIn_of_wp_marks Try.func32 rfl trivial ?_ rfl
  simp only [Try.ntmps32, List.size_toArray, List.length_cons, List.length_nil, Nat.reduceAdd, Nat.reduceSub, Array.replicate_succ, Array.replicate_zero, List.push_toArray, List.append_toArray, List.nil_append, List.cons_append]
  gi_wp2_with (refine ⟨trivial, ?_⟩; gi_at_call 48; refine (callsIn_wide.2 (around_call _ _ _)).mono ?_; rintro e w' ⟨rfl, rfl⟩)
  have hm0 := World.ownsMap_made w Try.prog 3 (plainElem (H := Unit) Try.prog 4)
  obtain ⟨W0, hW0⟩ : ∃ W0, ((((w.alloc (.map #[] 0)).alloc (.cells #[.map (some w.heap.size)] 89)).alloc (.cells #[.pointer g] 25)).alloc (.cells #[.int .i64 v] 3)) = W0 := ⟨_, rfl⟩
  have hB0 : Below w.heap.size w W0 := by rw [← hW0]; exact ((((Below.refl _ w).alloc (Nat.le_refl _) _).alloc (by simp) _).alloc (by simp; omega) _).alloc (by simp; omega) _
  have hs0 : W0.heap.size = w.heap.size + 4 := by rw [← hW0]; simp
  have h1 : W0.heap[w.heap.size + 1 + 1]? = some (.cells #[.pointer g] 25 (0, 0)) := by
    rw [← hW0, Below.heap_alloc _ _ _ (by simp)]
    have := heap_alloc_new ((w.alloc (.map #[] 0)).alloc (.cells #[.map (some w.heap.size)] 89)) (.cells #[.pointer g] 25)
    rwa [World.size_alloc, World.size_alloc] at this
  have h2 : W0.heap[w.heap.size + 1 + 1 + 1]? = some (.cells #[.int .i64 v] 3 (0, 0)) := by
    rw [← hW0]
    have := heap_alloc_new (((w.alloc (.map #[] 0)).alloc (.cells #[.map (some w.heap.size)] 89)).alloc (.cells #[.pointer g] 25)) (.cells #[.int .i64 v] 3)
    rwa [World.size_alloc, World.size_alloc, World.size_alloc] at this
  have h3' : W0.heap[w.heap.size + 1]? = some (.cells #[.map (some w.heap.size)] 89 (0, 0)) := by
    rw [← hW0, Below.heap_alloc _ _ _ (by simp), Below.heap_alloc _ _ _ (by simp)]
    have := heap_alloc_new (w.alloc (.map #[] 0)) (.cells #[.map (some w.heap.size)] 89)
    rwa [World.size_alloc] at this
  have h3 : W0.cell? ⟨w.heap.size + 1, 0, none⟩ = some (.map (some w.heap.size)) := by simp [World.cell?, h3']
  have hm1 : W0.ownsMap Try.prog 3 (plainElem (H := Unit) Try.prog 4) w.heap.size 0 (seenD []) := by rw [← hW0]; exact ((hm0.alloc _).alloc _).alloc _
  have hg0 : GV W0 w.heap.size (.pointer g) o := (hg.below (hB0.mono hB)).mono hB
  rw [hW0]
  clear hW0 hm0 hmm
  refine rangeR (F := Fence.wide) rfl (by omega) (gf := 60) (lb := #[.pointer (some ⟨w.heap.size + 1 + 1, 0, none⟩), .pointer (some ⟨w.heap.size + 1 + 1 + 1, 0, none⟩)]) rfl trivial (enters_of Try.func60 (by kernel_rfl) rfl)
    (around_stops 7 (by omega) (w.heap.size + 1 + 1) (w.heap.size + 1 + 1 + 1) w.heap.size g v o W0 hg0 h1 h2 (by omega)) keepB_t (keepB_b (by omega) (by omega) (by omega)) (Below.refl _ _) (fun _ => rfl)
    (fun pre W => (W.cell? ⟨w.heap.size + 1, 0, none⟩ = some (.map (some w.heap.size)) ∧ W.ownsMap Try.prog 3 (plainElem (H := Unit) Try.prog 4) w.heap.size pre.length (seenD pre) ∧ W0.heap.size ≤ W.heap.size) ∧ Below w.heap.size w W)
    (fun _ _ _ => False)
    (OwnFrom.and (fun s A B row hs hg hr => ⟨cell_kept hs.1 hg (fun r e => (hr r e).2), hs.2.1.kept hg (fun e => by have := (hr _ e.symm).1; omega), Nat.le_trans hs.2.2 hg.size⟩) (ownFrom_below (Nat.le_refl _) (by omega)))
    (fun _ _ _ _ _ hs _ _ => hs)
    ⟨⟨h3, hm1, Nat.le_refl _⟩, hB0⟩
    (fun _ x a' _ => a' = { tmps := #[.pointer g, .int .i64 v, undef, undef, .slice none 0 0, .pointer (some ⟨w.heap.size + 1, 0, none⟩), undef, .int .i64 x.2, .map (some w.heap.size), .pointer g, .int .i64 v, .func (.func 60) #[] #[.pointer (some ⟨w.heap.size + 1 + 1, 0, none⟩), .pointer (some ⟨w.heap.size + 1 + 1 + 1, 0, none⟩)], .int .i64 (x.1 : Nat), .int .i64 x.2, undef, undef, undef, undef, undef], defers := [] })
    (fun _ _ _ _ _ _ _ hs _ _ => hs) ?assign ?body ?done ?stop
  case assign =>
    intro l pre x W K hI hR hK
    gi_wp2
    exact hK _ _ (KeepsFrom.refl _ _) ⟨Below.refl _ _, rfl, rfl⟩ hI rfl
  case body =>
    rintro l pre x a' W hl - ⟨⟨hc, hown, hsW⟩, hB⟩ rfl hR
    have hx : x ∈ around o v := hR.subset (by simp)
    have hb := around_wf hG hx
    have hn := hG.n_le
    have hwf : (Lit.int .i64 x.2).wf = true := WalkArith.wf_i64 (by omega)
    have hpl : pre.length < maxLen := by
      have h5 := hR.length_le
      have h6 := gAdj_len hg v
      simp [around] at h5
      unfold maxLen; omega
    clear hR
    gi_wp2_with (gi_at_mapUpdate; refine wpListIn_mapUpdate_own _ rfl _ _ _ 89 rfl 3 4 (Maps.int_keyed Try.underlying3) Try.underlying89 _ w.heap.size pre.length _ rfl hown hpl _ _ _ rfl rfl (Maps.keyOf_int_mk Try.underlying3 hwf) _ [] (plainElem_bool Try.underlying4 true) ?_; intro w1 hown1 hgrow1)
    obtain ⟨es, ck, hh, _⟩ := hown
    exact ⟨KeepsFrom.of_grownBy hgrow1 (fun j e => by cases e; omega),
      ⟨(Below.refl _ W).grown hgrow1 hB.size (fun k e => by cases e; exact Nat.le_refl _), hgrow1.block _ (by omega) (fun e => by have := Option.some.inj e; omega), hgrow1.block _ (by omega) (fun e => by have := Option.some.inj e; omega)⟩,
      ⟨cell_kept hc hgrow1 (fun r e => by cases e; exact ⟨_, hh, rfl⟩), by rw [seenD_snoc, List.length_append]; exact hown1, Nat.le_trans hsW hgrow1.size⟩, hB.grown hgrow1 hB.size (fun k e => by cases e; exact Nat.le_refl _)⟩
  case done =>
    rintro D xs W hD rfl ⟨⟨hc, hown, hsW⟩, hB⟩ hK
    have hsz := keys_size hG v
    have cK : ∀ mb W, CallsIn Fence.wide 7 Try.prog 50 #[.map mb] W fun e w' => e = .returned (.func (.func 64) #[] #[.pointer (some ⟨W.heap.size, 0, none⟩)]) ∧ w' = W.alloc (.cells #[.map mb] 89) := fun mb W => AnyZI.keys_in Try.keysA Fence.wide 7 trivial rfl mb W
    have hseq : SeqGives Fence.wide 4 Try.prog 64 #[.pointer (some ⟨W.heap.size, 0, none⟩)] encZ (fun ss => ss.Perm (intKeys (seenD (around o v)))) (Maps.size (seenD (around o v))) (W.alloc (.cells #[.map (some w.heap.size)] 89)) :=
      AnyZI.keys_gives (ρ := Try.keysA_ren) { Try.keysA with } Fence.wide _ trivial rfl (by omega) W.heap.size w.heap.size _ _ _ (by simp) (by simp) (hown.alloc _)
    have cS := AnyZI.sorted_in Try.sortedA Fence.wide 7 trivial trivial trivial trivial rfl (by omega) (sortsA _) (enters_of Try.func63 (by kernel_rfl) rfl) 64 #[.pointer (some ⟨W.heap.size, 0, none⟩)] trivial (enters_of Try.func64 (by kernel_rfl) rfl) _ _ (by unfold maxLen; omega) (by omega) _ hseq
    change CallsIn _ _ Try.prog 49 _ _ _ at cS
    clear hseq
    have hfK : Fence.wide.fn 50 := trivial
    have hfS : Fence.wide.fn 49 := trivial
    gi_wp2_with (first
      | (gi_at_call 50; refine (cK _ _).mono ?_; rintro e w' ⟨rfl, rfl⟩)
      | (gi_at_call 49; refine cS.mono ?_; rintro e w' ⟨x, ss, rfl, hS, hrow, hnil, hb⟩))
    have hbB : Below W.heap.size W w' := ((Below.refl _ W).alloc (Nat.le_refl _) _).trans (hb.mono (by simp))
    have hK' : w'.heap[D]? = some (.deferred (some [])) := (hbB.block D (Array.getElem?_eq_some_iff.1 hK).1).trans hK
    have e1 := sort_nbr hG hS
    have e2 : ss.length = (nbr o v).length := by rw [← e1, List.length_mergeSort]
    rw [e1, e2] at hrow
    have hBw := hB.size
    have e3 : ss = [] ↔ nbr o v = [] := by rw [← List.length_eq_zero_iff, ← List.length_eq_zero_iff, e2]
    refine ⟨by simp, .inl ⟨_, _, rfl, run_takeDeferred hK', ?_⟩⟩
    exact ⟨_, results_tmp rfl _ _ _, x, rfl, ownsRow_putObj (ownsRow_base_a hrow (by simp; omega)) _ hK' rfl, hnil.trans e3, (hB.trans (hbB.mono hBw)).trans (belowK_b (w := w) (Nat.le_refl _) w' D _ _ (by omega) hK' rfl rfl)⟩
  case stop =>
    rintro D c pre W _ h _
    exact h.elim
end Go.Proofs.Ytjdpkjjlcbgnbaa
