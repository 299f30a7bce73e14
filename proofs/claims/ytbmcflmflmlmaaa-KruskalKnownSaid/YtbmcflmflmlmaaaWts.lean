/- The walk of kruskal.weights: the weights of some edges in order. Conditions: the indexes are valid. -/
import Derived.Test.YtbmcflmflmlmaaaFor
import Derived.Test.YtbmcflmflmlmaaaCkS
namespace Go.Proofs.Ytbmcflmflmlmaaa
open Go.RowKit Go.Shelf Go.Maps
open Go.Sort hiding Below

/-- the weights of edges -/
def wsOf (E : List Ed) (p : List Nat) : List Int := p.map fun i => (eAt E i).w
/-- in order -/
def srt (L : List Int) : List Int := L.mergeSort fun x y => decide (x ≤ y)
theorem srt_perm (L : List Int) : (srt L).Perm L := List.mergeSort_perm _ _
theorem srt_len (L : List Int) : (srt L).length = L.length := List.length_mergeSort _
theorem srt_sorted (L : List Int) : (srt L).Pairwise (· ≤ ·) := by
  have := List.pairwise_mergeSort (le := fun a b : Int => decide (a ≤ b)) (by simp; omega) (by simp; omega) L
  unfold srt; simpa using this
theorem wsOf_len (E : List Ed) (p : List Nat) : (wsOf E p).length = p.length := by simp [wsOf]
/-- numbers in a row -/
abbrev RowZ (w : World) (g : Nat) (K : List Int) : Prop := Row w g K.length (fun i => .int .i64 (nth K i))
theorem RowZ.holds {w : World} {g : Nat} {K : List Int} (h : RowZ w g K) : Holds (Value.int .i64) w g 0 K.toArray := fun j hj => by
  have hj' : j < K.length := by simpa using hj
  rw [Nat.zero_add]
  refine ⟨?_, h.frozen j⟩
  rw [h.cell hj']
  simp [nth, List.getD, hj']
theorem holds_slW {w : World} {g cap : Nat} {K : List Int} (h : Holds (Value.int .i64) w g 0 K.toArray) (hg : g < w.heap.size) : Sl 76 .i64 w w.heap.size (.slice (some ⟨g, 0, none⟩) K.length cap) K (fun j => (⟨g, 0, none⟩ : Addr).add (j * 1)) := by
  refine Rd.addr etI64 (fun _ => hg) fun k hk j hj => ?_
  obtain rfl : j = 0 := by omega
  have h1 := (h k (by simpa using hk)).1
  rw [Nat.zero_add] at h1
  rw [add_mk, Nat.mul_one, Nat.add_zero, Nat.zero_add, h1]
  simp [nums, nth, List.getD, hk]
theorem sortw_row (g cap base : Nat) (K : List Int) (w : World) (h : RowZ w g K) (hl : K.length < 4611686018427387904) (hb : base ≤ g) :
    Calls Try.prog 72 #[.slice (some ⟨g, 0, none⟩) K.length cap] w fun e w' => e = .returned (.tuple #[]) ∧
      (∃ A, Sl 76 .i64 w' w'.heap.size (.slice (some ⟨g, 0, none⟩) K.length cap) (srt K) A) ∧ Below base w w' := by
  refine (AnyM.slices_Sort_int Try.sortWA g 0 cap K w h.holds h.lt hl).mono ?_
  rintro e w' ⟨rfl, n, os, rfl⟩
  have hH : Holds (Value.int .i64) (Sort.ahead w n) g 0 K.toArray := h.holds
  have hl2 : (K.mergeSort fun x y => decide (x ≤ y)).length = K.length := List.length_mergeSort _
  have hH2 := holds_putRow (Value.int .i64) (Sort.ahead w n) g 0 K.toArray (K.mergeSort fun x y => decide (x ≤ y)).toArray hH (by simp [hl2])
  have hg : g < (putRow (Value.int .i64) (Sort.ahead w n) g 0 (K.mergeSort fun x y => decide (x ≤ y)).toArray).heap.size := by rw [size_putRow]; exact h.lt
  have hH3 := holds_grow (Value.int .i64) _ os g 0 _ hg hH2
  refine ⟨rfl, ⟨fun j => (⟨g, 0, none⟩ : Addr).add (j * 1), ?_⟩, ?_⟩
  · have := holds_slW (cap := cap) hH3 (by simp [grow]; have := h.lt; omega)
    rw [hl2] at this
    exact this
  · refine ⟨rfl, rfl, rfl, ?_, fun k hk => ?_⟩
    · show w.heap.size ≤ ((putRow (Value.int .i64) (Sort.ahead w n) g 0 (K.mergeSort fun x y => decide (x ≤ y)).toArray).heap ++ os).size
      have : (putRow (Value.int .i64) (Sort.ahead w n) g 0 (K.mergeSort fun x y => decide (x ≤ y)).toArray).heap.size = w.heap.size := size_putRow _ _ _ _ _
      rw [Array.size_append]; omega
    · have hk2 : k < (putRow (Value.int .i64) (Sort.ahead w n) g 0 (K.mergeSort fun x y => decide (x ≤ y)).toArray).heap.size := by
        rw [size_putRow]; have := h.lt; show k < w.heap.size; omega
      refine (Go.Sort.heap_grow_old _ os hk2).trans ?_
      have hne : g ≠ k := by omega
      show (w.heap.modify g _)[k]? = w.heap[k]?
      rw [Array.getElem?_modify, if_neg hne]
theorem wts_step (E : List Ed) (p : List Nat) (k : Nat) (hk : k < p.length) (i : Nat) : (if i = k then Value.int .i64 (eAt E (p.getD k 0)).w else .int .i64 (if i < k then nth (wsOf E p) i else 0)) = .int .i64 (if i < k + 1 then nth (wsOf E p) i else 0) := by
  by_cases h1 : i = k
  · subst h1
    rw [if_pos rfl, if_pos (by omega)]
    simp [nth, wsOf, List.getD, hk]
  · rw [if_neg h1]
    by_cases h2 : i < k
    · rw [if_pos h2, if_pos (by omega)]
    · rw [if_neg h2, if_neg (by omega)]
set_option maxRecDepth 100000 in
set_option maxHeartbeats 2000000 in
theorem weights_any (E : List Ed) (a pa : Option Addr) (cap pc : Nat) (A PA : Nat → Addr) (p : List Nat) (w : World) (hE : ES w w.heap.size (.slice a E.length cap) E A) (hP : Rd 24 1 w w.heap.size (.slice pa p.length pc) p.length (nums .i64 (intsN p)) PA) (hp : ∀ i, i ∈ p → i < E.length) (hl : p.length ≤ 1000000) :
    Calls Try.prog 46 #[.slice a E.length cap, .slice pa p.length pc] w fun e w' => ∃ b SA, e = .returned (.slice (some ⟨b, 0, none⟩) p.length p.length) ∧ Rd 76 1 w' w'.heap.size (.slice (some ⟨b, 0, none⟩) p.length p.length) p.length (nums .i64 (srt (wsOf E p))) SA ∧ Below w.heap.size w w' := by
  have hmk : ∀ w, (Instr.makeSlice 76 (.int .i64 (p.length : Nat)) (.int .i64 (p.length : Nat))).run Try.prog w = .ok (.slice (some ⟨w.heap.size, 0, none⟩) p.length p.length) (w.alloc (.cells (madeCells #[.int .i64 0] p.length) 2)) := fun w =>
    run_make_row' (P := Try.prog) 76 2 (.int .i64 0) 8 Try.underlying76 Try.infoI64 rfl .i64 .i64 p.length (by omega) (by omega) w
  have hb0 : Below w.heap.size w (w.alloc (.cells (madeCells #[.int .i64 0] p.length) 2)) := (Below.refl _ w).alloc (Nat.le_refl _) _
  have hr0 : Row (w.alloc (.cells (madeCells #[.int .i64 0] p.length) 2)) w.heap.size p.length (fun i => .int .i64 (if i < 0 then nth (wsOf E p) i else 0)) :=
    (Row.made w (.int .i64 0) p.length 2).congr fun i _ => by rw [if_neg (by omega)]
  have HE := Lib.hid hE; have HP := Lib.hid hP; have Hp := Lib.hid hp
  clear hE hP hp
  go_enter Try.func46, Try.ntmps46
  go_wp2_with fail
  generalize w.alloc (.cells (madeCells #[.int .i64 0] p.length) 2) = W at *
  clear hmk
  go_loopw [13] (fun i wr => ∃ k : Nat, k ≤ p.length ∧ i = .int .i64 (k : Nat) ∧ Hid (Row wr w.heap.size p.length (fun i => .int .i64 (if i < k then nth (wsOf E p) i else 0))) ∧ Below w.heap.size w wr) (fun i _ => p.length - (intOf i).toNat)
  case atStart => exact ⟨0, Nat.zero_le _, rfl, Lib.hid hr0, hb0⟩
  case round =>
    clear hr0 hb0
    obtain ⟨k, hk, rfl, HR, bel⟩ := hrel
    by_cases hlt : k < p.length
    · obtain ⟨x, hx⟩ : ∃ x, p.getD k 0 = x := ⟨_, rfl⟩
      have hmem : x ∈ p := by rw [← hx, List.getD_eq_getElem?_getD, List.getElem?_eq_getElem hlt]; exact List.getElem_mem _
      have hxl := Hp.out x hmem
      have hPr := HP.out.below bel
      have hEr := HE.out.below bel
      have i0 := hPr.ix k hlt
      have c0 := hPr.cell k hlt 0 (by omega)
      rw [add_zero] at c0
      have hn : nums .i64 (intsN p) k 0 = .int .i64 (x : Nat) := by
        rw [← hx]; simp [nums, nth, intsN, List.getD, hlt]
      rw [hn] at c0
      have i1 := hEr.ix x hxl
      have c1 := ES.w hEr hxl
      have c2 := HR.out.cell hlt
      have z2 := HR.out.frozen k
      have HR2 := Lib.hid ((HR.out.set k (.int .i64 (eAt E (p.getD k 0)).w)).congr fun i _ => wts_step E p k hlt i)
      rw [hx] at HR2
      have hki : (0 : Int) ≤ k ∧ (k : Int) < p.length := by omega
      clear hPr hEr hmem hn HR
      go_wp2_with fail
      go_roundw
      case rel => exact ⟨k + 1, by omega, by go_num, HR2, bel.setCell (p := ⟨w.heap.size, k, none⟩) (Nat.le_refl _) _⟩
      case measure => simp only [intOf]; omega
    · have hke : k = p.length := by omega
      have hwl := wsOf_len E p
      have hR : RowZ wr w.heap.size (wsOf E p) := by
        unfold RowZ
        rw [hwl]
        exact HR.out.congr fun i hi => by rw [if_pos (by omega)]
      have HS := Lib.hid (sortw_row w.heap.size p.length w.heap.size (wsOf E p) wr hR (by omega) (Nat.le_refl _))
      rw [hwl] at HS
      have hsl := srt_len (wsOf E p)
      rw [hwl] at hsl
      have HSl := Lib.hid hsl
      clear hR HR hwl hsl
      go_wp2_with fail
      refine HS.out.mono ?_
      rintro e w2 ⟨rfl, ⟨SA, hSA⟩, hb2⟩
      have hSA : Rd 76 1 w2 w2.heap.size (.slice (some ⟨w.heap.size, 0, none⟩) p.length p.length) p.length (nums .i64 (srt (wsOf E p))) SA := by
        have := hSA
        unfold Sl at this
        rw [HSl.out] at this
        exact this
      have HSA := Lib.hid hSA
      clear HS hSA
      go_wp2_with fail
      go_ret
      exact ⟨_, SA, rfl, HSA.out, bel.trans hb2⟩
end Go.Proofs.Ytbmcflmflmlmaaa
