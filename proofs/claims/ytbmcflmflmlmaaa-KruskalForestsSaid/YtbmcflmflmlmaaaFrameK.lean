/- What the laws of kruskal share beside Frame: how slices of edges and of numbers are read, with their ranges. No conditions. -/
import Derived.Test.YtbmcflmflmlmaaaFrame
import Derived.Test.YtbmcflmflmlmaaaCkS
namespace Go.Proofs.Ytbmcflmflmlmaaa
open Go.ChangeShapes Go.WideShapes Go.ChangeAt Go.RowKit

theorem inR_of {x : Int} (h : (Lit.int .i64 x).wf = true) : inR x := by have := bounds_i64 h; unfold inR; omega
section
variable {H : Type} {enc : TypeId × Value → H} {w : World} {base : Nat} {spare : Nat → Bool} {held : Bool}
set_option maxRecDepth 100000 in
/-- a slice of edges that came in, with the range of the weights -/
theorem came_edgesR {v : Value} {d : DataW H} {p : List MemPlace} {r : Reach} {b0 : Nat} (hv : Value.okWide Try.prog w r b0 22 v) (h : DataW.Trod enc Try.prog w base spare held 22 v d p) :
    ∃ (a : Option Addr) (cap : Nat) (E : List Ed) (A : Nat → Addr), v = .slice a E.length cap ∧ ES w w.heap.size v E A ∧ E.length ≤ 9223372036854775807 ∧ ∀ i, i < E.length → inR (eAt E i).w := by
  obtain ⟨a, len, cap, rfl⟩ := okWide_slice Try.underlying22 hv
  obtain ⟨fuel, hf⟩ := h
  rcases Go.Deep.open_slice Try.underlying22 hf with ⟨h0, _⟩ | ⟨a', len', cap', m, n, D, Pl, hcs, _, hl, hm, hmm, _, hi⟩
  · simp only [Value.cells, List.cons.injEq, Value.slice.injEq, and_true] at h0
    obtain ⟨rfl, rfl, rfl⟩ := h0
    exact ⟨none, 0, [], fun _ => ⟨0, 0, none⟩, rfl, Rd.nil _, by decide, fun i hi => absurd hi (by simp)⟩
  · simp only [Value.cells, List.cons.injEq, Value.slice.injEq, and_true] at hcs
    obtain ⟨rfl, rfl, rfl⟩ := hcs
    have hC : Try.prog.cellsOf 36 = 3 := by kernel_rfl
    have hle : len ≤ m := by rw [hmm]; split <;> omega
    have cells : ∀ i, i < len → ∃ u v x, w.cell? (a'.add (i * 3)) = some (.int .i64 u) ∧ w.cell? (a'.add (i * 3 + 1)) = some (.int .i64 v) ∧ w.cell? (a'.add (i * 3 + 2)) = some (.int .i64 x) ∧ inR x := by
      intro i hi'
      obtain ⟨cs', hc, ht'⟩ := hi i (by omega)
      rw [hC] at hc
      obtain ⟨ys, n', hn', hy, hlen, hyl, hg⟩ := DataW.trod_struct Try.underlying36 ht'
      obtain ⟨_, hcl, hat⟩ := World.cells?_some hc
      have one : Go.Deep.oneCellFields Try.prog (Try.prog.fieldsOf 36) = true := by kernel_rfl
      simp only [Program.fieldsOf, Try.underlying36] at one
      have get : ∀ (j : Nat) f, (Try.prog.fieldsOf 36)[j]? = some f → Try.prog.underlying f.type = some (.int .i64) → j < 3 → ∃ x, w.cell? (a'.add (i * 3 + j)) = some (.int .i64 x) ∧ inR x := by
        intro j f hj hu hj3
        simp only [Program.fieldsOf, Try.underlying36] at hj
        obtain ⟨ho, hk⟩ := Go.Deep.hone_of one j f hj
        have h1 := hg j f hj
        rw [ho, hk] at h1
        have hone' : (cs'.drop j).take 1 = [cs'[j]'(by omega)] := by
          rw [List.drop_eq_getElem_cons (by omega)]
          rfl
        rw [hone'] at h1
        have hys : ys[j]? = some (ys[j]'(by rw [hyl]; exact (Array.getElem?_eq_some_iff.1 hj).1)) := List.getElem?_eq_getElem _
        rw [hys] at h1
        obtain ⟨x, hx, _, hwf⟩ := DataW.trod_int hu h1
        refine ⟨x, ?_, inR_of hwf⟩
        have hv : cs'[j]? = some (cs'[j]'(by omega)) := List.getElem?_eq_getElem (by omega)
        rw [← Go.Deep.add_add, hat j hj3, hv]
        simp only [List.cons.injEq, and_true] at hx
        rw [hx]
      have fld : ∀ j, j < 3 → ∃ f, (Try.prog.fieldsOf 36)[j]? = some f ∧ Try.prog.underlying f.type = some (.int .i64) := by
        intro j hj
        simp only [Program.fieldsOf, Try.underlying36]
        match j, hj with
        | 0, _ => exact ⟨_, rfl, by first | exact Try.underlying3 | exact Try.underlying2⟩
        | 1, _ => exact ⟨_, rfl, by first | exact Try.underlying3 | exact Try.underlying2⟩
        | 2, _ => exact ⟨_, rfl, by first | exact Try.underlying3 | exact Try.underlying2⟩
      obtain ⟨f0, g0, u0⟩ := fld 0 (by omega)
      obtain ⟨f1, g1, u1⟩ := fld 1 (by omega)
      obtain ⟨f2, g2, u2⟩ := fld 2 (by omega)
      obtain ⟨x0, e0, _⟩ := get 0 f0 g0 u0 (by omega)
      obtain ⟨x1, e1, _⟩ := get 1 f1 g1 u1 (by omega)
      obtain ⟨x2, e2, r2⟩ := get 2 f2 g2 u2 (by omega)
      exact ⟨x0, x1, x2, e0, e1, e2, r2⟩
    obtain ⟨E, hEl, hE⟩ := pick_edges cells
    subst hEl
    have hmax : cap ≤ 9223372036854775807 := hm
    refine ⟨some a', cap, E, fun i => a'.add (i * 3), rfl, Rd.addr etE (fun h0 => World.block_lt_of_cell? w a' (u := .int .i64 (eAt E 0).u) ?_) fun i hi j hj => ?_, by omega, fun i hi => (hE i hi).2.2.2⟩
    · have := (hE 0 h0).1
      rwa [Nat.zero_mul, add_zero] at this
    · match j, hj with
      | 0, _ => exact (hE i hi).1
      | 1, _ => exact (hE i hi).2.1
      | 2, _ => exact (hE i hi).2.2.1
set_option maxRecDepth 100000 in
theorem ints_of {c : Value} {fuel : Nat} {x : DataW H × List MemPlace} (hf : DataW.trod enc Try.prog w base spare held fuel 24 [c] = some x) :
    ∃ (a : Option Addr) (cap : Nat) (L : List Int) (A : Nat → Addr), c = .slice a L.length cap ∧ Sl 24 .i64 w w.heap.size c L A ∧ L.length ≤ 9223372036854775807 ∧ (∀ z, z ∈ L → inR z) := by
  rcases open_ints Try.underlying24 Try.underlying3 (by kernel_rfl) hf with ⟨hcs, _⟩ | ⟨y, l, cc, zs, hcs, _, hl, hm, hz, _, hcell, hwz⟩
  · simp only [List.cons.injEq, and_true] at hcs
    subst hcs
    exact ⟨none, 0, [], fun _ => ⟨0, 0, none⟩, rfl, Rd.nil _, by decide, fun _ h => by cases h⟩
  · simp only [List.cons.injEq, and_true] at hcs
    subst hcs
    have hzl : l ≤ zs.length := by rw [hz]; split <;> omega
    have hmax : cc ≤ 9223372036854775807 := hm
    have hlen : (zs.take l).length = l := by rw [List.length_take]; omega
    have hnth : ∀ i, i < l → nth (zs.take l) i = zs.getD i 0 := fun i hi => by simp [nth, List.getD, hi]
    refine ⟨some y, cc, zs.take l, fun i => y.add (i * 1), by rw [hlen], ?_, by omega, fun z hz2 => inR_of (hwz z (List.mem_of_mem_take hz2))⟩
    have e := hlen
    show Rd _ _ _ _ _ (zs.take l).length _ _
    rw [hlen]
    refine Rd.addr etI (fun h0 => ?_) fun i hi j hj => ?_
    · have := World.block_lt_of_cell? w _ (hcell 0 (by omega))
      rw [add_block] at this; exact this
    · obtain rfl : j = 0 := by omega
      rw [Nat.mul_one, Nat.add_zero, hcell i (by omega)]
      show _ = some (Value.int .i64 (nth (zs.take l) i))
      rw [hnth i hi]
set_option maxRecDepth 100000 in
/-- a slice of numbers that came in -/
theorem came_ints {v : Value} {d : DataW H} {p : List MemPlace} {r : Reach} {b0 : Nat} (hv : Value.okWide Try.prog w r b0 24 v) (h : DataW.Trod enc Try.prog w base spare held 24 v d p) :
    ∃ (a : Option Addr) (cap : Nat) (L : List Int) (A : Nat → Addr), v = .slice a L.length cap ∧ Sl 24 .i64 w w.heap.size v L A ∧ L.length ≤ 9223372036854775807 ∧ (∀ z, z ∈ L → inR z) := by
  obtain ⟨a, len, cap, rfl⟩ := okWide_slice Try.underlying24 hv
  obtain ⟨fuel, hf⟩ := h
  exact ints_of hf
set_option maxRecDepth 100000 in
/-- a slice of numbers that came in -/
theorem came_intsR {v : Value} {d : DataW H} {p : List MemPlace} {r : Reach} {b0 : Nat} (hv : Value.okWide Try.prog w r b0 24 v) (h : DataW.Trod enc Try.prog w base spare held 24 v d p) :
    ∃ (a : Option Addr) (cap : Nat) (L : List Int) (A : Nat → Addr), v = .slice a L.length cap ∧ Sl 24 .i64 w w.heap.size v L A ∧ L.length ≤ 9223372036854775807 ∧ (∀ z, z ∈ L → inR z) := by
  obtain ⟨a, len, cap, rfl⟩ := okWide_slice Try.underlying24 hv
  obtain ⟨fuel, hf⟩ := h
  exact ints_of hf
theorem three_list {α : Type} {l : List α} (h : l.length = 3) : ∃ a b c, l = [a, b, c] := by
  match l, h with
  | [a, b, c], _ => exact ⟨a, b, c, rfl⟩
set_option maxRecDepth 100000 in
/-- an edge that came in -/
theorem came_edge {v : Value} {r : Reach} {b0 : Nat} (hv : Value.okWide Try.prog w r b0 36 v) {d : DataW H} {p : List MemPlace} (h : DataW.Trod enc Try.prog w base spare held 36 v d p) :
    ∃ x y z : Int, v = .agg #[.int .i64 x, .int .i64 y, .int .i64 z] ∧ inR z := by
  obtain ⟨cs, rfl, hsz⟩ : ∃ cs, v = .agg cs ∧ cs.size = Try.prog.cellsOf 36 := by
    simp only [Value.okWide, Try.underlying36] at hv
    obtain ⟨cs, h1, h2, _⟩ := hv
    exact ⟨cs, h1, h2⟩
  rw [show Try.prog.cellsOf 36 = 3 by kernel_rfl] at hsz
  obtain ⟨fuel, hf⟩ := h
  obtain ⟨ys, n', hn', hy, hlen, hyl, hg⟩ := DataW.trod_struct Try.underlying36 hf
  obtain ⟨l⟩ := cs
  obtain ⟨c0, c1, c2, rfl⟩ := three_list hsz
  have one : Go.Deep.oneCellFields Try.prog (Try.prog.fieldsOf 36) = true := by kernel_rfl
  simp only [Program.fieldsOf, Try.underlying36] at one
  obtain ⟨y0, y1, y2, rfl⟩ := three_list hyl
  have g0 : DataW.trod enc Try.prog w base spare held n' 3 [c0] = some y0 := hg 0 _ rfl
  have g1 : DataW.trod enc Try.prog w base spare held n' 3 [c1] = some y1 := hg 1 _ rfl
  have g2 : DataW.trod enc Try.prog w base spare held n' 2 [c2] = some y2 := hg 2 _ rfl
  obtain ⟨x, hx, _, _⟩ := DataW.trod_int Try.underlying3 g0
  obtain ⟨y, hy2, _, _⟩ := DataW.trod_int Try.underlying3 g1
  obtain ⟨z, hz, _, hwf⟩ := DataW.trod_int Try.underlying2 g2
  simp only [List.cons.injEq, and_true] at hx hy2 hz
  exact ⟨x, y, z, by rw [hx, hy2, hz], inR_of hwf⟩
end
end Go.Proofs.Ytbmcflmflmlmaaa
