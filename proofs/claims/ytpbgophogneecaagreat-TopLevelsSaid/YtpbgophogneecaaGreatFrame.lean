/- What all the laws of this seat share: how arguments that came in are read. No conditions. -/
import Derived.Test.YtpbgophogneecaaGreatMe
import Derived.ProofKit
import Derived.OpenShut
import Derived.ChangeOld
import Derived.Stop.LaidErr
import Derived.Deep.DeepHandedRow
import Derived.Deep.Slices
import Derived.Deep.Fields
import Derived.ChangeSame
namespace Go.Proofs.YtpbgophogneecaaGreat
open Go.ChangeShapes Go.WideShapes Go.ChangeAt Go.RowKit

theorem own : ownKnob Tryz.prog.godebug = none := by kernel_rfl
theorem laidOut : laidOutB Tryz.prog = true := by kernel_rfl

section
variable {H : Type} {enc : TypeId × Value → H} {w : World} {base : Nat} {spare : Nat → Bool} {held : Bool}
theorem pick_edges {len : Nat} {Q : Nat → Int → Int → Int → Prop} (h : ∀ i, i < len → ∃ u v x, Q i u v x) : ∃ E : List Ed, E.length = len ∧ ∀ i, i < len → Q i (eAt E i).u (eAt E i).v (eAt E i).w := by
  induction len with
  | zero => exact ⟨[], rfl, fun i hi => absurd hi (by omega)⟩
  | succ n ih =>
    obtain ⟨E, hl, hE⟩ := ih fun i hi => h i (by omega)
    obtain ⟨u, v, x, hq⟩ := h n (by omega)
    refine ⟨E ++ [⟨u, v, x⟩], by simp [hl], fun i hi => ?_⟩
    by_cases hn : i = n
    · subst hn
      have e : eAt (E ++ [⟨u, v, x⟩]) i = ⟨u, v, x⟩ := by rw [eAt_eq (by simp; omega), List.getElem_append_right (by omega)]; simp
      rw [e]; exact hq
    · have e : eAt (E ++ [⟨u, v, x⟩]) i = eAt E i := by rw [eAt_eq (by simp; omega), eAt_eq (by omega), List.getElem_append_left (by omega)]
      rw [e]; exact hE i (by omega)

set_option maxRecDepth 100000 in
theorem came_edges {v : Value} {d : DataW H} {p : List MemPlace} {r : Reach} {b0 : Nat} (hv : Value.okWide Tryz.prog w r b0 22 v) (h : DataW.Trod enc Tryz.prog w base spare held 22 v d p) :
    ∃ (a : Option Addr) (cap : Nat) (E : List Ed) (A : Nat → Addr), v = .slice a E.length cap ∧ ES w w.heap.size v E A ∧ E.length ≤ 9223372036854775807 := by
  obtain ⟨a, len, cap, rfl⟩ := okWide_slice Tryz.underlying22 hv
  obtain ⟨fuel, hf⟩ := h
  rcases Go.Deep.open_slice Tryz.underlying22 hf with ⟨h0, _⟩ | ⟨a', len', cap', m, n, D, Pl, hcs, _, hl, hm, hmm, _, hi⟩
  · simp only [Value.cells, List.cons.injEq, Value.slice.injEq, and_true] at h0
    obtain ⟨rfl, rfl, rfl⟩ := h0
    exact ⟨none, 0, [], fun _ => ⟨0, 0, none⟩, rfl, Rd.nil _, by decide⟩
  · simp only [Value.cells, List.cons.injEq, Value.slice.injEq, and_true] at hcs
    obtain ⟨rfl, rfl, rfl⟩ := hcs
    have hC : Tryz.prog.cellsOf 45 = 3 := by kernel_rfl
    have hle : len ≤ m := by rw [hmm]; split <;> omega
    have cells : ∀ i, i < len → ∃ u v x, w.cell? (a'.add (i * 3)) = some (.int .i64 u) ∧ w.cell? (a'.add (i * 3 + 1)) = some (.int .i64 v) ∧ w.cell? (a'.add (i * 3 + 2)) = some (.int .i64 x) := by
      intro i hi'
      obtain ⟨cs', hc, ht'⟩ := hi i (by omega)
      rw [hC] at hc
      obtain ⟨ys, n', hn', hy, hlen, hyl, hg⟩ := DataW.trod_struct Tryz.underlying45 ht'
      obtain ⟨_, hcl, hat⟩ := World.cells?_some hc
      have one : Go.Deep.oneCellFields Tryz.prog (Tryz.prog.fieldsOf 45) = true := by kernel_rfl
      simp only [Program.fieldsOf, Tryz.underlying45] at one
      have get : ∀ (j : Nat) f, (Tryz.prog.fieldsOf 45)[j]? = some f → Tryz.prog.underlying f.type = some (.int .i64) → j < 3 → ∃ x, w.cell? (a'.add (i * 3 + j)) = some (.int .i64 x) := by
        intro j f hj hu hj3
        simp only [Program.fieldsOf, Tryz.underlying45] at hj
        obtain ⟨ho, hk⟩ := Go.Deep.hone_of one j f hj
        have h1 := hg j f hj
        rw [ho, hk] at h1
        have hone' : (cs'.drop j).take 1 = [cs'[j]'(by omega)] := by
          rw [List.drop_eq_getElem_cons (by omega)]
          rfl
        rw [hone'] at h1
        have hys : ys[j]? = some (ys[j]'(by rw [hyl]; exact (Array.getElem?_eq_some_iff.1 hj).1)) := List.getElem?_eq_getElem _
        rw [hys] at h1
        obtain ⟨x, hx, _, _⟩ := DataW.trod_int hu h1
        refine ⟨x, ?_⟩
        have hv : cs'[j]? = some (cs'[j]'(by omega)) := List.getElem?_eq_getElem (by omega)
        rw [← Go.Deep.add_add, hat j hj3, hv]
        simp only [List.cons.injEq, and_true] at hx
        rw [hx]
      have fld : ∀ j, j < 3 → ∃ f, (Tryz.prog.fieldsOf 45)[j]? = some f ∧ Tryz.prog.underlying f.type = some (.int .i64) := by
        intro j hj
        simp only [Program.fieldsOf, Tryz.underlying45]
        match j, hj with
        | 0, _ => exact ⟨_, rfl, by first | exact Tryz.underlying3 | exact Tryz.underlying2⟩
        | 1, _ => exact ⟨_, rfl, by first | exact Tryz.underlying3 | exact Tryz.underlying2⟩
        | 2, _ => exact ⟨_, rfl, by first | exact Tryz.underlying3 | exact Tryz.underlying2⟩
      obtain ⟨f0, g0, u0⟩ := fld 0 (by omega)
      obtain ⟨f1, g1, u1⟩ := fld 1 (by omega)
      obtain ⟨f2, g2, u2⟩ := fld 2 (by omega)
      obtain ⟨x0, e0⟩ := get 0 f0 g0 u0 (by omega)
      obtain ⟨x1, e1⟩ := get 1 f1 g1 u1 (by omega)
      obtain ⟨x2, e2⟩ := get 2 f2 g2 u2 (by omega)
      exact ⟨x0, x1, x2, e0, e1, e2⟩
    obtain ⟨E, hEl, hE⟩ := pick_edges cells
    subst hEl
    have hmax : cap ≤ 9223372036854775807 := hm
    refine ⟨some a', cap, E, fun i => a'.add (i * 3), rfl, Rd.addr etE (fun h0 => World.block_lt_of_cell? w a' (u := .int .i64 (eAt E 0).u) ?_) fun i hi j hj => ?_, by omega⟩
    · have := (hE 0 h0).1
      rwa [Nat.zero_mul, add_zero] at this
    · match j, hj with
      | 0, _ => exact (hE i hi).1
      | 1, _ => exact (hE i hi).2.1
      | 2, _ => exact (hE i hi).2.2
theorem two_list {α : Type} {l : List α} (h : l.length = 2) : ∃ a b, l = [a, b] := by
  match l, h with
  | [a, b], _ => exact ⟨a, b, rfl⟩
set_option maxRecDepth 100000 in
/-- a pair that came in -/
theorem came_pair {v : Value} {r : Reach} {b0 : Nat} (hv : Value.okWide Tryz.prog w r b0 91 v) {d : DataW H} {p : List MemPlace} (h : DataW.Trod enc Tryz.prog w base spare held 91 v d p) :
    ∃ x y : Int, v = .agg #[.int .i64 x, .int .i64 y] := by
  obtain ⟨cs, rfl, hsz⟩ : ∃ cs, v = .agg cs ∧ cs.size = Tryz.prog.cellsOf 91 := by
    simp only [Value.okWide, Tryz.underlying91] at hv
    obtain ⟨cs, h1, h2, _⟩ := hv
    exact ⟨cs, h1, h2⟩
  rw [show Tryz.prog.cellsOf 91 = 2 by kernel_rfl] at hsz
  obtain ⟨fuel, hf⟩ := h
  obtain ⟨xs, m, _, _, _, hxl, hg⟩ := DataW.trod_array Tryz.underlying91 hf
  rw [show Tryz.prog.cellsOf 3 = 1 by kernel_rfl] at hg
  obtain ⟨l⟩ := cs
  obtain ⟨c0, c1, rfl⟩ := two_list hsz
  obtain ⟨y0, y1, rfl⟩ := two_list hxl
  have g0 := hg 0 (by decide)
  have g1 := hg 1 (by decide)
  simp [Value.cells] at g0 g1
  obtain ⟨x, hx, _⟩ := DataW.trod_int Tryz.underlying3 g0
  obtain ⟨y, hy, _⟩ := DataW.trod_int Tryz.underlying3 g1
  simp only [List.cons.injEq, and_true] at hx hy
  exact ⟨x, y, by rw [hx, hy]⟩
end
end Go.Proofs.YtpbgophogneecaaGreat
