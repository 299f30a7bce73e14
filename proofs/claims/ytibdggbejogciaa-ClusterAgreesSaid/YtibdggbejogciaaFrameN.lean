/- What the laws about links share beside Frame: how slices of links and of small numbers are read. No conditions. -/
import Derived.Test.YtibdggbejogciaaFrame
import Derived.Test.YtibdggbejogciaaBlt
namespace Go.Proofs.Ytibdggbejogciaa
open Go.ChangeShapes Go.WideShapes Go.ChangeAt Go.RowKit

theorem pick_links {len : Nat} {Q : Nat → Int → Int → Int → Prop} (h : ∀ i, i < len → ∃ u v x, Q i u v x) : ∃ E : List Lk, E.length = len ∧ ∀ i, i < len → Q i (lAt E i).u (lAt E i).v (lAt E i).w := by
  induction len with
  | zero => exact ⟨[], rfl, fun i hi => absurd hi (by omega)⟩
  | succ n ih =>
    obtain ⟨E, hl, hE⟩ := ih fun i hi => h i (by omega)
    obtain ⟨u, v, x, hq⟩ := h n (by omega)
    refine ⟨E ++ [⟨u, v, x⟩], by simp [hl], fun i hi => ?_⟩
    by_cases hn : i = n
    · subst hn
      have e : lAt (E ++ [⟨u, v, x⟩]) i = ⟨u, v, x⟩ := by rw [lAt_eq (by simp; omega), List.getElem_append_right (by omega)]; simp
      rw [e]; exact hq
    · have e : lAt (E ++ [⟨u, v, x⟩]) i = lAt E i := by rw [lAt_eq (by simp; omega), lAt_eq (by omega), List.getElem_append_left (by omega)]
      rw [e]; exact hE i (by omega)
theorem Try.infoL : (Try.prog.info? 65).map (fun i => (i.zero, i.size, i.bytes)) = some (some (.agg #[.int .u8 0, .int .u8 0, .int .i8 0]), 3, 3) := by kernel_rfl
theorem etL : ET 22 65 3 3 := ET.of Try.underlying22 Try.infoL rfl (by decide)
section
variable {H : Type} {enc : TypeId × Value → H} {w : World} {base : Nat} {spare : Nat → Bool} {held : Bool}
set_option maxRecDepth 100000 in
/-- a slice of links that came in, with their ranges -/
theorem came_links {v : Value} {d : DataW H} {p : List MemPlace} {r : Reach} {b0 : Nat} (hv : Value.okWide Try.prog w r b0 22 v) (h : DataW.Trod enc Try.prog w base spare held 22 v d p) :
    ∃ (a : Option Addr) (cap : Nat) (E : List Lk) (A : Nat → Addr), v = .slice a E.length cap ∧ LS w w.heap.size v E A ∧ E.length ≤ 9223372036854775807 ∧ LkR E := by
  obtain ⟨a, len, cap, rfl⟩ := okWide_slice Try.underlying22 hv
  obtain ⟨fuel, hf⟩ := h
  rcases Go.Deep.open_slice Try.underlying22 hf with ⟨h0, _⟩ | ⟨a', len', cap', m, n, D, Pl, hcs, _, hl, hm, hmm, _, hi⟩
  · simp only [Value.cells, List.cons.injEq, Value.slice.injEq, and_true] at h0
    obtain ⟨rfl, rfl, rfl⟩ := h0
    exact ⟨none, 0, [], fun _ => ⟨0, 0, none⟩, rfl, Rd.nil _, by decide, fun i hi => absurd hi (by simp)⟩
  · simp only [Value.cells, List.cons.injEq, Value.slice.injEq, and_true] at hcs
    obtain ⟨rfl, rfl, rfl⟩ := hcs
    have hC : Try.prog.cellsOf 65 = 3 := by kernel_rfl
    have hle : len ≤ m := by rw [hmm]; split <;> omega
    have cells : ∀ i, i < len → ∃ u v x, w.cell? (a'.add (i * 3)) = some (.int .u8 u) ∧ w.cell? (a'.add (i * 3 + 1)) = some (.int .u8 v) ∧ w.cell? (a'.add (i * 3 + 2)) = some (.int .i8 x) ∧ (0 ≤ u ∧ u ≤ 255) ∧ (0 ≤ v ∧ v ≤ 255) ∧ (-128 ≤ x ∧ x ≤ 127) := by
      intro i hi'
      obtain ⟨cs', hc, ht'⟩ := hi i (by omega)
      rw [hC] at hc
      obtain ⟨ys, n', hn', hy, hlen, hyl, hg⟩ := DataW.trod_struct Try.underlying65 ht'
      obtain ⟨_, hcl, hat⟩ := World.cells?_some hc
      have one : Go.Deep.oneCellFields Try.prog (Try.prog.fieldsOf 65) = true := by kernel_rfl
      simp only [Program.fieldsOf, Try.underlying65] at one
      have get : ∀ (k : IntKind) (j : Nat) f, (Try.prog.fieldsOf 65)[j]? = some f → Try.prog.underlying f.type = some (.int k) → j < 3 → ∃ x, w.cell? (a'.add (i * 3 + j)) = some (.int k x) ∧ (Lit.int k x).wf = true := by
        intro k j f hj hu hj3
        simp only [Program.fieldsOf, Try.underlying65] at hj
        obtain ⟨ho, hk⟩ := Go.Deep.hone_of one j f hj
        have h1 := hg j f hj
        rw [ho, hk] at h1
        have hone' : (cs'.drop j).take 1 = [cs'[j]'(by omega)] := by
          rw [List.drop_eq_getElem_cons (by omega)]
          rfl
        rw [hone'] at h1
        have hys : ys[j]? = some (ys[j]'(by rw [hyl]; exact (Array.getElem?_eq_some_iff.1 hj).1)) := List.getElem?_eq_getElem _
        rw [hys] at h1
        obtain ⟨x, hx, _, hwf⟩ := DataW.trod_int hu h1
        refine ⟨x, ?_, hwf⟩
        have hv : cs'[j]? = some (cs'[j]'(by omega)) := List.getElem?_eq_getElem (by omega)
        rw [← Go.Deep.add_add, hat j hj3, hv]
        simp only [List.cons.injEq, and_true] at hx
        rw [hx]
      have fld : ∀ j, j < 3 → ∃ f, (Try.prog.fieldsOf 65)[j]? = some f ∧ Try.prog.underlying f.type = some (.int (if j = 2 then .i8 else .u8)) := by
        intro j hj
        simp only [Program.fieldsOf, Try.underlying65]
        match j, hj with
        | 0, _ => exact ⟨_, rfl, by first | exact Try.underlying5 | exact Try.underlying63⟩
        | 1, _ => exact ⟨_, rfl, by first | exact Try.underlying5 | exact Try.underlying63⟩
        | 2, _ => exact ⟨_, rfl, by first | exact Try.underlying5 | exact Try.underlying63⟩
      obtain ⟨f0, g0, u0⟩ := fld 0 (by omega)
      obtain ⟨f1, g1, u1⟩ := fld 1 (by omega)
      obtain ⟨f2, g2, u2⟩ := fld 2 (by omega)
      obtain ⟨x0, e0, r0⟩ := get .u8 0 f0 g0 u0 (by omega)
      obtain ⟨x1, e1, r1⟩ := get .u8 1 f1 g1 u1 (by omega)
      obtain ⟨x2, e2, r2⟩ := get .i8 2 f2 g2 u2 (by omega)
      exact ⟨x0, x1, x2, e0, e1, e2, bounds_u8 r0, bounds_u8 r1, bounds_i8 r2⟩
    obtain ⟨E, hEl, hE⟩ := pick_links cells
    subst hEl
    have hmax : cap ≤ 9223372036854775807 := hm
    refine ⟨some a', cap, E, fun i => a'.add (i * 3), rfl, Rd.addr etL (fun h0 => World.block_lt_of_cell? w a' (u := .int .u8 (lAt E 0).u) ?_) fun i hi j hj => ?_, by omega, fun i hi => (hE i hi).2.2.2⟩
    · have := (hE 0 h0).1
      rwa [Nat.zero_mul, add_zero] at this
    · match j, hj with
      | 0, _ => exact (hE i hi).1
      | 1, _ => exact (hE i hi).2.1
      | 2, _ => exact (hE i hi).2.2.1
end
end Go.Proofs.Ytibdggbejogciaa
