/- How slices of pairs of small numbers are read. No conditions. -/
import Derived.Test.YtcpikabhcjkkmaaFrame
import Derived.Test.YtcpikabhcjkkmaaPr8
namespace Go.Proofs.Ytcpikabhcjkkmaa
open Go.ChangeShapes Go.WideShapes Go.ChangeAt Go.RowKit

theorem pick_pairs {len : Nat} {Q : Nat → Int → Int → Prop} (h : ∀ i, i < len → ∃ u v, Q i u v) : ∃ L : List (Int × Int), L.length = len ∧ ∀ i, i < len → Q i (pAt L i).1 (pAt L i).2 := by
  induction len with
  | zero => exact ⟨[], rfl, fun i hi => absurd hi (by omega)⟩
  | succ n ih =>
    obtain ⟨L, hl, hL⟩ := ih fun i hi => h i (by omega)
    obtain ⟨u, v, hq⟩ := h n (by omega)
    refine ⟨L ++ [(u, v)], by simp [hl], fun i hi => ?_⟩
    by_cases hn : i = n
    · subst hn
      have e : pAt (L ++ [(u, v)]) i = (u, v) := by rw [pAt_eq (by simp; omega), List.getElem_append_right (by omega)]; simp
      rw [e]; exact hq
    · have e : pAt (L ++ [(u, v)]) i = pAt L i := by rw [pAt_eq (by simp; omega), pAt_eq (by omega), List.getElem_append_left (by omega)]
      rw [e]; exact hL i (by omega)
theorem Try.infoP8 : (Try.prog.info? 91).map (fun i => (i.zero, i.size, i.bytes)) = some (some (.agg #[.int .u8 0, .int .u8 0]), 2, 2) := by kernel_rfl
theorem etP8 : ET 43 91 2 2 := ET.of Try.underlying43 Try.infoP8 rfl (by decide)
section
variable {H : Type} {enc : TypeId × Value → H} {w : World} {base : Nat} {spare : Nat → Bool} {held : Bool}
set_option maxRecDepth 100000 in
/-- a slice of pairs that came in, with their ranges -/
theorem came_pairs8 {v : Value} {d : DataW H} {p : List MemPlace} {r : Reach} {b0 : Nat} (hv : Value.okWide Try.prog w r b0 43 v) (h : DataW.Trod enc Try.prog w base spare held 43 v d p) :
    ∃ (a : Option Addr) (cap : Nat) (L : List (Int × Int)) (A : Nat → Addr), v = .slice a L.length cap ∧ PS w w.heap.size v L A ∧ L.length ≤ 9223372036854775807 ∧ PrR L := by
  obtain ⟨a, len, cap, rfl⟩ := okWide_slice Try.underlying43 hv
  obtain ⟨fuel, hf⟩ := h
  rcases Go.Deep.open_slice Try.underlying43 hf with ⟨h0, _⟩ | ⟨a', len', cap', m, n, D, Pl, hcs, _, hl, hm, hmm, _, hi⟩
  · simp only [Value.cells, List.cons.injEq, Value.slice.injEq, and_true] at h0
    obtain ⟨rfl, rfl, rfl⟩ := h0
    exact ⟨none, 0, [], fun _ => ⟨0, 0, none⟩, rfl, Rd.nil _, by decide, fun i hi => absurd hi (by simp)⟩
  · simp only [Value.cells, List.cons.injEq, Value.slice.injEq, and_true] at hcs
    obtain ⟨rfl, rfl, rfl⟩ := hcs
    have hC : Try.prog.cellsOf 91 = 2 := by kernel_rfl
    have hle : len ≤ m := by rw [hmm]; split <;> omega
    have cells : ∀ i, i < len → ∃ u v, w.cell? (a'.add (i * 2)) = some (.int .u8 u) ∧ w.cell? (a'.add (i * 2 + 1)) = some (.int .u8 v) ∧ (0 ≤ u ∧ u ≤ 255) ∧ (0 ≤ v ∧ v ≤ 255) := by
      intro i hi'
      obtain ⟨cs', hc, ht'⟩ := hi i (by omega)
      rw [hC] at hc
      obtain ⟨_, hcl, hat⟩ := World.cells?_some hc
      obtain ⟨xs, m', _, _, _, hxl, hg⟩ := DataW.trod_array Try.underlying91 ht'
      rw [show Try.prog.cellsOf 5 = 1 by kernel_rfl] at hg
      obtain ⟨c0, c1, rfl⟩ := two_list hcl
      obtain ⟨y0, y1, rfl⟩ := two_list hxl
      have g0 := hg 0 (by decide)
      have g1 := hg 1 (by decide)
      simp at g0 g1
      obtain ⟨x, hx, _, hwx⟩ := DataW.trod_int Try.underlying5 g0
      obtain ⟨y, hy, _, hwy⟩ := DataW.trod_int Try.underlying5 g1
      simp only [List.cons.injEq, and_true] at hx hy
      have a0 := hat 0 (by decide)
      have a1 := hat 1 (by decide)
      rw [Go.Deep.add_add] at a0 a1
      refine ⟨x, y, ?_, ?_, bounds_u8 hwx, bounds_u8 hwy⟩
      · rw [← Nat.add_zero (i * 2), a0, ← hx]; rfl
      · rw [a1, ← hy]; rfl
    obtain ⟨L, hLl, hL⟩ := pick_pairs cells
    subst hLl
    have hmax : cap ≤ 9223372036854775807 := hm
    refine ⟨some a', cap, L, fun i => a'.add (i * 2), rfl, Rd.addr etP8 (fun h0 => World.block_lt_of_cell? w a' (u := .int .u8 (pAt L 0).1) ?_) fun i hi j hj => ?_, by omega, fun i hi => (hL i hi).2.2⟩
    · have := (hL 0 h0).1
      rwa [Nat.zero_mul, add_zero] at this
    · match j, hj with
      | 0, _ => exact (hL i hi).1
      | 1, _ => exact (hL i hi).2.1
end
end Go.Proofs.Ytcpikabhcjkkmaa
