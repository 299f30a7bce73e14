/- How the struct of questions that came in is read. No conditions. -/
import Derived.Test.YtbjakjgabolkeaaDoorFrame2
namespace Go.Proofs.YtbjakjgabolkeaaDoor
open Go.ChangeShapes Go.WideShapes Go.ChangeAt Go.RowKit

theorem cells42 : Tryd.prog.cellsOf 42 = 5 := by kernel_rfl
theorem cells40 : Tryd.prog.cellsOf 40 = 1 := by kernel_rfl
theorem array5 {α : Type} {cs : Array α} (h : cs.size = 5) : ∃ c0 c1 c2 c3 c4, cs = #[c0, c1, c2, c3, c4] := by
  obtain ⟨l⟩ := cs
  match l, h with
  | [c0, c1, c2, c3, c4], _ => exact ⟨c0, c1, c2, c3, c4, rfl⟩
theorem list5 {α : Type} {l : List α} (h : l.length = 5) : ∃ c0 c1 c2 c3 c4, l = [c0, c1, c2, c3, c4] := by
  match l, h with
  | [c0, c1, c2, c3, c4], _ => exact ⟨c0, c1, c2, c3, c4, rfl⟩
theorem sliceForm {H : Type} {enc : TypeId × Value → H} {w : World} {fuel : Nat} {c : Value} {x : DataW H × List MemPlace} (h : DataW.trod enc Tryd.prog w 0 (fun _ => true) true fuel 40 [c] = some x) : ∃ a n cap, c = .slice a n cap := by
  rcases open_ints Tryd.underlying40 Tryd.underlying2 cells2 h with ⟨hcs, _⟩ | ⟨y, l, cc, zs, hcs, _⟩
  · simp at hcs; exact ⟨_, _, _, hcs⟩
  · simp at hcs; exact ⟨_, _, _, hcs⟩
theorem came_ask {H : Type} {enc : TypeId × Value → H} {W : World} {r : Reach} {base : Nat} {v : Value} {d : DataW H} {p : List MemPlace} (hv : Value.okWide Tryd.prog W r base 42 v) (h : DataW.Trod enc Tryd.prog W 0 (fun _ => true) true 42 v d p) :
    ∃ (qa qb qk : Int) (a : Option Addr) (n cap : Nat) (qm : Int) (L : List Int), v = .agg #[.int .i64 qa, .int .i64 qb, .int .i64 qk, .slice a n cap, .int .i64 qm] ∧ Came 40 .i64 W a n cap L ∧
      (-9223372036854775808 ≤ qa ∧ qa ≤ 9223372036854775807) ∧ (-9223372036854775808 ≤ qb ∧ qb ≤ 9223372036854775807) ∧ (-9223372036854775808 ≤ qk ∧ qk ≤ 9223372036854775807) ∧ (-9223372036854775808 ≤ qm ∧ qm ≤ 9223372036854775807) := by
  obtain ⟨cs, rfl, hsz⟩ := okWide_struct Tryd.underlying42 hv
  obtain ⟨c0, c1, c2, c3, c4, rfl⟩ := array5 (hsz.trans cells42)
  obtain ⟨fuel, hf⟩ := h
  obtain ⟨xs, n, _, _, _, hlen, hfl⟩ := DataW.trod_struct Tryd.underlying42 hf
  obtain ⟨y0, y1, y2, y3, y4, rfl⟩ := list5 hlen
  have h0 := hfl 0 _ rfl
  have h1 := hfl 1 _ rfl
  have h2 := hfl 2 _ rfl
  have h3 := hfl 3 _ rfl
  have h4 := hfl 4 _ rfl
  simp [cells3, cells40, cells2, Value.cells] at h0 h1 h2 h3 h4
  obtain ⟨qa, e0, _, wa⟩ := DataW.trod_int Tryd.underlying3 h0
  obtain ⟨qb, e1, _, wb⟩ := DataW.trod_int Tryd.underlying3 h1
  obtain ⟨qk, e2, _, wk⟩ := DataW.trod_int Tryd.underlying3 h2
  obtain ⟨qm, e4, _, wm⟩ := DataW.trod_int Tryd.underlying2 h4
  obtain ⟨a, n, cap, rfl⟩ := sliceForm h3
  obtain ⟨L, hL⟩ := came_of et40 Tryd.underlying2 cells2 h3
  simp at e0 e1 e2 e4
  subst e0; subst e1; subst e2; subst e4
  exact ⟨qa, qb, qk, a, n, cap, qm, L, rfl, hL, bounds_i64 wa, bounds_i64 wb, bounds_i64 wk, bounds_i64 wm⟩
end Go.Proofs.YtbjakjgabolkeaaDoor
