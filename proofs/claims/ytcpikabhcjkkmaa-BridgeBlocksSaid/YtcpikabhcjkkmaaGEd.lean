/- The walks of Degree and Edges of package graph. Conditions: the graph was made by New, or it is nil or zero. -/
import Derived.Test.YtcpikabhcjkkmaaAround
import Derived.Deep.QuietTactic
namespace Go.Proofs.Ytcpikabhcjkkmaa
open Go.RowKit Go.Shelf

/-- a graph that is accepted, if there is one -/
def GoG : Option (Nat × List Ed) → Prop
  | some x => GOk x.1 x.2
  | none => True
theorem GV.good {w : World} {B : Nat} {v : Value} {o : Option (Nat × List Ed)} (h : GV w B v o) : GoG o := by
  cases o with
  | none => trivial
  | some x => obtain ⟨b, _, h2⟩ := h; exact h2.ok
theorem GoG.n_le {o : Option (Nat × List Ed)} (h : GoG o) : gN o ≤ 4096 := by
  cases o with
  | none => exact Nat.zero_le _
  | some x => exact GOk.n_le h
theorem GV.ptr {w : World} {B : Nat} {v : Value} {o : Option (Nat × List Ed)} (h : GV w B v o) : ∃ p, v = .pointer p := by
  cases o with
  | some x => obtain ⟨b, rfl, _⟩ := h; exact ⟨_, rfl⟩
  | none => rcases h with rfl | ⟨b, rfl, _⟩ <;> exact ⟨_, rfl⟩
set_option maxHeartbeats 400000 in
theorem degree_any (B : Nat) (v : Value) (o : Option (Nat × List Ed)) (u : Int) (w : World) (h : GV w B v o) :
    Calls Try.prog 33 #[v, .int .i64 u] w fun e w' => e = .returned (.int .i64 (gAdj o u).length) ∧ ∃ q, w' = w.drewN q := by
  have H := Lib.hid (at_any B v o u w h)
  have hl := gAdj_len h u
  obtain ⟨p, rfl⟩ := h.ptr
  clear h
  go_enter Try.func33, Try.ntmps33
  go_wp2_with fail
  refine H.out.mono ?_
  rintro e w' ⟨a, cap, A, rfl, -, q, rfl⟩
  go_wp2_with fail
  go_ret
  exact ⟨rfl, q, rfl⟩

/-- a copy of the edges -/
def GEdges (o : Option (Nat × List Ed)) (w : World) (e : Ending) (w' : World) : Prop :=
  ∃ a cap A, e = .returned (.slice a (gE o).length cap) ∧ ES w' w'.heap.size (.slice a (gE o).length cap) (gE o) A ∧ Below w.heap.size w w'
set_option maxHeartbeats 400000 in
theorem edges_any (B : Nat) (v : Value) (o : Option (Nat × List Ed)) (w : World) (h : GV w B v o) (hB : B ≤ w.heap.size) :
    Calls Try.prog 46 #[v] w (GEdges o w) := by
  cases o with
  | none =>
    have hv := Lib.hid (valid_is (x := false) rfl h)
    obtain ⟨p, rfl⟩ := h.ptr
    clear h
    go_enter Try.func46, Try.ntmps46
    go_wp2_with fail
    refine hv.out.mono ?_
    rintro e w' ⟨rfl, rfl⟩
    go_wp2_with fail
    go_ret
    exact ⟨none, 0, fun _ => ⟨0, 0, none⟩, rfl, Rd.nil _, Below.refl _ _⟩
  | some x =>
    have hv := Lib.hid (valid_is (x := true) rfl h)
    obtain ⟨b, rfl, h2⟩ := h
    obtain ⟨sb, lb, a, cap, f, A, -, -, h3, -, -, -, hS⟩ := h2.mem
    have c1 : w.cell? ⟨b, 1, none⟩ = some (.slice a x.2.length cap) := h3.cell (by omega)
    have hml := h2.ok.m_le
    have HC := Lib.hid (cloneE B a cap x.2.length A (edC x.2) w hS hB (fun i _ j _ => edC_one x.2 i j) (by omega))
    clear h2 h3 hS
    go_enter Try.func46, Try.ntmps46
    go_wp2_with fail
    refine hv.out.mono ?_
    rintro e w' ⟨rfl, rfl⟩
    go_wp2_with fail
    refine HC.out.mono ?_
    rintro e w2 ⟨a2, cap2, A2, rfl, S2, b2, -⟩
    go_wp2_with fail
    go_ret
    exact ⟨a2, cap2, A2, rfl, S2, b2⟩

end Go.Proofs.Ytcpikabhcjkkmaa
