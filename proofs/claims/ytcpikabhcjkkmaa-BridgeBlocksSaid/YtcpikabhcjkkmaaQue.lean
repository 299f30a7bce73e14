/- A queue of indexes in a row that the call owns: elements are appended at its end, and taken from its front by reslicing. Conditions: it is not too long. -/
import Derived.Test.YtcpikabhcjkkmaaMe
import Derived.OwnWalkIn
import Derived.ArgAppend
namespace Go.Proofs.Ytcpikabhcjkkmaa
open Go.RowKit

def QOwn (base : Nat) (v : Value) (l : List Nat) (w : World) : Prop := ∃ (g off cap : Nat) (cur : Array Value), v = .slice (some ⟨g, off, none⟩) l.length cap ∧ base ≤ g ∧ w.heap[g]? = some (.cells cur 3 (0, 0)) ∧ l.length ≤ cap ∧ (∀ i, i < l.length → cur[off + i]? = some (.int .i64 (l.getD i 0 : Nat))) ∧ (0 < cap → off + cap ≤ cur.size)
section
variable {w w' : World} {base : Nat} {v : Value} {l : List Nat}
theorem QOwn.lt (h : QOwn base v l w) {b : Nat} (hb : v.ownBlock = some b) : base ≤ b ∧ b < w.heap.size := by
  obtain ⟨g, off, cap, cur, rfl, h1, h2, _⟩ := h
  have hb : g = b := Option.some.inj hb
  subst hb
  exact ⟨h1, (Array.getElem?_eq_some_iff.1 h2).1⟩
theorem QOwn.keep (h : QOwn base v l w) (hk : ∀ b, v.ownBlock = some b → w'.heap[b]? = w.heap[b]?) : QOwn base v l w' := by
  obtain ⟨g, off, cap, cur, rfl, h1, h2, h3⟩ := h
  exact ⟨g, off, cap, cur, rfl, h1, (hk g rfl).trans h2, h3⟩
theorem QOwn.one (w : World) (x : Nat) (hb : base ≤ w.heap.size) : QOwn base (.slice (some ⟨w.heap.size, 0, none⟩) 1 1) [x] (w.alloc (.cells #[.int .i64 (x : Nat)] 3)) :=
  ⟨w.heap.size, 0, 1, _, rfl, hb, heap_alloc_new _ _, Nat.le_refl _, fun i hi => by
    have : i = 0 := by simp at hi; omega
    subst this; rfl, fun _ => by simp⟩
/-- the first element, and what is left behind it -/
theorem QOwn.front {x : Nat} (h : QOwn base v (x :: l) w) : ∃ g off cap v2, v = .slice (some ⟨g, off, none⟩) (l.length + 1 : Nat) cap ∧ g < w.heap.size ∧ w.cell? ⟨g, off, none⟩ = some (.int .i64 (x : Nat)) ∧ (∀ w', (Instr.slice 29 v (some (.int .i64 1)) none none).run Try.prog w' = .ok v2 w') ∧ QOwn base v2 l w ∧ v2.ownBlock = some g := by
  obtain ⟨g, off, cap, cur, rfl, h1, h2, h3, h4, h5⟩ := h
  simp only [List.length_cons] at h3
  have hc := h4 0 (by simp)
  rw [Nat.add_zero] at hc
  refine ⟨g, off, cap, .slice (some (if cap = 1 then ⟨g, off, none⟩ else ⟨g, off + 1, none⟩)) l.length (cap - 1 : Nat), rfl, (Array.getElem?_eq_some_iff.1 h2).1, by simp [World.cell?, h2, hc], fun w' => ?_, ?_, ?_⟩
  · have e1 : (1 : Int) ≤ (l.length : Int) + 1 := by omega
    simp [Instr.slice, run_underlying etI.ht, Instr.sliceBounds, Instr.sliceBound, asIntOf, etI.size, go_sem, add_mk]
    rw [if_pos e1]
    congr 2
    split <;> rfl
  · by_cases c : cap = 1
    · rw [if_pos c]
      have hl : l.length = 0 := by omega
      exact ⟨g, off, cap - 1, cur, rfl, h1, h2, by omega, fun i hi => by omega, fun h => by omega⟩
    · rw [if_neg c]
      refine ⟨g, off + 1, cap - 1, cur, rfl, h1, h2, by omega, fun i hi => ?_, fun _ => by have := h5 (by omega); omega⟩
      have := h4 (i + 1) (by simp; omega)
      rw [show off + 1 + i = off + (i + 1) by omega, this]
      rfl
  · split <;> rfl
/-- one element more -/
theorem run_push_q (h : QOwn base v l w) (hb : base ≤ w.heap.size) (ty : TypeId) (x : Nat) (ad : Addr) (c : Nat) (hx : w.cell? ad = some (.int .i64 (x : Nat))) (hl : l.length ≤ 1000000) :
    ∃ v' w', (Builtin.append_ #[29, 29] ty #[v, .slice (some ad) 1 c]).run Try.prog w = .ok v' w' ∧ QOwn base v' (l ++ [x]) w' ∧ w.grownBy w' v.ownBlock ∧ ∀ b, v'.ownBlock = some b → v.ownBlock = some b ∨ w.heap.size ≤ b := by
  obtain ⟨i, z, hi, hz, k2, k3, k4⟩ := etI.info
  obtain ⟨g, off, cap, cur, rfl, h1, h2, h3, h4, h5⟩ := h
  have hnews : ∀ (j : Nat) (u : Value), [Value.int .i64 (x : Nat)][j]? = some u → w.cell? (ad.add j) = some u := fun j u hu => by
    cases j with
    | zero => rw [add_zero]; simpa using hu ▸ hx
    | succ j => simp at hu
  by_cases hr : l.length + 1 ≤ cap
  · have hcs := h5 (by omega)
    have hold : ∃ u, cur[off + l.length]? = some u := ⟨_, Array.getElem?_eq_getElem (by omega)⟩
    obtain ⟨u0, hu0⟩ := hold
    have hrun := run_append_room_cells (P := Try.prog) w 29 ty 3 i etI.ht hi g off l.length cap ad 1 c [.int .i64 (x : Nat)] (by rw [k2]; rfl) hnews (by simp [Value.oneCell']) hr
      (fun j hj => by
        have : j = 0 := by simp at hj; omega
        subst this
        rw [k2, Nat.mul_one, Nat.add_zero]
        simp [World.cell?, h2, hu0]) (fun j hj => by simp [World.frozen?, h2])
    rw [k2, Nat.mul_one] at hrun
    refine ⟨_, _, hrun, ⟨g, off, cap, cur.setIfInBounds (off + l.length) (.int .i64 (x : Nat)), by rw [List.length_append]; rfl, h1, ?_, by rw [List.length_append]; exact hr, fun q hq => ?_, fun hh => by have := h5 hh; simpa using this⟩, ?_, fun b hb => .inl hb⟩
    · show (w.setCell ⟨g, off + l.length, none⟩ _).heap[g]? = _
      simp [World.setCell, Array.getElem?_modify, h2]
    · rw [List.length_append, List.length_singleton] at hq
      rw [Array.getElem?_setIfInBounds]
      by_cases hql : q = l.length
      · subst hql
        rw [if_pos rfl, if_pos (by omega)]
        simp [List.getD]
      · rw [if_neg (by omega), h4 q (by omega)]
        rw [List.getD_eq_getElem?_getD, List.getD_eq_getElem?_getD, List.getElem?_append_left (by omega)]
    · show w.grownBy (w.setCell ⟨g, off + l.length, none⟩ _) _
      exact ⟨rfl, rfl, rfl, by simp [World.setCell], fun k _ hk => Below.heap_setCell _ _ _ _ (fun e => hk (by rw [e]; rfl))⟩
  · obtain ⟨v', w', hrun, r1, r2⟩ := run_append_arg_grows (P := Try.prog) w 29 ty 3 i z 1 8 etI.ht hi hz k2 k3 k4 (by decide) ⟨g, off, none⟩ l.length cap ((intsN l).map (Value.int .i64)) (by simp [intsN_len])
      (fun j u hu => by
        have hj : j < l.length := by have := (List.getElem?_eq_some_iff.1 hu).1; simpa [intsN_len] using this
        rw [intsN_at hj] at hu
        cases hu
        rw [add_mk]
        simp [World.cell?, h2, h4 j hj]) ad 1 c [.int .i64 (x : Nat)] rfl hnews (by omega) (by unfold maxLen; omega) (by omega)
    refine ⟨v', w', hrun, ?_, ⟨r2.os, r2.tape, r2.output, r2.size, fun k hk _ => r2.block k hk (by simp)⟩, fun b hb => .inr (World.ownsRow.lt r1 b hb).1⟩
    rcases r1.2 with ⟨_, e2⟩ | ⟨g2, cap2, cur2, e1, e2, e3, e4, e5, e6, e7⟩
    · omega
    · refine ⟨g2, 0, cap2, cur2, by rw [List.length_append]; exact e1, by omega, e3, by rw [List.length_append]; exact e4, fun q hq => ?_, fun _ => by omega⟩
      rw [List.length_append, List.length_singleton] at hq
      rw [Nat.zero_add]
      have h8 : (((intsN l).map (Value.int .i64)) ++ [Value.int .i64 (x : Nat)])[q]? = some (.int .i64 ((l ++ [x]).getD q 0 : Nat)) := by
        have := intsN_at (l := l ++ [x]) (i := q) (by simp; omega)
        rw [intsN_snoc, List.map_append] at this
        exact this
      rw [← e7, List.getElem?_take, if_pos (by omega), Array.getElem?_toList] at h8
      exact h8
theorem wpListIn_push_q {F : Fence} {n : Nat} {ops : Array Oper} {rest : List Oper} {o : Oper} {a : Act} {Q : Exit → Act → World → Prop} {w0 : World} (hgd : o.guard = none) (s y : Operand)
    (hop : o.op = .call { callee := .builtin .append, args := #[s, y], argTypes := #[29, 29] }) (base : Nat) (v : Value) (l : List Nat) (h : QOwn base v l w0) (hs : a.eval s = v) (x N : Nat) (hx : a.eval y = .slice (some ⟨N, 0, none⟩) 1 1) (hN : w0.heap.size = N) (hb : base ≤ w0.heap.size) (hl : l.length ≤ 1000000)
    (hK : ∀ v' w', QOwn base v' (l ++ [x]) w' → w0.grownBy w' v.ownBlock → (∀ b, v'.ownBlock = some b → v.ownBlock = some b ∨ w0.heap.size ≤ b) → wpListIn F n Try.prog ops Q rest (a.put o.dst v') w') :
    wpListIn F n Try.prog ops Q (o :: rest) a (w0.alloc (.cells #[.int .i64 (x : Nat)] 3)) := by
  subst hN
  refine wpListIn_plain hgd fun K hK' => ?_
  have hnew : (w0.alloc (.cells #[.int .i64 (x : Nat)] 3)).cell? ⟨w0.heap.size, 0, none⟩ = some (.int .i64 (x : Nat)) := by
    have := heap_alloc_new w0 (.cells #[.int .i64 (x : Nat)] 3)
    simp only [World.cell?, this]; rfl
  have hq : QOwn base v l (w0.alloc (.cells #[.int .i64 (x : Nat)] 3)) := h.keep fun b hb => Below.heap_alloc _ _ _ (h.lt hb).2
  obtain ⟨v', w', hrun, r1, r2, r3⟩ := run_push_q hq (by rw [World.size_alloc]; omega) o.type x ⟨w0.heap.size, 0, none⟩ 1 hnew hl
  unfold Oper.wpIn
  refine ⟨?_, ?_⟩
  · simp [Oper.about, hop, resolve, Target.leads, Sem.run_pure]
  · rw [Oper.semAt_plain F _ _ (by rw [hop]; intro c hc'; cases hc')]
    simp [execOp, hop, resolve, invoke, builtin, hs, hx, hrun, Result.andThen]
    refine hK' _ _ (hK v' w' r1 (grownBy_of_alloc r2) fun b hb => (r3 b hb).imp id fun c => ?_)
    rw [World.size_alloc] at c; omega
end
end Go.Proofs.Ytcpikabhcjkkmaa
