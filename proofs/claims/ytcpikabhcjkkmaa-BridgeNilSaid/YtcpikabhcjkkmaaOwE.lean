/- Edges that a call owns; a copy onto nil. No conditions. -/
import Derived.Test.YtcpikabhcjkkmaaOwI
namespace Go.Proofs.Ytcpikabhcjkkmaa
open Go.RowKit

theorem flat_snoc (T : List Ed) (x : Ed) : flat (edC (T ++ [x])) (T ++ [x]).length 3 = flat (edC T) T.length 3 ++ #[Value.int .i64 x.u, .int .i64 x.v, .int .i64 x.w].toList := by
  have e1 : ∀ i, i < T.length → eAt (T ++ [x]) i = eAt T i := fun i hi => by rw [eAt_eq (by simp; omega), eAt_eq hi, List.getElem_append_left hi]
  have e2 : eAt (T ++ [x]) T.length = x := by rw [eAt_eq (by simp)]; simp
  rw [List.length_append, List.length_singleton, flat_succ]
  congr 1
  · refine flat_congr fun i hi j _ => ?_
    unfold edC; rw [e1 i hi]
  · simp [List.range_succ, edC, e2]
/-- edges that the call owns -/
def OwnE (base : Nat) (v : Value) (T : List Ed) (w : World) : Prop := w.ownsRow base 48 3 v T.length (flat (edC T) T.length 3)
theorem OwnE.nil (base : Nat) (w : World) : OwnE base (.slice none 0 0) [] w := World.ownsRow_nil _ _ _ _
theorem OwnE.snoc {base g cp : Nat} {T : List Ed} {x : Ed} {w : World} (h : w.ownsRow base 48 3 (.slice (some ⟨g, 0, none⟩) (T.length + 1 : Nat) cp) (T.length + 1) (flat (edC T) T.length 3 ++ #[Value.int .i64 x.u, .int .i64 x.v, .int .i64 x.w].toList)) :
    OwnE base (.slice (some ⟨g, 0, none⟩) (T.length + 1 : Nat) cp) (T ++ [x]) w := by
  rw [OwnE, flat_snoc, List.length_append, List.length_singleton]; exact h
theorem OwnE.rd {base : Nat} {v : Value} {T : List Ed} {w : World} (h : OwnE base v T w) : ∃ a cap A, v = .slice a T.length cap ∧ ES w w.heap.size (.slice a T.length cap) T A := by
  obtain ⟨a, cap, A, rfl, h2⟩ := Rd.own etE h
  exact ⟨a, cap, A, rfl, h2⟩
theorem OwnE.below {base : Nat} {v : Value} {T : List Ed} {w w' : World} (h : OwnE base v T w) (hb : Below w.heap.size w w') : OwnE base v T w' := ownsRow_below h hb
theorem OwnE.lower {base base' : Nat} {v : Value} {T : List Ed} {w : World} (h : OwnE base v T w) (hb : base' ≤ base) : OwnE base' v T w :=
  ⟨h.1, h.2.imp id (by rintro ⟨g, cap, cur, e1, e2, e3⟩; exact ⟨g, cap, cur, e1, by omega, e3⟩)⟩
theorem OwnI.lower {base base' : Nat} {v : Value} {l : List Nat} {w : World} (h : OwnI base v l w) (hb : base' ≤ base) : OwnI base' v l w :=
  ⟨h.1, h.2.imp id (by rintro ⟨g, cap, cur, e1, e2, e3⟩; exact ⟨g, cap, cur, e1, by omega, e3⟩)⟩
/-- nothing is appended to nil -/
theorem run_append_nil_nothing {t e : TypeId} {size bytes : Nat} (E : ET t e size bytes) (ty : TypeId) (ax : Option Addr) (c : Nat) (w : World) :
    (Builtin.append_ #[t, t] ty #[.slice none 0 0, .slice ax 0 c]).run Try.prog w = .ok (.slice none 0 0) w := by
  obtain ⟨i, z, hi, hz, h2, h3, h4⟩ := E.info
  cases ax with
  | none => simp [Builtin.append_, run_underlying E.ht, sizeOf, typeInfo, hi, Builtin.lenOf, Builtin.firstCells]
  | some a => simp [Builtin.append_, run_underlying E.ht, sizeOf, typeInfo, hi, Builtin.lenOf, Builtin.firstCells, loadCells, loadCellsFrom]
/-- a copy of any slice: the elements, appended to nil -/
theorem copiedNil {ops : Array Oper} {rest : List Oper} {o : Oper} {a : Act} {Q : Exit → Act → World → Prop} {w0 : World} {t e : TypeId} {size bytes : Nat} {f : Nat → Nat → Value} (E : ET t e size bytes) (hgd : o.guard = none) (s x : Operand)
    (ho : o.op = .call { callee := .builtin .append, args := #[s, x], argTypes := #[t, t] }) {ax : Option Addr} {m c B : Nat} {A : Nat → Addr} (hS : Rd t size w0 B (.slice ax m c) m f A) (hf : ∀ i, i < m → ∀ j, j < size → (f i j).oneCell' = true)
    (hs : a.eval s = .slice none 0 0) (hx : a.eval x = .slice ax m c) (h63 : m ≤ 9223372036854775807) (hbytes : m * bytes ≤ 140737488355328)
    (h : ∀ (v : Value) (w1 : World), w1.ownsRow w0.heap.size e size v m (flat f m size) → Below w0.heap.size w0 w1 →
      wpList Try.prog ops Q rest (a.put o.dst v) w1) : wpList Try.prog ops Q (o :: rest) a w0 := by
  have hown : w0.ownsRow w0.heap.size e size (.slice none 0 0) 0 [] := World.ownsRow_nil _ _ _ _
  by_cases hm : m = 0
  · subst hm
    refine wpList_plain hgd fun K hK => ?_
    have hr := run_append_nil_nothing E o.type ax c w0
    unfold Oper.wp execOp
    simp only [ho, resolve, invoke, builtin, Sem.run_bind, Sem.run_pure, Result.andThen_ok, List.map_toArray, List.map_cons, List.map_nil, hs, hx, hr]
    exact hK _ _ (h (.slice none 0 0) _ hown (Below.refl _ _))
  · obtain ⟨i, z, hi, hz, h2, h3, h4⟩ := E.info
    obtain ⟨ad, rfl, hlt, _, hce⟩ := hS.view E (by omega)
    refine wpList_append_own_at _ hgd s x t ho w0.heap.size e i z size bytes E.ht hi hz h2 h3 h4 E.pos _ 0 _ hs hown ad m c (flat f m size) hx (flat_len _ _ _) ?_ ?_ (by unfold maxLen; omega) (by rw [Nat.zero_add]; exact hbytes) (Nat.le_refl _) ?_
    · intro q u hu
      have hq := (List.getElem?_eq_some_iff.1 hu).1
      rw [flat_len] at hq
      obtain ⟨x, y, hx, hy, rfl⟩ := div_mod_of hq
      rw [flat_at hx hy] at hu
      cases hu
      exact hce x hx y hy
    · intro u hu
      obtain ⟨q, hq, rfl⟩ := List.mem_iff_getElem.1 hu
      rw [flat_len] at hq
      obtain ⟨x, y, hx, hy, rfl⟩ := div_mod_of hq
      have := flat_at (f := f) hx hy
      rw [List.getElem?_eq_getElem (by rw [flat_len]; exact hq)] at this
      rw [Option.some.inj this]; exact hf x hx y hy
    · intro v' w1 hown' hg _ _
      simp only [Nat.zero_add, List.nil_append] at hown'
      exact h v' w1 hown' ((Below.refl w0.heap.size w0).grown hg (Nat.le_refl _) (fun j hj => by cases hj))
end Go.Proofs.Ytcpikabhcjkkmaa
