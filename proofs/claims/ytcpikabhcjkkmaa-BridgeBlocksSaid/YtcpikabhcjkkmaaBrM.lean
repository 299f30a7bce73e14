/- The search's relation to its callers: what they own, what it may turn; numbers that bound it. Conditions: the graph is one that is accepted. -/
import Derived.Test.YtcpikabhcjkkmaaBrS
import Derived.Test.YtcpikabhcjkkmaaGEd
namespace Go.Proofs.Ytcpikabhcjkkmaa
open Go.RowKit Go.Shelf

/-- how many vertices are not found -/
def unf (f : Nat → Nat) : Nat → Nat
  | 0 => 0
  | k + 1 => unf f k + if f k = 0 then 1 else 0
theorem unf_out (f : Nat → Nat) {t c : Nat} : ∀ k, k ≤ t → unf (upd f t c) k = unf f k
  | 0, _ => rfl
  | k + 1, h => by rw [unf, unf, unf_out f k (by omega), upd_ne _ _ (by omega)]
theorem unf_upd (f : Nat → Nat) {t c : Nat} (h0 : f t = 0) (hc : c ≠ 0) : ∀ k, t < k → unf (upd f t c) k + 1 = unf f k
  | 0, h => absurd h (by omega)
  | k + 1, h => by
    rw [unf, unf]
    by_cases e : t = k
    · subst e; rw [unf_out f t (Nat.le_refl _), upd_at, if_neg hc, if_pos h0]
    · rw [upd_ne _ _ (fun c => e c.symm)]
      have := unf_upd f h0 hc k (by omega)
      omega
section
variable {n : Nat} {E : List Ed} {s : Dfs} {evs : List Ev}
theorem unf_zero : ∀ k, unf (fun _ => 0) k = k
  | 0 => rfl
  | k + 1 => by rw [unf, unf_zero k, if_pos rfl]
theorem Run.bound (G : GOk n E) (h : Run n E s evs) : s.cnt + unf s.fnd n = n ∧ s.stk.length ≤ s.cnt := by
  induction h with
  | start => exact ⟨by simp [unf_zero], Nat.le_refl _⟩
  | @root s evs t h' hs ht h0 ih =>
    have := unf_upd s.fnd h0 (c := s.cnt + 1) (by omega) n ht
    exact ⟨by dsimp only; omega, by simp⟩
  | @skip s evs p q i h' hs hi hm ih => rw [hs] at ih; exact ih
  | @down s evs p q i h' hs hi hm h0 ih =>
    obtain ⟨hil, hin⟩ := adj_get hi
    obtain ⟨-, -, ht, -⟩ := oN_lnk G hil hin
    have := unf_upd s.fnd h0 (c := s.cnt + 1) (by omega) n ht
    rw [hs] at ih
    refine ⟨by dsimp only; omega, ?_⟩
    have := ih.2
    simp only [List.length_cons] at this ⊢
    omega
  | @back s evs p q i h' hs hi hm h0 ih => rw [hs] at ih; exact ih
  | @up s evs p q r h' hs hn ih => rw [hs] at ih; exact ⟨ih.1, by have := ih.2; simp only [List.length_cons] at this ⊢; omega⟩
  | @out s evs p h' hs hn ih => exact ⟨ih.1, Nat.zero_le _⟩
theorem oth_oN (G : GOk n E) {v i : Nat} (hi : i < E.length) : oth E (v : Int) i = (oN E v i : Nat) := by
  obtain ⟨a, b, ha, hb, -, -, -⟩ := G.nats hi
  unfold oth oN edP
  rw [ha, hb]
  simp only [Int.toNat_natCast]
  by_cases c : b = v
  · rw [if_pos c, if_pos (by omega)]
  · rw [if_neg c, if_neg (by omega)]
end
theorem around_len {n : Nat} {E : List Ed} {v : Nat} (hv : v < n) : (around (some (n, E)) (v : Int)).length = (adj E v).length := by
  rw [around, List.length_map, gAdj, if_pos (gHas_yes (show 0 ≤ (v : Int) ∧ (v : Int) < (n : Int) by omega))]; rfl
theorem around_get {n : Nat} {E : List Ed} (G : GOk n E) {v j i : Nat} (hv : v < n) (hi : (adj E v)[j]? = some i) : (around (some (n, E)) (v : Int)).getD j (0, 0) = (i, ((oN E v i : Nat) : Int)) := by
  have h1 := adj_get hi
  rw [List.getD_eq_getElem?_getD, around, List.getElem?_map, gAdj, if_pos (gHas_yes (show 0 ≤ (v : Int) ∧ (v : Int) < (n : Int) by omega))]
  have h2 : (adj (gE (some (n, E))) ((v : Int).toNat))[j]? = some i := hi
  rw [h2]
  show (i, oth E (v : Int) i) = _
  rw [oth_oN G h1.1]
/-- nothing but what a caller owns has changed; what it owns now is from there or new -/
structure Own (L L' : List Nat) (w w' : World) : Prop where
  st : Sst w w'
  blk : ∀ b, b < w.heap.size → b ∉ L → w'.heap[b]? = w.heap[b]?
  new : ∀ b, b ∈ L' → b ∈ L ∨ w.heap.size ≤ b
/-- what a caller of the search promises: its functions lead from what it holds behind some events to what it holds behind the next -/
structure Clt (n : Nat) (E : List Ed) (fm fl : Nat) (cm cl : Array Value) (Rc : List Ev → List Nat → World → Prop) : Prop where
  lt : ∀ evs L w, Rc evs L w → ∀ b, b ∈ L → b < w.heap.size
  keep : ∀ evs L w w', Rc evs L w → Sst w w' → (∀ b, b ∈ L → w'.heap[b]? = w.heap[b]?) → Rc evs L w'
  em : ∀ args w, (callFunc fm args).run Try.prog w = .ok (.enter fm args) w
  el : ∀ args w, (callFunc fl args).run Try.prog w = .ok (.enter fl args) w
  meet : ∀ s evs i L w, Run n E s (evs ++ [.meet i]) → Rc evs L w → Calls Try.prog fm (#[.int .i64 (i : Nat)] ++ cm) w fun e w' => (∃ r, e = .returned r) ∧ ∃ L', Rc (evs ++ [.meet i]) L' w' ∧ Own L L' w w'
  leave : ∀ s evs u v e a b L w, Run n E s (evs ++ [.leave u v e a b]) → Rc evs L w → Calls Try.prog fl (#[.agg #[.int .i64 (u : Nat), .int .i64 (v : Nat), .int .i64 (e : Nat), .bool a, .bool b]] ++ cl) w fun e' w' => (∃ r, e' = .returned r) ∧ ∃ L', Rc (evs ++ [.leave u v e a b]) L' w' ∧ Own L L' w w'
/-- where the search stands in memory -/
structure SR (lo z eb n m : Nat) (R : Nat → List (Nat × Int)) (Rc : List Ev → List Nat → World → Prop) (L0 : List Nat) (w0 w : World) (s : Dfs) (evs : List Ev) (L : List Nat) (sv : Value) : Prop where
  hlo : w0.heap.size = lo
  mem : SAt w lo z eb n m R s sv
  rc : Rc evs L w
  own : Own L0 L w0 w
  far : ∀ b, b ∈ L → b < lo ∨ z + 7 ≤ b
  sep : ∀ b, sv.ownBlock = some b → b ∉ L
section
variable {n m lo z eb fm fl : Nat} {E : List Ed} {cm cl : Array Value} {R : Nat → List (Nat × Int)} {Rc : List Ev → List Nat → World → Prop} {L0 L L' : List Nat} {w0 w w' : World} {s s' : Dfs} {evs evs' : List Ev} {sv sv' : Value}
theorem SR.mine (C : Clt n E fm fl cm cl Rc) (h : SR lo z eb n m R Rc L0 w0 w s evs L sv) (hc : Chg z sv sv' w w') (hm : SAt w' lo z eb n m R s' sv') : SR lo z eb n m R Rc L0 w0 w' s' evs L sv' := by
  have hl := C.lt _ _ _ h.rc
  have hz := h.mem.lz
  refine ⟨h.hlo, hm, C.keep _ _ _ _ h.rc hc.st fun b hb => hc.blk b (hl b hb) (by have := h.far b hb; omega) fun e => h.sep b e hb, ⟨h.own.st.trans hc.st, fun b hb hb0 => ?_, h.own.new⟩, h.far, fun b hb hbL => ?_⟩
  · have := h.own.st.size
    have hlo := h.hlo
    exact (hc.blk b (by omega) (by omega) fun e => by have := (h.mem.own_lt e).1; omega).trans (h.own.blk b hb hb0)
  · rcases hc.own b hb with e | e
    · exact h.sep b e hbL
    · have := hl b hbL; omega
theorem SR.call (h : SR lo z eb n m R Rc L0 w0 w s evs L sv) (hr : Rc evs' L' w') (ho : Own L L' w w') : SR lo z eb n m R Rc L0 w0 w' s evs' L' sv := by
  have hz := h.mem.lz
  have hsz := h.mem.sz
  have hlo := h.hlo
  have hs0 := h.own.st.size
  refine ⟨h.hlo, h.mem.same (fun b h1 h2 => ho.blk b (by omega) fun c => by have := h.far b c; omega) (fun b hb => ho.blk b (h.mem.own_lt hb).2 (h.sep b hb)), hr, ⟨h.own.st.trans ho.st, fun b hb hb0 => ?_, fun b hb => ?_⟩, fun b hb => ?_, fun b hb hbL => ?_⟩
  · exact (ho.blk b (by omega) fun c => by rcases h.own.new b c with d | d; exact hb0 d; omega).trans (h.own.blk b hb hb0)
  · rcases ho.new b hb with d | d
    · exact h.own.new b d
    · exact .inr (by omega)
  · rcases ho.new b hb with d | d
    · exact h.far b d
    · exact .inr (by omega)
  · rcases ho.new b hbL with d | d
    · exact h.sep b hb d
    · have := (h.mem.own_lt hb).2; omega
/-- the top of the stack -/
theorem SAt.top {p : Pl} {q : List Pl} (h : SAt w lo z eb n m R s sv) (hs : s.stk = p :: q) : ∃ g cap, sv = .slice (some ⟨g, 0, none⟩) (q.length + 1 : Nat) cap ∧ z + 7 ≤ g ∧ g < w.heap.size ∧
    w.cell? ⟨g, q.length * 3, none⟩ = some (.int .i64 (p.v : Nat)) ∧ w.cell? ⟨g, q.length * 3 + 1, none⟩ = some (.int .i64 p.e) ∧ w.cell? ⟨g, q.length * 3 + 2, none⟩ = some (.int .i64 (p.nx : Nat)) ∧ w.frozen? ⟨g, q.length * 3 + 2, none⟩ = false ∧ q.length + 1 ≤ cap := by
  have ho := h.stk
  rw [hs] at ho
  rcases ho.2 with ⟨_, e2⟩ | ⟨g, cap, cur, e1, e2, e3, e4⟩
  · simp at e2
  · have ho' := ho
    rw [e1] at ho'
    have k0 := ownN_cell (i := q.length * 3 + 0) ho' (stkC_top p q 0 (by omega))
    have k1 := ownN_cell (i := q.length * 3 + 1) ho' (stkC_top p q 1 (by omega))
    have k2 := ownN_cell (i := q.length * 3 + 2) ho' (stkC_top p q 2 (by omega))
    exact ⟨g, cap, e1, e2, (Array.getElem?_eq_some_iff.1 e3).1, k0.1, k1.1, k2.1, k2.2, e4.1⟩
theorem SAt.len (h : SAt w lo z eb n m R s sv) : ∃ a cap, sv = .slice a s.stk.length cap := by
  rcases h.stk.2 with ⟨e1, e2⟩ | ⟨g, cap, cur, e1, _⟩
  · exact ⟨none, 0, by rw [e1, e2]⟩
  · exact ⟨_, cap, e1⟩
theorem any_ix {t e : TypeId} {size bytes : Nat} (E : ET t e size bytes) {g cap k i : Nat} (hi : i < k) (w' : World) : (Instr.indexAt t (.slice (some ⟨g, 0, none⟩) k cap) (.int .i64 (i : Nat))).run Try.prog w' = .ok (.pointer (some ⟨g, i * size, none⟩)) w' := by
  have h1 : (0 : Int) ≤ (i : Int) ∧ (i : Int) < (k : Int) := by omega
  have he : Try.prog.elem t = e := by simp [Program.elem, E.ht]
  rw [run_indexAt_slice w' t ⟨g, 0, none⟩ k cap .i64 i (by rw [E.ht, he]), if_pos h1, he, E.size]
  simp [Result.andThen, add_mk]
theorem run_cut0 {t e : TypeId} {size bytes : Nat} (E : ET t e size bytes) {g cap k hi : Nat} (h : hi ≤ cap) (w' : World) : (Instr.slice t (.slice (some ⟨g, 0, none⟩) k cap) none (some (.int .i64 (hi : Nat))) none).run Try.prog w' = .ok (.slice (some ⟨g, 0, none⟩) hi cap) w' := by
  simp [Instr.slice, run_underlying E.ht, Instr.sliceBounds, Instr.sliceBound, asIntOf, E.size, go_sem]
  intro c; omega
/-- the top's counter -/
theorem SAt.setNx {v k g cap : Nat} {e : Int} {q : List Pl} (h : SAt w lo z eb n m R s sv) (hs : s.stk = ⟨v, e, k⟩ :: q) (hv : sv = .slice (some ⟨g, 0, none⟩) (q.length + 1 : Nat) cap) (hg : z + 7 ≤ g) (x : Nat) :
    SAt (w.setCell ⟨g, q.length * 3 + 2, none⟩ (.int .i64 (x : Nat))) lo z eb n m R ⟨s.cnt, s.fnd, s.low, s.met, ⟨v, e, x⟩ :: q⟩ sv := by
  have hz := h.lz
  have hs2 : ∀ k, k < z + 7 → (w.setCell ⟨g, q.length * 3 + 2, none⟩ (.int .i64 (x : Nat))).heap[k]? = w.heap[k]? := fun k hk => Below.heap_setCell _ _ _ _ (by show k ≠ g; omega)
  refine ⟨h.lz, h.lk.same (fun k h1 h2 => hs2 k (by omega)), h.met.of_block (hs2 _ (by omega)), h.fnd.of_block (hs2 _ (by omega)), h.fx.of_block (hs2 _ (by omega)), h.low.of_block (hs2 _ (by omega)), h.lx.of_block (hs2 _ (by omega)), h.cb.of_block (hs2 _ (by omega)), h.kx.of_block (hs2 _ (by omega)), ?_⟩
  have ho := h.stk
  subst hv
  rw [hs] at ho
  have := ownN_set (i := q.length * 3 + 2) ho (.int .i64 (x : Nat))
  rw [stkC_set] at this
  exact this
theorem Chg.setOwn {g i : Nat} (hv : sv.ownBlock = some g) (u : Value) : Chg z sv sv w (w.setCell ⟨g, i, none⟩ u) :=
  ⟨Sst.setCell _ _ _, fun b _ _ ho => Below.heap_setCell _ _ _ _ (fun c => ho (by rw [c]; exact hv)), fun _ h => .inl h⟩
theorem Chg.alloc (o : Obj) : Chg z sv sv w (w.alloc o) :=
  ⟨Sst.alloc _ _, fun _ hb _ _ => Below.heap_alloc _ _ _ hb, fun _ h => .inl h⟩
theorem Chg.trans {w1 : World} {sv1 : Value} (h : Chg z sv sv1 w w1) (k : Chg z sv1 sv' w1 w') : Chg z sv sv' w w' := by
  have hs := h.st.size
  refine ⟨h.st.trans k.st, fun b hb hh ho => (k.blk b (by omega) hh fun c => ?_).trans (h.blk b hb hh ho), fun b hb => ?_⟩
  · rcases h.own b c with d | d
    · exact ho d
    · omega
  · rcases k.own b hb with d | d
    · exact h.own b d
    · exact .inr (by omega)
/-- the top is taken off -/
theorem SAt.pop {p : Pl} {g cap : Nat} {q : List Pl} (h : SAt w lo z eb n m R s sv) (hs : s.stk = p :: q) (hv : sv = .slice (some ⟨g, 0, none⟩) (q.length + 1 : Nat) cap) :
    SAt (w.setCell ⟨z + 6, 0, none⟩ (.slice (some ⟨g, 0, none⟩) q.length cap)) lo z eb n m R ⟨s.cnt, s.fnd, s.low, s.met, q⟩ (.slice (some ⟨g, 0, none⟩) q.length cap) := by
  have hz := h.lz
  have hs2 : ∀ k, k ≠ z + 6 → (w.setCell ⟨z + 6, 0, none⟩ (.slice (some ⟨g, 0, none⟩) q.length cap)).heap[k]? = w.heap[k]? := fun k hk => Below.heap_setCell _ _ _ _ hk
  refine ⟨h.lz, h.lk.same (fun k h1 h2 => hs2 k (by omega)), h.met.of_block (hs2 _ (by omega)), h.fnd.of_block (hs2 _ (by omega)), h.fx.of_block (hs2 _ (by omega)), h.low.of_block (hs2 _ (by omega)), h.lx.of_block (hs2 _ (by omega)), h.cb.of_block (hs2 _ (by omega)), (h.kx.set 0 _).congr (fun i hi => by rw [if_pos (by omega)]), ?_⟩
  have ho := h.stk
  subst hv
  rw [hs] at ho
  have := ownN_take (m := q.length) ho (Nat.le_succ _)
  rw [stkC_take] at this
  exact own_high this fun b hb => hs2 b (by omega)
theorem Chg.pop {g k l cap : Nat} (h : sv = .slice (some ⟨g, 0, none⟩) k cap) (u : Value) : Chg z sv (.slice (some ⟨g, 0, none⟩) l cap) w (w.setCell ⟨z + 6, 0, none⟩ u) :=
  ⟨Sst.setCell _ _ _, fun b _ hb _ => Below.heap_setCell _ _ _ _ (by show b ≠ z + 6; omega), fun b hb => .inl (by rw [h]; exact hb)⟩
/-- a link of a vertex -/
theorem SAt.link {v : Nat} (h : SAt w lo z eb n m R s sv) (hv : v < n) : ∃ rv, w.cell? ⟨eb, v, none⟩ = some rv ∧ eb < z ∧ ((R v = [] ∧ rv = .slice none 0 0) ∨ ∃ rb cap, rv = .slice (some ⟨rb, 0, none⟩) (R v).length cap ∧ rb < z ∧
    ∀ j, j < (R v).length → w.cell? ⟨rb, j * 2, none⟩ = some (.int .i64 (((R v).getD j (0, 0)).1 : Nat)) ∧ w.cell? ⟨rb, j * 2 + 1, none⟩ = some (.int .i64 ((R v).getD j (0, 0)).2)) := by
  obtain ⟨h1, h2, V, h3, h4⟩ := h.lk
  refine ⟨V v, h3.cell hv, h2, (h4 v hv).imp (fun x => ⟨x.2, x.1⟩) ?_⟩
  rintro ⟨rb, cap, k1, k2, k3, k4⟩
  refine ⟨rb, cap, k1, k3, fun j hj => ⟨?_, ?_⟩⟩
  · rw [k4.cell (i := j * 2) (by omega), if_pos (by omega), show j * 2 / 2 = j by omega]
  · rw [k4.cell (i := j * 2 + 1) (by omega), if_neg (by omega), show (j * 2 + 1) / 2 = j by omega]
theorem cell_lt {w : World} {p : Addr} {x : Value} (h : w.cell? p = some x) : p.block < w.heap.size := by
  obtain ⟨o, ho, _⟩ := cells_of_cell h
  exact (Array.getElem?_eq_some_iff.1 ho).1
theorem cell_new {w : World} {p : Addr} {x : Value} (h : w.cell? p = some x) (o : Obj) : (w.alloc o).drew.cell? p = some x := by
  have : (w.alloc o).cell? p = some x := by rw [World.cell?_alloc_some _ _ _ (by rw [h]; rfl)]; exact h
  exact this
theorem cell_far {w : World} {p : Addr} {x : Value} (h : w.cell? p = some x) {b i : Nat} (hb : p.block ≠ b) (u : Value) : (w.setCell ⟨b, i, none⟩ u).cell? p = some x := by
  rw [World.cell?_setCell_far _ _ _ _ (fun c => hb c.symm)]; exact h
theorem Chg.far {b i : Nat} {u : Value} (h : Chg z sv sv' w w') (hb : w.heap.size ≤ b) : Chg z sv sv' w (w'.setCell ⟨b, i, none⟩ u) :=
  ⟨h.st.trans (Sst.setCell _ _ _), fun k hk hz ho => (Below.heap_setCell _ _ _ _ (by show k ≠ b; omega)).trans (h.blk k hk hz ho), h.own⟩
theorem SAt.far {b i : Nat} {u : Value} (h : SAt w lo z eb n m R s sv) (hb : z + 7 ≤ b) (ho : sv.ownBlock ≠ some b) : SAt (w.setCell ⟨b, i, none⟩ u) lo z eb n m R s sv :=
  h.same (fun k _ hk => Below.heap_setCell _ _ _ _ (by show k ≠ b; omega)) fun k hk => Below.heap_setCell _ _ _ _ (by show k ≠ b; intro c; rw [c] at hk; exact ho hk)
theorem SR.drewN (C : Clt n E fm fl cm cl Rc) (h : SR lo z eb n m R Rc L0 w0 w s evs L sv) (q : Nat) : SR lo z eb n m R Rc L0 w0 (w.drewN q) s evs L sv :=
  h.mine C ⟨⟨rfl, rfl, rfl, Nat.le_refl _⟩, fun _ _ _ _ => rfl, fun _ hb => .inl hb⟩ (h.mem.drewN q)
theorem SAt.row (G : GOk n E) {v : Nat} (h : SAt w lo z eb n m (fun i => around (some (n, E)) (i : Int)) s sv) (hv : v < n) : ∃ ra c, w.cell? ⟨eb, v, none⟩ = some (.slice ra (adj E v).length c) ∧
    ∀ j i, (adj E v)[j]? = some i → ∃ rb, ra = some ⟨rb, 0, none⟩ ∧ w.cell? ⟨rb, j * 2, none⟩ = some (.int .i64 (i : Nat)) ∧ w.cell? ⟨rb, j * 2 + 1, none⟩ = some (.int .i64 (oN E v i : Nat)) := by
  obtain ⟨rv, h1, _, ⟨h2, rfl⟩ | ⟨rb, cap, rfl, _, h3⟩⟩ := h.link hv
  · have hl := around_len (n := n) (E := E) hv
    rw [h2] at hl
    refine ⟨none, 0, by rw [h1, ← hl]; rfl, fun j i hj => ?_⟩
    have := (List.getElem?_eq_some_iff.1 hj).1
    simp at hl
    omega
  · refine ⟨_, cap, by rw [h1, around_len hv], fun j i hj => ⟨rb, rfl, ?_⟩⟩
    have hj2 : j < (around (some (n, E)) (v : Int)).length := by rw [around_len hv]; exact (List.getElem?_eq_some_iff.1 hj).1
    have := h3 j hj2
    rw [around_get G hv hj] at this
    exact this
end
/-- the world in which the search starts its loops -/
def sW (w : World) (m n : Nat) : World := ((((((w.alloc (.cells (madeCells #[.bool false] m) 4)).alloc (.cells (madeCells #[.int .i64 0] n) 3)).alloc (.cells #[.slice (some ⟨w.heap.size + 1, 0, none⟩) n n] 29)).alloc (.cells (madeCells #[.int .i64 0] n) 3)).alloc (.cells #[.slice (some ⟨w.heap.size + 1 + 1 + 1, 0, none⟩) n n] 29)).alloc (.cells #[.int .i64 0] 3)).alloc (.cells #[.slice none 0 0] 99)
theorem sW_size (w : World) (m n : Nat) : (sW w m n).heap.size = w.heap.size + 7 := by simp [sW]
theorem sW_below (w : World) (m n : Nat) : Below w.heap.size w (sW w m n) := by
  unfold sW
  have h1 := (Below.refl w.heap.size w).alloc (Nat.le_refl _) (.cells (madeCells #[.bool false] m) 4)
  have h2 := h1.alloc h1.size (.cells (madeCells #[.int .i64 0] n) 3)
  have h3 := h2.alloc h2.size (.cells #[.slice (some ⟨w.heap.size + 1, 0, none⟩) n n] 29)
  have h4 := h3.alloc h3.size (.cells (madeCells #[.int .i64 0] n) 3)
  have h5 := h4.alloc h4.size (.cells #[.slice (some ⟨w.heap.size + 1 + 1 + 1, 0, none⟩) n n] 29)
  have h6 := h5.alloc h5.size (.cells #[.int .i64 0] 3)
  exact h6.alloc h6.size _
def ds0 : Dfs := ⟨0, fun _ => 0, fun _ => 0, fun _ => false, []⟩
theorem row_one (w : World) (v : Value) (t : TypeId) : Row (w.alloc (.cells #[v] t)) w.heap.size 1 (fun _ => v) := Row.lit w #[v] t (by simp) (fun i hi => by have : i = 0 := by omega
                                                                                                                                                              subst this; rfl)
theorem sW_at (w : World) (lo eb m n : Nat) (R : Nat → List (Nat × Int)) (h : LnkAt w lo w.heap.size eb n R) (hlo : lo ≤ w.heap.size) : SAt (sW w m n) lo w.heap.size eb n m R ds0 (.slice none 0 0) := by
  have hb := sW_below w m n
  refine ⟨hlo, h.same fun k _ h2 => hb.block k h2, ?_, ?_, ?_, ?_, ?_, ?_, ?_, World.ownsRow_nil _ _ _ _⟩
  · exact ((((((Row.made w (.bool false) m 4).alloc _).alloc _).alloc _).alloc _).alloc _).alloc _
  · have := (((((Row.made (w.alloc (.cells (madeCells #[.bool false] m) 4)) (.int .i64 0) n 3).alloc (.cells #[.slice (some ⟨w.heap.size + 1, 0, none⟩) n n] 29)).alloc (.cells (madeCells #[.int .i64 0] n) 3)).alloc (.cells #[.slice (some ⟨w.heap.size + 1 + 1 + 1, 0, none⟩) n n] 29)).alloc (.cells #[.int .i64 0] 3)).alloc (.cells #[.slice none 0 0] 99)
    simp only [World.size_alloc] at this
    exact this
  · have := ((((row_one ((w.alloc (.cells (madeCells #[.bool false] m) 4)).alloc (.cells (madeCells #[.int .i64 0] n) 3)) (.slice (some ⟨w.heap.size + 1, 0, none⟩) n n) 29).alloc (.cells (madeCells #[.int .i64 0] n) 3)).alloc (.cells #[.slice (some ⟨w.heap.size + 1 + 1 + 1, 0, none⟩) n n] 29)).alloc (.cells #[.int .i64 0] 3)).alloc (.cells #[.slice none 0 0] 99)
    simp only [World.size_alloc] at this
    exact this
  · have := (((Row.made (((w.alloc (.cells (madeCells #[.bool false] m) 4)).alloc (.cells (madeCells #[.int .i64 0] n) 3)).alloc (.cells #[.slice (some ⟨w.heap.size + 1, 0, none⟩) n n] 29)) (.int .i64 0) n 3).alloc (.cells #[.slice (some ⟨w.heap.size + 1 + 1 + 1, 0, none⟩) n n] 29)).alloc (.cells #[.int .i64 0] 3)).alloc (.cells #[.slice none 0 0] 99)
    simp only [World.size_alloc] at this
    exact this
  · have := ((row_one ((((w.alloc (.cells (madeCells #[.bool false] m) 4)).alloc (.cells (madeCells #[.int .i64 0] n) 3)).alloc (.cells #[.slice (some ⟨w.heap.size + 1, 0, none⟩) n n] 29)).alloc (.cells (madeCells #[.int .i64 0] n) 3)) (.slice (some ⟨w.heap.size + 1 + 1 + 1, 0, none⟩) n n) 29).alloc (.cells #[.int .i64 0] 3)).alloc (.cells #[.slice none 0 0] 99)
    simp only [World.size_alloc] at this
    exact this
  · have := (row_one (((((w.alloc (.cells (madeCells #[.bool false] m) 4)).alloc (.cells (madeCells #[.int .i64 0] n) 3)).alloc (.cells #[.slice (some ⟨w.heap.size + 1, 0, none⟩) n n] 29)).alloc (.cells (madeCells #[.int .i64 0] n) 3)).alloc (.cells #[.slice (some ⟨w.heap.size + 1 + 1 + 1, 0, none⟩) n n] 29)) (.int .i64 0) 3).alloc (.cells #[.slice none 0 0] 99)
    simp only [World.size_alloc] at this
    exact this
  · have := row_one ((((((w.alloc (.cells (madeCells #[.bool false] m) 4)).alloc (.cells (madeCells #[.int .i64 0] n) 3)).alloc (.cells #[.slice (some ⟨w.heap.size + 1, 0, none⟩) n n] 29)).alloc (.cells (madeCells #[.int .i64 0] n) 3)).alloc (.cells #[.slice (some ⟨w.heap.size + 1 + 1 + 1, 0, none⟩) n n] 29)).alloc (.cells #[.int .i64 0] 3)) (.slice none 0 0) 99
    simp only [World.size_alloc] at this
    exact this
theorem SR.start {n m lo eb fm fl : Nat} {E : List Ed} {cm cl : Array Value} {R : Nat → List (Nat × Int)} {Rc : List Ev → List Nat → World → Prop} {L0 : List Nat} {w0 w : World} (C : Clt n E fm fl cm cl Rc) (hlo : w0.heap.size = lo) (h : LnkAt w lo w.heap.size eb n R) (hb : Below lo w0 w) (hr : Rc [] L0 w0) :
    SR lo w.heap.size eb n m R Rc L0 w0 (sW w m n) ds0 [] L0 (.slice none 0 0) := by
  have hs := hb.size
  have hb2 : Below lo w0 (sW w m n) := hb.trans ((sW_below w m n).mono (by omega))
  have hl := C.lt _ _ _ hr
  exact ⟨hlo, sW_at w lo eb m n R h (by omega), C.keep _ _ _ _ hr (Sst.of_below hb2) fun b hb => hb2.block b (by have := hl b hb; omega), ⟨Sst.of_below hb2, fun b hb _ => hb2.block b (by omega), fun b hb => .inl hb⟩, fun b hb => .inl (by have := hl b hb; omega), fun b hb => by cases hb⟩
end Go.Proofs.Ytcpikabhcjkkmaa
