/- The walk of Dist of package graph. Conditions: the graph was made by New; the vertex is there. -/
import Derived.Test.YtcpikabhcjkkmaaPl
import Derived.Test.YtcpikabhcjkkmaaBrW
import Derived.Test.YtcpikabhcjkkmaaQue
import Derived.Test.YtcpikabhcjkkmaaMrk
import Derived.Test.YtcpikabhcjkkmaaMe
import Derived.IntWalk
namespace Go.Proofs.Ytcpikabhcjkkmaa
open Go.RowKit Go.Shelf
attribute [local go_sem] Oper.semAt_some

/-- a row of distances -/
def DRow (w : World) (db n : Nat) (f : Nat → Int) : Prop := Row w db n fun x => .int .i64 (f x)
/-- how many distances are not known yet -/
def unfI (f : Nat → Int) : Nat → Nat
  | 0 => 0
  | k + 1 => unfI f k + if f k < 0 then 1 else 0
theorem unfI_congr {f f' : Nat → Int} : ∀ k, (∀ x, x < k → f x = f' x) → unfI f k = unfI f' k
  | 0, _ => rfl
  | k + 1, h => by rw [unfI, unfI, unfI_congr k fun x hx => h x (by omega), h k (by omega)]
theorem unfI_upd (f : Nat → Int) {t : Nat} {c : Int} (h0 : f t < 0) (hc : 0 ≤ c) : ∀ k, t < k → unfI (upd f t c) k + 1 = unfI f k
  | 0, h => absurd h (by omega)
  | k + 1, h => by
    rw [unfI, unfI]
    by_cases e : t = k
    · subst e
      rw [unfI_congr (f := upd f t c) (f' := f) t fun x hx => upd_ne _ _ (by omega), upd_at, if_neg (by omega), if_pos h0]
    · rw [upd_ne _ _ (fun c => e c.symm)]
      have := unfI_upd f h0 hc k (by omega)
      omega
theorem unfI_all (f : Nat → Int) (h : ∀ x, f x < 0) : ∀ k, unfI f k = k
  | 0 => rfl
  | k + 1 => by rw [unfI, unfI_all f h k, if_pos (h k)]
/-- the distances, and the length of the queue, as a world tells them -/
def mD (w : World) (db qb n : Nat) : Nat := 2 * unfI (fun x => match w.cell? ⟨db, x, none⟩ with | some (.int _ z) => z | _ => 0) n + match w.cell? ⟨qb, 0, none⟩ with | some (.slice _ k _) => k | _ => 0
theorem mD_eq {w : World} {db qb n : Nat} {f : Nat → Int} {a : Option Addr} {k c : Nat} (h : DRow w db n f) (hq : w.cell? ⟨qb, 0, none⟩ = some (.slice a k c)) : mD w db qb n = 2 * unfI f n + k := by
  unfold mD
  rw [hq]
  dsimp only
  rw [unfI_congr (f' := f) n fun x hx => by rw [h.cell hx]]
theorem row_own {A B : World} {b n : Nat} {f : Nat → Value} {row : Option Nat} (h : Row A b n f) (hg : A.grownBy B row) (hr : ∀ r, row = some r → ∃ o : Obj, A.heap[r]? = some o ∧ o.isCells = false) : Row B b n f :=
  h.of_block (hg.block b h.lt fun e => by
    obtain ⟨o, ho, hc⟩ := hr b e.symm
    obtain ⟨c, t, h1, _⟩ := h
    rw [h1] at ho; cases ho; cases hc)
theorem QOwn.own {A B : World} {base : Nat} {v : Value} {l : List Nat} {row : Option Nat} (h : QOwn base v l A) (hg : A.grownBy B row) (hr : ∀ r, row = some r → ∃ o : Obj, A.heap[r]? = some o ∧ o.isCells = false) : QOwn base v l B :=
  h.keep fun b hb => hg.block b (h.lt hb).2 fun e => by
    obtain ⟨o, ho, hc⟩ := hr b e.symm
    obtain ⟨g, off, cap, cur, rfl, _, h2, _⟩ := h
    have hb : g = b := Option.some.inj hb
    subst hb
    rw [h2] at ho; cases ho; cases hc
theorem QOwn.not_box {w : World} {base b : Nat} {v u : Value} {t : TypeId} {l : List Nat} (h : QOwn base v l w) (hx : Boxed w b t u) (ht : t ≠ 3) : v.ownBlock ≠ some b := by
  intro e
  obtain ⟨g, off, cap, cur, rfl, _, h2, _⟩ := h
  have e : g = b := Option.some.inj e
  subst e
  rw [show w.heap[g]? = _ from hx] at h2
  simp at h2
  exact ht h2.2
theorem QOwn.len {w : World} {base : Nat} {v : Value} {l : List Nat} (h : QOwn base v l w) : ∃ a c, v = .slice a l.length c := by
  obtain ⟨g, off, cap, cur, rfl, _⟩ := h
  exact ⟨_, _, rfl⟩
theorem QOwn.cells {w : World} {base : Nat} {v : Value} {l : List Nat} (h : QOwn base v l w) (k : Nat) (hk : v.ownBlock = some k) : ∃ o : Obj, w.heap[k]? = some o ∧ o.isCells = true := by
  obtain ⟨g, off, cap, cur, rfl, _, h2, _⟩ := h
  have e : g = k := Option.some.inj hk
  subst e
  exact ⟨_, h2, rfl⟩
/-- what holds at each stop of the search -/
structure DMem (w : World) (lo db qb n : Nat) (f : Nat → Int) (qv : Value) (Q : List Nat) : Prop where
  hlo : db + 2 ≤ lo
  hqb : lo ≤ qb
  row : DRow w db n f
  box : Boxed w (db + 1) 29 (.slice (some ⟨db, 0, none⟩) n n)
  qbx : Boxed w qb 29 qv
  que : QOwn lo qv Q w
  bd : unfI f n + Q.length ≤ n
  lv : ∀ x, x < n → f x + (unfI f n : Nat) ≤ n
theorem DMem.keep {w w' : World} {lo db qb n : Nat} {f : Nat → Int} {qv : Value} {Q : List Nat} (h : DMem w lo db qb n f qv Q) (hk : ∀ b, b = db ∨ b = db + 1 ∨ b = qb ∨ qv.ownBlock = some b → w'.heap[b]? = w.heap[b]?) : DMem w' lo db qb n f qv Q :=
  ⟨h.hlo, h.hqb, h.row.of_block (hk _ (.inl rfl)), (hk _ (.inr (.inl rfl))).trans h.box, (hk _ (.inr (.inr (.inl rfl)))).trans h.qbx, h.que.keep fun b hb => hk b (.inr (.inr (.inr hb))), h.bd, h.lv⟩
theorem DMem.lt {w : World} {lo db qb n : Nat} {f : Nat → Int} {qv : Value} {Q : List Nat} (h : DMem w lo db qb n f qv Q) {b : Nat} (hb : b = db ∨ b = db + 1 ∨ b = qb ∨ qv.ownBlock = some b) : b < w.heap.size := by
  rcases hb with rfl | rfl | rfl | hb
  · exact h.row.lt
  · exact h.box.lt
  · exact h.qbx.lt
  · exact (h.que.lt hb).2
/-- the queue is another one -/
theorem DMem.setQ {w : World} {lo db qb n : Nat} {f : Nat → Int} {qv v2 : Value} {Q Q2 : List Nat} (h : DMem w lo db qb n f qv Q) (hq : QOwn lo v2 Q2 w) (hbd : unfI f n + Q2.length ≤ n) : DMem (w.setCell ⟨qb, 0, none⟩ v2) lo db qb n f v2 Q2 := by
  have h1 := h.hlo
  have h2 := h.hqb
  have hn := hq.not_box h.qbx (by decide)
  exact ⟨h.hlo, h.hqb, h.row.setOther (by show db ≠ qb; omega) _, box_far h.box (by show db + 1 ≠ qb; omega) _, h.qbx.set v2, hq.keep fun b hb => Below.heap_setCell _ _ _ _ (by show b ≠ qb; intro c; rw [c] at hb; exact hn hb), hbd, h.lv⟩
theorem DMem.setD {w : World} {lo db qb n t : Nat} {f : Nat → Int} {c : Int} {qv : Value} {Q : List Nat} (h : DMem w lo db qb n f qv Q) (hbd : unfI (upd f t c) n + Q.length ≤ n) (hlv : ∀ x, x < n → upd f t c x + (unfI (upd f t c) n : Nat) ≤ n) : DMem (w.setCell ⟨db, t, none⟩ (.int .i64 c)) lo db qb n (upd f t c) qv Q := by
  have h1 := h.hlo
  have h2 := h.hqb
  exact ⟨h.hlo, h.hqb, (h.row.set t _).congr fun x _ => by unfold upd; (try dsimp only); split <;> rfl, box_far h.box (by show db + 1 ≠ db; omega) _, box_far h.qbx (by show qb ≠ db; omega) _, h.que.keep fun b hb => Below.heap_setCell _ _ _ _ (by have := (h.que.lt hb).1; show b ≠ db; omega), hbd, hlv⟩
theorem DMem.push {w w5 : World} {lo db qb n : Nat} {f : Nat → Int} {qv v' : Value} {Q Q2 : List Nat} (h : DMem w lo db qb n f qv Q) (hg : w.grownBy w5 qv.ownBlock) (hq : QOwn lo v' Q2 w5) (hbd : unfI f n + Q2.length ≤ n) : DMem (w5.setCell ⟨qb, 0, none⟩ v') lo db qb n f v' Q2 := by
  have h1 := h.hlo
  have h2 := h.hqb
  have hn := h.que.not_box h.qbx (by decide)
  have hlo : ∀ b, qv.ownBlock = some b → lo ≤ b := fun b hb => (h.que.lt hb).1
  have e1 : w5.heap[db]? = w.heap[db]? := hg.block db h.row.lt fun c => by have := hlo _ c.symm; omega
  have e2 : w5.heap[db + 1]? = w.heap[db + 1]? := hg.block (db + 1) h.box.lt fun c => by have := hlo _ c.symm; omega
  have e3 : w5.heap[qb]? = w.heap[qb]? := hg.block qb h.qbx.lt fun c => hn c.symm
  have hx5 : Boxed w5 qb 29 qv := e3.trans h.qbx
  have hn5 := hq.not_box hx5 (by decide)
  exact ⟨h.hlo, h.hqb, (h.row.of_block e1).setOther (by show db ≠ qb; omega) _, box_far (show Boxed w5 (db + 1) 29 _ from e2.trans h.box) (by show db + 1 ≠ qb; omega) _, hx5.set v', hq.keep fun b hb => Below.heap_setCell _ _ _ _ (by show b ≠ qb; intro c; rw [c] at hb; exact hn5 hb), hbd, h.lv⟩
/-- where the loop of Dist stands -/
def DSt (g : Option Addr) (n : Nat) (E : List Ed) (v : Nat) (w : World) (a : Act) (wr : World) : Prop :=
  ∃ (f : Nat → Int) (Q : List Nat) (qv : Value) (Ds : List Nat) (u1 u2 u3 u6 u8 u9 u10 u11 u12 u13 u14 u15 u16 u17 u18 u19 u20 u21 u22 u23 u24 u25 u26 u27 u28 u29 u30 u31 u32 u33 u34 u35 u36 u37 u38 u39 u40 u41 u42 u43 u44 u45 u46 u47 u48 u49 u50 u51 u52 u53 u54 u55 u56 u57 u58 u59 u60 u61 u62 : Value), BfI n E v f Q ∧ DMem wr (w.heap.size + 2) w.heap.size (w.heap.size + 2 + 1) n f qv Q ∧ Below w.heap.size w wr ∧ Marks w.heap.size Ds wr ∧ a = { tmps := #[.pointer g, u1, u2, u3, .slice none 0 0, .pointer (some ⟨w.heap.size + 1, 0, none⟩), u6, .pointer (some ⟨w.heap.size + 2 + 1, 0, none⟩), u8, u9, u10, u11, u12, u13, u14, u15, u16, u17, u18, u19, u20, u21, u22, u23, u24, u25, u26, u27, u28, u29, u30, u31, u32, u33, u34, u35, u36, u37, u38, u39, u40, u41, u42, u43, u44, u45, u46, u47, u48, u49, u50, u51, u52, u53, u54, u55, u56, u57, u58, u59, u60, u61, u62], defers := colD Ds }
/-- where the loop over a vertex's edges stands -/
def DJ (lo db qb k : Nat) (E : List Ed) (v u ub m : Nat) (W0 : World) (pre : List (Nat × Int)) (W : World) : Prop :=
  ∃ (f' : Nat → Int) (Q' : List Nat) (qv' : Value), BfU k E v u (pre.map (·.1)) f' Q' ∧ DMem W lo db qb k f' qv' Q' ∧ 2 * unfI f' k + Q'.length ≤ m ∧ Boxed W ub 3 (.int .i64 (u : Nat)) ∧ (∀ b, qv'.ownBlock = some b → b < ub ∨ W0.heap.size ≤ b) ∧ (∀ (D : Nat) (d : Option (List Deferred)), W0.heap[D]? = some (Obj.deferred d) → W.heap[D]? = some (Obj.deferred d)) ∧ W0.heap.size ≤ W.heap.size
/-- what Dist answers -/
def DsRes (n : Nat) (E : List Ed) (v : Nat) (w : World) (e : Ending) (w' : World) : Prop :=
  ∃ f, e = .returned (.slice (some ⟨w.heap.size, 0, none⟩) n n) ∧ DistF E (· < E.length) n v f ∧ DRow w' w.heap.size n f ∧ Below w.heap.size w w'
set_option maxRecDepth 100000 in
set_option maxHeartbeats 4000000 in
theorem dist_any (B : Nat) (g : Option Addr) (n : Nat) (E : List Ed) (v : Nat) (w : World) (h : GV w B (.pointer g) (some (n, E))) (hB : B ≤ w.heap.size) (hv : v < n) :
    Calls Try.prog 31 #[.pointer g, .int .i64 (v : Nat)] w (DsRes n E v w) := by
  refine (callsIn_wide (n := 12)).1 ?_
  have hgo : GOk n E := h.good
  have hgn := hgo.n_le
  have HGN := n_any B (.pointer g) (some (n, E)) w h
  rw [show gN (some (n, E)) = n from rfl] at HGN
  have HGN := Lib.hid HGN
  have HHas := Lib.hid (has_is (o := some (n, E)) (u := (v : Int)) (x := true) (gHas_yes (show 0 ≤ (v : Int) ∧ (v : Int) < (n : Int) by omega)) h)
  have hmk : ∀ w, (Instr.makeSlice 29 (.int .i64 (n : Nat)) (.int .i64 (n : Nat))).run Try.prog w = .ok (.slice (some ⟨w.heap.size, 0, none⟩) n n) (w.alloc (.cells (madeCells #[.int .i64 0] n) 3)) := fun w =>
    run_make_row' (P := Try.prog) 29 3 (.int .i64 0) 8 Try.underlying29 Try.infoI rfl .i64 .i64 n (by omega) (by omega) w
  have HG := Lib.hid h
  clear h
  refine callsIn_of_wp_marks Try.func31 rfl trivial ?_ rfl
  simp only [Try.ntmps31, List.size_toArray, List.length_cons, List.length_nil, Nat.reduceAdd, Nat.reduceSub, Array.replicate_succ, Array.replicate_zero, List.push_toArray, List.append_toArray, List.nil_append, List.cons_append]
  gi_wp2_with fail
  refine ⟨trivial, ?_⟩
  refine (callsIn_wide.2 HHas.out).mono ?_
  rintro e w' ⟨rfl, rfl⟩
  clear HHas
  gi_wp2_with fail
  refine ⟨trivial, ?_⟩
  refine (callsIn_wide.2 HGN.out).mono ?_
  rintro e w' ⟨rfl, rfl⟩
  clear HGN
  gi_wp2_with fail
  have R0 : DRow ((w.alloc (.cells (madeCells #[.int .i64 0] n) 3)).alloc (.cells #[.slice (some ⟨w.heap.size, 0, none⟩) n n] 29)) w.heap.size n (fun x => if x < 0 then -1 else 0) := ((Row.made w (.int .i64 0) n 3).alloc _).congr fun x _ => by dsimp only; rw [if_neg (by omega)]
  have X0 : Boxed ((w.alloc (.cells (madeCells #[.int .i64 0] n) 3)).alloc (.cells #[.slice (some ⟨w.heap.size, 0, none⟩) n n] 29)) (w.heap.size + 1) 29 (.slice (some ⟨w.heap.size, 0, none⟩) n n) := by
    have := Boxed.new (w.alloc (.cells (madeCells #[.int .i64 0] n) 3)) 29 (.slice (some ⟨w.heap.size, 0, none⟩) n n)
    rwa [World.size_alloc] at this
  have B0 : Below w.heap.size w ((w.alloc (.cells (madeCells #[.int .i64 0] n) 3)).alloc (.cells #[.slice (some ⟨w.heap.size, 0, none⟩) n n] 29)) := ((Below.refl _ w).alloc (Nat.le_refl _) _).alloc (by simp) _
  have S0 : ((w.alloc (.cells (madeCells #[.int .i64 0] n) 3)).alloc (.cells #[.slice (some ⟨w.heap.size, 0, none⟩) n n] 29)).heap.size = w.heap.size + 2 := by simp
  clear hmk
  gi_loopw [20] (fun i wr => ∃ k : Nat, k ≤ n ∧ i = .int .i64 (k : Nat) ∧ Hid (DRow wr w.heap.size n (fun x => if x < k then -1 else 0)) ∧ Hid (Boxed wr (w.heap.size + 1) 29 (.slice (some ⟨w.heap.size, 0, none⟩) n n)) ∧ Hid (Below w.heap.size w wr) ∧ Hid (wr.heap.size = w.heap.size + 2)) (fun i _ => n - (intOf i).toNat)
  case atStart => exact ⟨0, Nat.zero_le _, rfl, Lib.hid R0, Lib.hid X0, Lib.hid B0, Lib.hid S0⟩
  case round =>
    clear R0 X0 B0 S0
    obtain ⟨k, hk, rfl, R, X, bel, S⟩ := hrel
    by_cases hlt : k < n
    · have cx := X.out.cell
      have ck := R.out.cell hlt
      have fk := R.out.frozen k
      have hkn : (0 : Int) ≤ k ∧ (k : Int) < n := by omega
      have R2 : Hid (DRow (wr.setCell ⟨w.heap.size, k, none⟩ (.int .i64 (-1))) w.heap.size n (fun x => if x < k + 1 then -1 else 0)) := Lib.hid ((R.out.set k _).congr fun x _ => by
        dsimp only
        by_cases c : x = k
        · rw [if_pos c, if_pos (by omega)]
        · rw [if_neg c]
          by_cases d : x < k
          · rw [if_pos d, if_pos (by omega)]
          · rw [if_neg d, if_neg (by omega)])
      have X2 := Lib.hid (box_far X.out (a := ⟨w.heap.size, k, none⟩) (by show w.heap.size + 1 ≠ w.heap.size; omega) (.int .i64 (-1)))
      have bel2 := Lib.hid (bel.out.setCell (p := ⟨w.heap.size, k, none⟩) (Nat.le_refl _) (.int .i64 (-1)))
      have S2 : Hid ((wr.setCell ⟨w.heap.size, k, none⟩ (.int .i64 (-1))).heap.size = w.heap.size + 2) := Lib.hid (by simp [World.setCell, S.out])
      clear R X bel S
      gi_wp2_with fail
      go_roundw
      case rel => exact ⟨k + 1, by omega, by go_num, R2, X2, bel2, S2⟩
      case measure => simp only [intOf]; omega
    · obtain rfl : k = n := by omega
      obtain ⟨w1, rfl⟩ : ∃ w1 : World, w1 = wr := ⟨_, rfl⟩
      have cx := X.out.cell
      have cv := R.out.cell hv
      have fv := R.out.frozen v
      have hvn : (0 : Int) ≤ v ∧ (v : Int) < k := by omega
      have R2 : DRow (w1.setCell ⟨w.heap.size, v, none⟩ (.int .i64 0)) w.heap.size k (upd (fun _ => -1) v 0) := (R.out.set v _).congr fun x hx => by
        unfold upd
        by_cases c : x = v
        · rw [if_pos c, if_pos c]
        · dsimp only
          rw [if_neg c, if_neg c, if_pos hx]
      have X2 := box_far X.out (a := ⟨w.heap.size, v, none⟩) (by show w.heap.size + 1 ≠ w.heap.size; omega) (.int .i64 0)
      have B2 := bel.out.setCell (p := ⟨w.heap.size, v, none⟩) (Nat.le_refl _) (.int .i64 0)
      have S2 : (w1.setCell ⟨w.heap.size, v, none⟩ (.int .i64 0)).heap.size = w.heap.size + 2 := by simp [World.setCell, S.out]
      gi_wp2_with fail
      generalize w1.setCell ⟨w.heap.size, v, none⟩ (.int .i64 0) = w2 at R2 X2 B2 S2 ⊢
      have M0 : DMem ((w2.alloc (.cells #[.int .i64 (v : Nat)] 3)).alloc (.cells #[.slice (some ⟨w.heap.size + 2, 0, none⟩) 1 1] 29)) (w.heap.size + 2) w.heap.size (w.heap.size + 2 + 1) k (upd (fun _ => -1) v 0) (.slice (some ⟨w.heap.size + 2, 0, none⟩) 1 1) [v] := by
        have hq := QOwn.one (base := w.heap.size + 2) w2 v (by omega)
        rw [S2] at hq
        have hbx := Boxed.new (w2.alloc (.cells #[.int .i64 (v : Nat)] 3)) 29 (.slice (some ⟨w.heap.size + 2, 0, none⟩) 1 1)
        rw [World.size_alloc, S2] at hbx
        refine ⟨Nat.le_refl _, Nat.le_succ _, (R2.alloc _).alloc _, (X2.alloc _).alloc _, hbx, hq.keep fun b hb => Below.heap_alloc _ _ _ (hq.lt hb).2, ?_, ?_⟩
        · have := unfI_upd (fun _ => (-1 : Int)) (t := v) (c := 0) (by decide) (by decide) k hv
          rw [unfI_all (fun _ => (-1 : Int)) (fun _ => by decide) k] at this
          simp only [List.length_singleton]; omega
        · intro x hx
          have := unfI_upd (fun _ => (-1 : Int)) (t := v) (c := 0) (by decide) (by decide) k hv
          rw [unfI_all (fun _ => (-1 : Int)) (fun _ => by decide) k] at this
          by_cases c : x = v
          · rw [c, upd_at]; omega
          · rw [upd_ne _ _ c]; omega
      have C0 : Below w.heap.size w ((w2.alloc (.cells #[.int .i64 (v : Nat)] 3)).alloc (.cells #[.slice (some ⟨w.heap.size + 2, 0, none⟩) 1 1] 29)) := (B2.alloc (by omega) _).alloc (by rw [World.size_alloc]; omega) _
      refine wpIn_loop (fun a wr => DSt g k E v w a wr) (fun _ wr => mD wr w.heap.size (w.heap.size + 2 + 1) k) ?_ ?_
      · exact ⟨_, _, _, [], _, _, _, _, _, _, _, _, _, _, _, _, _, _, _, _, _, _, _, _, _, _, _, _, _, _, _, _, _, _, _, _, _, _, _, _, _, _, _, _, _, _, _, _, _, _, _, _, _, _, _, _, _, _, _, _, _, _, _, BfI.start hv, M0, C0, Marks.nil _ _, rfl⟩
      rintro a wr ⟨f, Q, qv, Ds, u1, u2, u3, u6, u8, u9, u10, u11, u12, u13, u14, u15, u16, u17, u18, u19, u20, u21, u22, u23, u24, u25, u26, u27, u28, u29, u30, u31, u32, u33, u34, u35, u36, u37, u38, u39, u40, u41, u42, u43, u44, u45, u46, u47, u48, u49, u50, u51, u52, u53, u54, u55, u56, u57, u58, u59, u60, u61, u62, hI, hM, bel, hMk, rfl⟩
      clear M0 C0 R2 X2 B2 S2 cx cv fv
      have cq := hM.qbx.cell
      obtain ⟨qa, qc, hqv⟩ := hM.que.len
      have hmu := mD_eq hM.row (by rw [← hqv]; exact cq)
      cases Q with
      | nil =>
        rw [hqv] at cq
        have HD := Lib.hid hI.dist
        have HR := Lib.hid hM.row
        have HX := Lib.hid hM.box.cell
        have HMk := Lib.hid hMk
        have cbx := hM.box.cell
        clear hI hM hMk hmu
        gi_wp2_with fail
        refine leaves_col w.heap.size (fun w => results_tmp rfl _ _ _) Ds wr HMk.out fun w' hw' => ?_
        exact ⟨f, rfl, HD.out, row_took HR.out hw', bel.trans hw'.below⟩
      | cons u Q =>
        obtain ⟨gq, oq, kq, v2, hqf, hgw, cf, hcut, hq2, hv2⟩ := hM.que.front
        obtain ⟨a2, c2, rfl⟩ := hq2.len
        rw [hqf] at cq
        have hbu : BfU k E v u [] f Q := hI.take
        have hbd := hM.bd
        have hql : Q.length + 1 ≤ k := by simp only [List.length_cons] at hbd; omega
        have hu0 : u < k := hbu.un
        have hszr := bel.size
        have hM3 : DMem (wr.alloc (.cells #[.int .i64 (u : Nat)] 3)) (w.heap.size + 2) w.heap.size (w.heap.size + 2 + 1) k f qv (u :: Q) := hM.keep fun b hb => Below.heap_alloc _ _ _ (hM.lt hb)
        have cq3 := hM3.qbx.cell
        rw [hqf] at cq3
        have fq3 := hM3.qbx.frozen
        have hqb := hM.qbx.lt
        have hzq : (0 : Int) ≤ 0 ∧ (0 : Int) < (Q.length : Int) + 1 := by omega
        have hqp : (0 : Int) < (Q.length : Int) + 1 := by omega
        obtain ⟨w5, hw5⟩ : ∃ w5, wr.setCell ⟨w.heap.size + 2 + 1, 0, none⟩ (.slice a2 Q.length c2) = w5 := ⟨_, rfl⟩
        have hM5 : DMem w5 (w.heap.size + 2) w.heap.size (w.heap.size + 2 + 1) k f (.slice a2 Q.length c2) Q := by rw [← hw5]; exact hM.setQ hq2 (by simp only [List.length_cons] at hbd; omega)
        have B5 : Below w.heap.size w w5 := by rw [← hw5]; exact bel.setCell (p := ⟨w.heap.size + 2 + 1, 0, none⟩) (by show w.heap.size ≤ w.heap.size + 2 + 1; omega) _
        have hs5 : w5.heap.size = wr.heap.size := by rw [← hw5]; simp [World.setCell]
        have hMk5 : Marks w.heap.size Ds w5 := hMk.keep fun D d hD => by
          rw [← hw5]
          refine (Below.heap_setCell _ _ _ _ (fun e => ?_)).trans hD
          have e : D = w.heap.size + 2 + 1 := e
          rw [e] at hD
          have := hM.qbx
          rw [show wr.heap[w.heap.size + 2 + 1]? = _ from this] at hD
          cases hD
        have hgq : ∀ b, (Value.slice a2 Q.length c2).ownBlock = some b → b < wr.heap.size := fun b hb => by rw [hv2] at hb; cases hb; exact hgw
        have hmu' : mD wr w.heap.size (w.heap.size + 2 + 1) k = 2 * unfI f k + (Q.length + 1) := by rw [hmu]; rfl
        rw [hqf] at hcut
        have HM5 := Lib.hid hM5
        have HMk5 := Lib.hid hMk5
        have HB5 := Lib.hid B5
        have HBu := Lib.hid hbu
        have Hmu := Lib.hid hmu'
        have HGr := Lib.hid (HG.out.below (bel.mono hB))
        clear hM hM3 hq2 hM5 hMk5 B5 hbu hmu hmu' hI hMk hqv
        gi_wp2_with fail
        refine ⟨trivial, ?_⟩
        refine (callsIn_wide.2 (around_call _ _ _)).mono ?_
        rintro e w' ⟨rfl, rfl⟩
        gi_wp2_with fail
        try rw [hw5]
        obtain ⟨W0, hW0⟩ : ∃ W0, (((w5.alloc (.cells #[.int .i64 (u : Nat)] 3)).alloc (.cells #[.pointer g] 23)).alloc (.cells #[.int .i64 (u : Nat)] 3)) = W0 := ⟨_, rfl⟩
        have hs0 : W0.heap.size = wr.heap.size + 3 := by rw [← hW0]; simp [hs5]
        have hB0 : Below w5.heap.size w5 W0 := by rw [← hW0]; exact (((Below.refl _ w5).alloc (Nat.le_refl _) _).alloc (by simp) _).alloc (by simp; omega) _
        have q0 : Boxed W0 wr.heap.size 3 (.int .i64 (u : Nat)) := by
          rw [← hW0, ← hs5]; exact ((Boxed.new w5 3 (.int .i64 (u : Nat))).alloc _).alloc _
        have q1 : W0.heap[wr.heap.size + 1]? = some (.cells #[.pointer g] 23 (0, 0)) := by
          rw [← hW0, ← hs5, Below.heap_alloc _ _ _ (by simp only [World.size_alloc]; omega)]
          have := heap_alloc_new (w5.alloc (.cells #[.int .i64 (u : Nat)] 3)) (.cells #[.pointer g] 23)
          rwa [World.size_alloc] at this
        have q2 : W0.heap[wr.heap.size + 1 + 1]? = some (.cells #[.int .i64 (u : Nat)] 3 (0, 0)) := by
          rw [← hW0, ← hs5]
          have := heap_alloc_new ((w5.alloc (.cells #[.int .i64 (u : Nat)] 3)).alloc (.cells #[.pointer g] 23)) (.cells #[.int .i64 (u : Nat)] 3)
          rwa [World.size_alloc, World.size_alloc] at this
        have hMW : DMem W0 (w.heap.size + 2) w.heap.size (w.heap.size + 2 + 1) k f (.slice a2 Q.length c2) Q := HM5.out.keep fun b hb => hB0.block b (HM5.out.lt hb)
        have hgW : GV W0 B (.pointer g) (some (k, E)) := HG.out.below ((HB5.out.trans (hB0.mono HB5.out.size)).mono hB)
        have bel0 : Below w.heap.size w W0 := HB5.out.trans (hB0.mono HB5.out.size)
        have hHD : ∀ D, D ∈ Ds → D < wr.heap.size := fun D hD => by have := HMk5.out.lt hD; omega
        have hM0 := Lib.hid (HMk5.out.keep (KeepD.of_below hB0))
        have HHD := Lib.hid hHD
        clear hHD
        rw [hW0]
        clear hW0
        refine rangeR (F := Fence.wide) rfl (by omega) (gf := 75) (lb := #[.pointer (some ⟨wr.heap.size + 1, 0, none⟩), .pointer (some ⟨wr.heap.size + 1 + 1, 0, none⟩)]) rfl trivial (enters_of Try.func75 (by kernel_rfl) rfl)
          (around_stops 11 (by omega) (wr.heap.size + 1) (wr.heap.size + 1 + 1) B g u (some (k, E)) W0 hgW q1 q2 (by omega)) keepB_t (keepB_b (by omega) (by omega) (by omega)) (Below.refl _ _) (fun _ => rfl)
          (fun pre W => DJ (w.heap.size + 2) w.heap.size (w.heap.size + 2 + 1) k E v u wr.heap.size (2 * unfI f k + Q.length) W0 pre W ∧ Below w.heap.size w W)
          (fun _ _ _ => False)
          (OwnFrom.and (fun s A B row hs hg hr => by
              obtain ⟨f', Q', qv', h1, h2, h3, h4, h5, h6, h7⟩ := hs
              have hr2 : ∀ r, row = some r → ∃ o : Obj, A.heap[r]? = some o ∧ o.isCells = false := fun r e => (hr r e).2
              refine ⟨f', Q', qv', h1, ⟨h2.hlo, h2.hqb, row_own h2.row hg hr2, boxed_own _ _ (fun _ : Unit => .slice (some ⟨w.heap.size, 0, none⟩) k k) () A B row h2.box hg hr2, boxed_own _ _ (fun _ : Unit => qv') () A B row h2.qbx hg hr2, h2.que.own hg hr2, h2.bd, h2.lv⟩, h3, boxed_own _ _ (fun _ : Unit => .int .i64 (u : Nat)) () A B row h4 hg hr2, h5, fun D d hD => ?_, Nat.le_trans h7 hg.size⟩
              have h8 := h6 D d hD
              have h9 := (Array.getElem?_eq_some_iff.1 hD).1
              exact (hg.block D (by omega) (fun e => by have := (hr _ e.symm).1; omega)).trans h8)
            (ownFrom_below (Nat.le_refl _) (by omega)))
          (fun _ _ _ _ _ hs _ _ => hs)
          ⟨⟨f, Q, _, HBu.out, hMW, Nat.le_refl _, q0, fun b hb => .inl (hgq b hb), fun _ _ h => h, Nat.le_refl _⟩, bel0⟩
          (fun _ x a' _ => a' = { tmps := #[.pointer g, u1, u2, u3, .slice none 0 0, .pointer (some ⟨w.heap.size + 1, 0, none⟩), u6, .pointer (some ⟨w.heap.size + 2 + 1, 0, none⟩), .pointer (some ⟨wr.heap.size, 0, none⟩), u9, .int .i64 x.2, u11, u12, u13, u14, u15, u16, u17, u18, u19, u20, u21, u22, u23, u24, u25, u26, u27, u28, u29, u30, u31, .slice (some ⟨gq, oq, none⟩) (Q.length + 1 : Nat) kq, .int .i64 ((Q.length : Int) + 1), .bool true, .slice (some ⟨gq, oq, none⟩) (Q.length + 1 : Nat) kq, .pointer (some ⟨gq, oq, none⟩), .int .i64 (u : Nat), .slice (some ⟨gq, oq, none⟩) (Q.length + 1 : Nat) kq, .slice a2 Q.length c2, .pointer g, .int .i64 (u : Nat), .func (.func 75) #[] #[.pointer (some ⟨wr.heap.size + 1, 0, none⟩), .pointer (some ⟨wr.heap.size + 1 + 1, 0, none⟩)], .int .i64 (x.1 : Nat), .int .i64 x.2, u45, u46, u47, u48, u49, u50, u51, u52, u53, u54, u55, u56, u57, u58, u59, u60, u61, u62], defers := [] })
          (fun _ _ _ _ _ _ _ hs _ _ => hs) ?assign ?body ?done ?stop
        case assign =>
          intro l pre x W K hI hR hK
          gi_wp2
          exact hK _ _ (KeepsFrom.refl _ _) ⟨Below.refl _ _, rfl, rfl⟩ hI rfl
        case body =>
          rintro l pre x a' W hl - ⟨⟨f', Q', qv', hbu', hM', hle, hub, hfr, hkd, hsW⟩, belW⟩ rfl hR
          obtain ⟨xi, xt⟩ := x
          have hmx : (xi, xt) ∈ around (some (k, E)) (u : Int) := by
            obtain ⟨t, ht⟩ := hR
            rw [← ht]; simp
          have hxi : xi ∈ adj E u := by
            unfold around at hmx
            rw [gAdj, if_pos (gHas_yes (show 0 ≤ (u : Int) ∧ (u : Int) < (k : Int) by omega))] at hmx
            obtain ⟨j, hj, e⟩ := List.mem_map.1 hmx
            cases e; exact hj
          obtain ⟨hxl, hxc⟩ := mem_adj.1 hxi
          obtain ⟨hlk, hnt, htk, -⟩ := oN_lnk hgo hxl hxc
          obtain rfl : xt = (oN E u xi : Nat) := by
            unfold around at hmx
            rw [gAdj, if_pos (gHas_yes (show 0 ≤ (u : Int) ∧ (u : Int) < (k : Int) by omega))] at hmx
            obtain ⟨j, hj, e⟩ := List.mem_map.1 hmx
            have e2 := (Prod.mk.inj e).1
            subst e2
            rw [← (Prod.mk.inj e).2]
            exact oth_oN hgo hxl
          have huni : ∀ y, Lnk E xi u y → y = oN E u xi := fun y hy => by
            rcases lnk_two hy hlk with ⟨_, h⟩ | ⟨h, _⟩
            · exact h
            · exact absurd h hnt
          generalize oN E u xi = t at *
          have hmap : ∀ pre : List (Nat × Int), (pre ++ [(xi, (t : Int))]).map (·.1) = pre.map (·.1) ++ [xi] := fun pre => by simp
          have cbx := hM'.box.cell
          have ct := hM'.row.cell htk
          have cu := hM'.row.cell hbu'.un
          have cub := hub.cell
          have htn : (0 : Int) ≤ t ∧ (t : Int) < k := by omega
          have hun : (0 : Int) ≤ u ∧ (u : Int) < k := by have := hbu'.un; omega
          by_cases hneg : f' t < 0
          · have hd1 : decide (f' t < 0) = true := decide_eq_true hneg
            have hu0' := hbu'.u0
            have hub2 : f' u ≤ 40000 := by have := hM'.lv u hbu'.un; omega
            have hunk := hbu'.un
            have HB2 := Lib.hid (hbu'.new (i := xi) hxl hlk htk hneg huni)
            have hun' := unfI_upd f' hneg (c := f' u + 1) (by omega) k htk
            have hne : t ≠ u := fun c => hnt c.symm
            have hft := hM'.row.frozen t
            have ctd : W.drew.cell? ⟨w.heap.size, t, none⟩ = some (.int .i64 (f' t)) := ct
            have ftd : W.drew.frozen? ⟨w.heap.size, t, none⟩ = false := hft
            have HS : W.drew.cell? ⟨w.heap.size + 1, 0, none⟩ = some (.slice (some ⟨w.heap.size, 0, none⟩) k k) ∧ W.drew.cell? ⟨wr.heap.size, 0, none⟩ = some (.int .i64 (u : Nat)) ∧ W.drew.cell? ⟨w.heap.size, u, none⟩ = some (.int .i64 (f' u)) := ⟨cbx, cub, cu⟩
            generalize hfu : f' u = fu at *
            generalize hft' : f' t = ft at *
            gi_wp2_with fail
            refine region_round (fun w' => w'.cell? ⟨w.heap.size + 1, 0, none⟩ = some (.slice (some ⟨w.heap.size, 0, none⟩) k k) ∧ w'.cell? ⟨wr.heap.size, 0, none⟩ = some (.int .i64 (u : Nat)) ∧ w'.cell? ⟨w.heap.size, u, none⟩ = some (.int .i64 fu)) (by kernel_rfl) (by kernel_rfl) ?_
            refine take_at (i := 0) (d := 50) (v := ?_) rfl rfl (by kernel_rfl) (by kernel_rfl) (by kernel_rfl) (fun _ _ _ _ => NormalOnly.any) rfl ?hy1 HS ?rest1
            case hy1 => intro w' hSw; (try dsimp only at hSw); go_simp; try (with_reducible rfl)
            try simp only [List.setIfInBounds_toArray, List.set_cons_zero, List.set_cons_succ]
            refine take_at (i := 1) (d := 51) (v := ?_) rfl rfl (by kernel_rfl) (by kernel_rfl) (by kernel_rfl) (fun _ _ _ _ => NormalOnly.any) rfl ?hy2 HS ?rest2
            case hy2 => intro w' hSw; (try dsimp only at hSw); go_simp; try (with_reducible rfl)
            try simp only [List.setIfInBounds_toArray, List.set_cons_zero, List.set_cons_succ]
            refine take_at (i := 2) (d := 52) (v := ?_) rfl rfl (by kernel_rfl) (by kernel_rfl) (by kernel_rfl) (fun _ _ _ _ => NormalOnly.any) rfl ?hy3 HS ?rest3
            case hy3 => intro w' hSw; (try dsimp only at hSw); go_simp; try (with_reducible rfl)
            try simp only [List.setIfInBounds_toArray, List.set_cons_zero, List.set_cons_succ]
            refine take_at (i := 3) (d := 53) (v := ?_) rfl rfl (by kernel_rfl) (by kernel_rfl) (by kernel_rfl) (fun _ _ _ _ => NormalOnly.any) rfl ?hy4 HS ?rest4
            case hy4 => intro w' hSw; (try dsimp only at hSw); go_simp; try (with_reducible rfl)
            try simp only [List.setIfInBounds_toArray, List.set_cons_zero, List.set_cons_succ]
            refine take_at (i := 4) (d := 54) (v := ?_) rfl rfl (by kernel_rfl) (by kernel_rfl) (by kernel_rfl) (fun _ _ _ _ => NormalOnly.any) rfl ?hy5 HS ?rest5
            case hy5 => intro w' hSw; (try dsimp only at hSw); go_simp; try (with_reducible rfl)
            try simp only [List.setIfInBounds_toArray, List.set_cons_zero, List.set_cons_succ]
            refine take_at (i := 5) (d := 55) (v := ?_) rfl rfl (by kernel_rfl) (by kernel_rfl) (by kernel_rfl) (fun _ _ _ _ => NormalOnly.any) rfl ?hy6 HS ?rest6
            case hy6 => intro w' hSw; (try dsimp only at hSw); go_simp; try (with_reducible rfl)
            try simp only [List.setIfInBounds_toArray, List.set_cons_zero, List.set_cons_succ]
            refine take_at (i := 6) (d := 56) (v := ?_) rfl rfl (by kernel_rfl) (by kernel_rfl) (by kernel_rfl) (fun _ _ _ _ => NormalOnly.any) rfl ?hy7 HS ?rest7
            case hy7 => intro w' hSw; (try dsimp only at hSw); go_simp; try (with_reducible rfl)
            try simp only [List.setIfInBounds_toArray, List.set_cons_zero, List.set_cons_succ]
            refine take_at (i := 7) (d := 57) (v := ?_) rfl rfl (by kernel_rfl) (by kernel_rfl) (by kernel_rfl) (fun _ _ _ _ => NormalOnly.any) rfl ?hy8 HS ?rest8
            case hy8 => intro w' hSw; (try dsimp only at hSw); go_simp; try (with_reducible rfl)
            try simp only [List.setIfInBounds_toArray, List.set_cons_zero, List.set_cons_succ]
            refine wpAnyH_ready (rs := [8]) (by kernel_rfl) (by simp) ?_
            refine AllReadyH.cons rfl (fun K hK => ?_) AllReadyH.nil
            go_simp
            have hw : IntKind.i64.wrap (fu + 1) = fu + 1 := IntWalk.i64_in _ (by omega)
            rw [hw]
            have hbd' := hM'.bd
            have hlv' := hM'.lv
            have hM12 : DMem (W.setCell ⟨w.heap.size, t, none⟩ (.int .i64 (fu + 1))).drew (w.heap.size + 2) w.heap.size (w.heap.size + 2 + 1) k (upd f' t (fu + 1)) qv' Q' :=
              (hM'.setD (by omega) (fun x hx => by
                by_cases c : x = t
                · rw [c, upd_at]; have := hlv' u hunk; omega
                · rw [upd_ne _ _ c]; have := hlv' x hx; omega)).keep fun _ _ => rfl
            have HS12 : (W.setCell ⟨w.heap.size, t, none⟩ (.int .i64 (fu + 1))).drew.cell? ⟨w.heap.size + 1, 0, none⟩ = some (.slice (some ⟨w.heap.size, 0, none⟩) k k) ∧ (W.setCell ⟨w.heap.size, t, none⟩ (.int .i64 (fu + 1))).drew.cell? ⟨wr.heap.size, 0, none⟩ = some (.int .i64 (u : Nat)) ∧ (W.setCell ⟨w.heap.size, t, none⟩ (.int .i64 (fu + 1))).drew.cell? ⟨w.heap.size, u, none⟩ = some (.int .i64 fu) := by
              refine ⟨hM12.box.cell, (box_far hub (a := ⟨w.heap.size, t, none⟩) (by show wr.heap.size ≠ w.heap.size; omega) (.int .i64 (fu + 1))).cell, ?_⟩
              have := hM12.row.cell hunk
              rw [upd_ne _ _ (fun c => hne c.symm), hfu] at this
              exact this
            have hs12 : W.heap.size = (W.setCell ⟨w.heap.size, t, none⟩ (.int .i64 (fu + 1))).drew.heap.size := by simp [World.setCell, World.drew]
            have hbl12 : ∀ b, b ≠ w.heap.size → (W.setCell ⟨w.heap.size, t, none⟩ (.int .i64 (fu + 1))).drew.heap[b]? = W.heap[b]? := fun b hb => Below.heap_setCell _ _ _ _ hb
            have hBW12 : Below w.heap.size w (W.setCell ⟨w.heap.size, t, none⟩ (.int .i64 (fu + 1))).drew := (belW.setCell (p := ⟨w.heap.size, t, none⟩) (Nat.le_refl _) _).drew
            have hKB : Below B W (W.setCell ⟨w.heap.size, t, none⟩ (.int .i64 (fu + 1))).drew := ((Below.refl B W).setCell (p := ⟨w.heap.size, t, none⟩) hB _).drew
            generalize (W.setCell ⟨w.heap.size, t, none⟩ (.int .i64 (fu + 1))).drew = w12 at hM12 HS12 hs12 hbl12 hBW12 hKB ⊢
            refine hK.out _ _ HS12 (fun _ => ?_)
            clear hK HS HS12 ct ctd ftd hft cu cbx
            refine wpAnyH_done (by kernel_rfl) ⟨rfl, ?_⟩ _
            have hque := hM12.que
            have cqb := hM12.qbx.cell
            have hqlen : Q'.length ≤ 1000000 := by omega
            have hlo12 : w.heap.size + 2 ≤ w12.heap.size := by have := hM12.qbx.lt; omega
            have HM12 := Lib.hid hM12
            have HMo := Lib.hid hM'
            clear hM12 hM'
            gi_wp2_with (gi_at_builtin; refine wpListIn_push_q rfl _ _ rfl (w.heap.size + 2) qv' Q' hque rfl t _ rfl rfl hlo12 hqlen ?_; intro v' w5 hq5 hg5 hv5; refine Hid.out ?_)
            obtain ⟨a5, c5, rfl⟩ := hq5.len
            have hp5 := HM12.out.push hg5 hq5 (by have := HMo.out.bd; rw [List.length_append, List.length_singleton]; omega)
            have hqn := HM12.out.que.not_box HM12.out.qbx (by decide)
            have hqe : w5.heap[w.heap.size + 2 + 1]? = w12.heap[w.heap.size + 2 + 1]? := hg5.block _ HM12.out.qbx.lt fun e => hqn e.symm
            have hqx5 : Boxed w5 (w.heap.size + 2 + 1) 29 qv' := hqe.trans HM12.out.qbx
            have hc5 := hqx5.cell
            have hf5 := hqx5.frozen
            have hqcells : ∀ k', qv'.ownBlock = some k' → ∃ o', W.heap[k']? = some o' ∧ o'.isCells = true := HMo.out.que.cells
            have hnc : ∀ (k' : Nat) (o : Obj), W.heap[k']? = some o → o.isCells = false → (w5.setCell ⟨w.heap.size + 2 + 1, 0, none⟩ (.slice a5 (Q' ++ [t]).length c5)).heap[k']? = some o := fun k' o ho hc => by
              have n1 : k' ≠ w.heap.size := fun e => by
                obtain ⟨_, _, hr, _⟩ := HMo.out.row
                rw [e, hr] at ho; cases ho; cases hc
              have n2 : k' ≠ w.heap.size + 2 + 1 := fun e => by
                have hr := HMo.out.qbx
                rw [e, show W.heap[w.heap.size + 2 + 1]? = _ from hr] at ho; cases ho; cases hc
              have n3 : qv'.ownBlock ≠ some k' := fun e => by
                obtain ⟨o', h1, h2⟩ := hqcells k' e
                rw [ho] at h1; cases h1; rw [hc] at h2; cases h2
              have hlt := (Array.getElem?_eq_some_iff.1 ho).1
              rw [Below.heap_setCell _ _ _ _ n2, hg5.block k' (by omega) (fun e => n3 e.symm), hbl12 k' n1, ho]
            have hsz : W.heap.size ≤ (w5.setCell ⟨w.heap.size + 2 + 1, 0, none⟩ (.slice a5 (Q' ++ [t]).length c5)).heap.size := by
              have := hg5.size
              simp only [World.setCell, Array.size_modify]
              omega
            have hkeep : ∀ b, b < wr.heap.size + 3 → wr.heap.size ≤ b → (w5.setCell ⟨w.heap.size + 2 + 1, 0, none⟩ (.slice a5 (Q' ++ [t]).length c5)).heap[b]? = W.heap[b]? ∨ b < wr.heap.size ∨ qv'.ownBlock = some b := fun b h1 h2 => by
              by_cases e : qv'.ownBlock = some b
              · exact .inr (.inr e)
              · refine .inl ?_
                rw [Below.heap_setCell _ _ _ _ (by show b ≠ w.heap.size + 2 + 1; omega), hg5.block b (by omega) (fun c => e c.symm), hbl12 b (by omega)]
            have hkeep2 : ∀ b, b < wr.heap.size + 3 → wr.heap.size ≤ b → (w5.setCell ⟨w.heap.size + 2 + 1, 0, none⟩ (.slice a5 (Q' ++ [t]).length c5)).heap[b]? = W.heap[b]? := fun b h1 h2 => by
              rcases hkeep b h1 h2 with h | h | h
              · exact h
              · omega
              · rcases hfr b h with h | h <;> omega
            have hlB : ∀ j, qv'.ownBlock = some j → w.heap.size ≤ j := fun j e => by have := (HMo.out.que.lt e).1; omega
            have hBB : Below w.heap.size w12 (w5.setCell ⟨w.heap.size + 2 + 1, 0, none⟩ (.slice a5 (Q' ++ [t]).length c5)) := ((Below.refl _ w12).grown hg5 (by omega) hlB).setCell (by show _ ≤ w.heap.size + 2 + 1; omega) _
            have FIN := Lib.hid (show KeepsFrom W0.heap.size W (w5.setCell ⟨w.heap.size + 2 + 1, 0, none⟩ (.slice a5 (Q' ++ [t]).length c5)) ∧ KeepB B (wr.heap.size + 1) (wr.heap.size + 1 + 1) W (w5.setCell ⟨w.heap.size + 2 + 1, 0, none⟩ (.slice a5 (Q' ++ [t]).length c5)) ∧
              DJ (w.heap.size + 2) w.heap.size (w.heap.size + 2 + 1) k E v u wr.heap.size (2 * unfI f k + Q.length) W0 (pre ++ [(xi, (t : Int))]) (w5.setCell ⟨w.heap.size + 2 + 1, 0, none⟩ (.slice a5 (Q' ++ [t]).length c5)) ∧ Below w.heap.size w (w5.setCell ⟨w.heap.size + 2 + 1, 0, none⟩ (.slice a5 (Q' ++ [t]).length c5)) from
              ⟨⟨hsz, fun k' o _ h1 h2 => hnc k' o h1 h2⟩, ⟨hKB.trans (hBB.mono hB), hkeep2 _ (by omega) (by omega), hkeep2 _ (by omega) (by omega)⟩,
                ⟨upd f' t (fu + 1), Q' ++ [t], _, by rw [hmap]; exact HB2.out, hp5, by rw [List.length_append, List.length_singleton]; omega, (hkeep2 _ (by omega) (Nat.le_refl _)).trans hub, fun b hb => by
                  rcases hv5 b hb with h | h
                  · exact hfr b h
                  · exact .inr (by omega), fun D d hD => hnc D _ (hkd D d hD) rfl, by omega⟩, hBW12.trans hBB⟩)
            rw [List.length_append, List.length_singleton] at FIN
            clear hnc hsz hkeep hkeep2 hlB hBB hqcells hp5
            refine Lib.hid ?_
            gi_wp2_with fail
            exact FIN.out
          · have hd1 : decide (f' t < 0) = false := decide_eq_false hneg
            have HB2 := Lib.hid (hbu'.old (i := xi) (by omega) huni)
            have HM2 := Lib.hid hM'
            have HU2 := Lib.hid hub
            have HJ : Hid (DJ (w.heap.size + 2) w.heap.size (w.heap.size + 2 + 1) k E v u wr.heap.size (2 * unfI f k + Q.length) W0 (pre ++ [(xi, (t : Int))]) W) := Lib.hid ⟨f', Q', qv', by rw [hmap]; exact HB2.out, hM', hle, hub, hfr, hkd, hsW⟩
            have HBl := Lib.hid belW
            clear hbu' hM' hub hfr hkd belW hmx huni hR ct cu HB2
            have ct := HM2.out.row.cell htk
            generalize f' t = ft at *
            gi_wp2_with fail
            exact ⟨KeepsFrom.refl _ _, ⟨Below.refl _ _, rfl, rfl⟩, HJ.out, HBl.out⟩
        case done =>
          rintro D xs W hD rfl ⟨⟨f', Q', qv', hbu', hM', hle, hub, hfr, hkd, hsW⟩, belW⟩ hK
          have hMW2 : Marks w.heap.size (D :: Ds) W := (hM0.out.keep hkd).cons hK (by omega) (fun h => by have := HHD.out D h; omega)
          have hI2 : BfI k E v f' Q' := hbu'.done' fun i x hi hl => by
            have e : (around (some (k, E)) (u : Int)).map (·.1) = adj E u := by
              unfold around
              rw [List.map_map, gAdj, if_pos (gHas_yes (show 0 ≤ (u : Int) ∧ (u : Int) < (k : Int) by omega))]
              exact List.map_id' _
            rw [e]
            exact inc_lnk hgo hi hl
          obtain ⟨qa3, qc3, hq3⟩ := hM'.que.len
          have hmu3 := mD_eq hM'.row (by rw [← hq3]; exact hM'.qbx.cell)
          have HI2 := Lib.hid hI2
          have HMM := Lib.hid hM'
          have HMW2 := Lib.hid hMW2
          have HBW := Lib.hid belW
          clear hI2 hM' hMW2 belW hbu' hub hfr hkd hK
          gi_wp2_with fail
          refine ⟨⟨f', Q', qv', D :: Ds, _, _, _, _, _, _, _, _, _, _, _, _, _, _, _, _, _, _, _, _, _, _, _, _, _, _, _, _, _, _, _, _, _, _, _, _, _, _, _, _, _, _, _, _, _, _, _, _, _, _, _, _, _, _, _, _, _, _, _, HI2.out, HMM.out, HBW.out, HMW2.out, rfl⟩, ?_⟩
          rw [hmu3, Hmu.out]; omega
        case stop =>
          rintro D c pre W _ h _
          exact h.elim
end Go.Proofs.Ytcpikabhcjkkmaa
