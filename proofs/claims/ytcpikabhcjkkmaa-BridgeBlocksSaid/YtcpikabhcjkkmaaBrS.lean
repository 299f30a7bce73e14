/- The memory of the depth-first search of package bridge, and the walk of its function enter. Conditions: numbers in range. -/
import Derived.Test.YtcpikabhcjkkmaaPl
import Derived.Test.YtcpikabhcjkkmaaBrLk
import Derived.Test.YtcpikabhcjkkmaaMe
namespace Go.Proofs.Ytcpikabhcjkkmaa
open Go.RowKit Go.Shelf

theorem Try.infoPc : (Try.prog.info? 101).map (fun i => (i.zero, i.size, i.bytes)) = some (some (.agg #[.int .i64 0, .int .i64 0, .int .i64 0]), 3, 24) := by kernel_rfl
theorem etPc : ET 99 101 3 24 := ET.of Try.underlying99 Try.infoPc rfl (by decide)
section
variable {w w' : World} {base n cap g i size : Nat} {e : TypeId} {xs : List Value} {u : Value}
theorem ownN_set (h : w.ownsRow base e size (.slice (some ⟨g, 0, none⟩) n cap) n xs) (u : Value) : (w.setCell ⟨g, i, none⟩ u).ownsRow base e size (.slice (some ⟨g, 0, none⟩) n cap) n (xs.set i u) := by
  refine ⟨by rw [List.length_set]; exact h.1, ?_⟩
  rcases h.2 with ⟨h0, _⟩ | ⟨g', cap', cur, h1, hb, hg, hn, hm, hs, ht⟩
  · cases h0
  · cases h1
    refine .inr ⟨g, cap, cur.setIfInBounds i u, rfl, hb, ?_, hn, hm, by simpa using hs, ?_⟩
    · simp [World.setCell, Array.getElem?_modify, hg]
    · rw [Array.toList_setIfInBounds, List.take_set, ht]
theorem ownN_cell (h : w.ownsRow base e size (.slice (some ⟨g, 0, none⟩) n cap) n xs) (hu : xs[i]? = some u) : w.cell? ⟨g, i, none⟩ = some u ∧ w.frozen? ⟨g, i, none⟩ = false := by
  have hi : i < n * size := by have := (List.getElem?_eq_some_iff.1 hu).1; have := h.1; omega
  rcases h.2 with ⟨h0, _⟩ | ⟨g', cap', cur, h1, _, hg, _, _, _, ht⟩
  · cases h0
  · cases h1
    refine ⟨?_, by simp [World.frozen?, hg]⟩
    have h3 : (cur.toList.take (n * size))[i]? = some u := by rw [ht]; exact hu
    rw [List.getElem?_take, if_pos hi, Array.getElem?_toList] at h3
    simp [World.cell?, hg, h3]
/-- the first elements of an owned row -/
theorem ownN_take {m : Nat} (h : w.ownsRow base e size (.slice (some ⟨g, 0, none⟩) n cap) n xs) (hm : m ≤ n) : w.ownsRow base e size (.slice (some ⟨g, 0, none⟩) m cap) m (xs.take (m * size)) := by
  have hle : m * size ≤ n * size := Nat.mul_le_mul_right _ hm
  refine ⟨by rw [List.length_take, h.1]; omega, ?_⟩
  rcases h.2 with ⟨h0, _⟩ | ⟨g', cap', cur, h1, hb, hg, hn, hc, hs, ht⟩
  · cases h0
  · cases h1
    refine .inr ⟨g, cap, cur, rfl, hb, hg, by omega, hc, hs, ?_⟩
    rw [← ht, List.take_take, Nat.min_eq_left hle]
theorem ownN_of_block (h : w.ownsRow base e size (.slice (some ⟨g, 0, none⟩) n cap) n xs) (hg : w'.heap[g]? = w.heap[g]?) : w'.ownsRow base e size (.slice (some ⟨g, 0, none⟩) n cap) n xs := by
  refine ⟨h.1, ?_⟩
  rcases h.2 with ⟨h0, _⟩ | ⟨g', cap', cur, h1, hb, hg', hn⟩
  · cases h0
  · cases h1
    exact .inr ⟨g, cap, cur, rfl, hb, hg.trans hg', hn⟩
end
/-- streams as they were, no block gone -/
structure Sst (w w' : World) : Prop where
  os : w'.os = w.os
  tape : w'.tape = w.tape
  output : w'.output = w.output
  size : w.heap.size ≤ w'.heap.size
theorem Sst.refl (w : World) : Sst w w := ⟨rfl, rfl, rfl, Nat.le_refl _⟩
theorem Sst.trans {a b c : World} (h : Sst a b) (k : Sst b c) : Sst a c := ⟨k.os.trans h.os, k.tape.trans h.tape, k.output.trans h.output, Nat.le_trans h.size k.size⟩
theorem Sst.setCell (w : World) (p : Addr) (u : Value) : Sst w (w.setCell p u) := ⟨rfl, rfl, rfl, by simp [World.setCell]⟩
theorem Sst.alloc (w : World) (o : Obj) : Sst w (w.alloc o) := ⟨rfl, rfl, rfl, by simp⟩
theorem Sst.of_below {B : Nat} {w w' : World} (h : Below B w w') : Sst w w' := ⟨h.os, h.tape, h.output, h.size⟩
theorem Sst.grown {w w' : World} {row : Option Nat} (h : w.grownBy w' row) : Sst w w' := ⟨h.os, h.tape, h.output, h.size⟩
/-- the links in memory -/
def LnkAt (w : World) (lo hi eb n : Nat) (R : Nat → List (Nat × Int)) : Prop := lo ≤ eb ∧ eb < hi ∧ ∃ V : Nat → Value, Row w eb n V ∧ ∀ v, v < n → (V v = .slice none 0 0 ∧ R v = []) ∨ ∃ rb cap, V v = .slice (some ⟨rb, 0, none⟩) (R v).length cap ∧ lo ≤ rb ∧ rb < hi ∧
  Row w rb ((R v).length * 2) fun q => if q % 2 = 0 then .int .i64 (((R v).getD (q / 2) (0, 0)).1 : Nat) else .int .i64 ((R v).getD (q / 2) (0, 0)).2
theorem LnkAt.same {w w' : World} {lo hi eb n : Nat} {R : Nat → List (Nat × Int)} (h : LnkAt w lo hi eb n R) (hs : ∀ k, lo ≤ k → k < hi → w'.heap[k]? = w.heap[k]?) : LnkAt w' lo hi eb n R := by
  obtain ⟨h1, h2, V, h3, h4⟩ := h
  refine ⟨h1, h2, V, h3.of_block (hs _ h1 h2), fun v hv => (h4 v hv).imp id ?_⟩
  rintro ⟨rb, cap, k1, k2, k3, k4⟩
  exact ⟨rb, cap, k1, k2, k3, k4.of_block (hs _ k2 k3)⟩
theorem LnkAt.up {w : World} {lo hi hi' eb n : Nat} {R : Nat → List (Nat × Int)} (h : LnkAt w lo hi eb n R) (hh : hi ≤ hi') : LnkAt w lo hi' eb n R := by
  obtain ⟨h1, h2, V, h3, h4⟩ := h
  refine ⟨h1, by omega, V, h3, fun v hv => (h4 v hv).imp id ?_⟩
  rintro ⟨rb, cap, k1, k2, k3, k4⟩
  exact ⟨rb, cap, k1, k2, by omega, k4⟩
theorem encL_len (l : List (Nat × Int)) : (l.flatMap encL).length = l.length * 2 := by
  induction l with
  | nil => rfl
  | cons a l ih => rw [List.flatMap_cons, List.length_append, ih, List.length_cons]; show 2 + _ = _; omega
theorem encL_at : ∀ (l : List (Nat × Int)) (q : Nat), q < l.length * 2 → (l.flatMap encL)[q]? = some (if q % 2 = 0 then .int .i64 ((l.getD (q / 2) (0, 0)).1 : Nat) else .int .i64 (l.getD (q / 2) (0, 0)).2)
  | [], _, h => absurd h (by simp)
  | a :: l, 0, _ => rfl
  | a :: l, 1, _ => rfl
  | a :: l, q + 2, h => by
    rw [List.flatMap_cons, List.getElem?_append_right (by show 2 ≤ _; omega)]
    show (l.flatMap encL)[q + 2 - 2]? = _
    rw [Nat.add_sub_cancel, encL_at l q (by simp at h; omega), Nat.add_mod_right, show (q + 2) / 2 = q / 2 + 1 by omega]
    rfl
theorem LinkR.at {base eb n lo hi : Nat} {R : Nat → List (Nat × Int)} {w : World} (h : LinkR base eb n R w) (h1 : lo ≤ base) (h2 : w.heap.size ≤ hi) : LnkAt w lo hi eb n R := by
  obtain ⟨V, k1, k2, k3⟩ := h.ex
  refine ⟨Nat.le_trans h1 h.lo, Nat.lt_of_lt_of_le k1.lt h2, V, ?_, fun v hv => ?_⟩
  · obtain ⟨c, c1, -, c2⟩ := k1
    exact ⟨c, _, c1, c2⟩
  · have ho := k2 v hv
    rcases ho.2 with ⟨e1, e2⟩ | ⟨g, cap, cur, e1, e2, e3, e4, e5, e6, e7⟩
    · exact .inl ⟨e1, List.length_eq_zero_iff.1 e2⟩
    · refine .inr ⟨g, cap, e1, by omega, Nat.lt_of_lt_of_le (Array.getElem?_eq_some_iff.1 e3).1 h2, cur, _, e3, fun q hq => ?_⟩
      have := encL_at (R v) q hq
      rw [← e7, List.getElem?_take, if_pos hq, Array.getElem?_toList] at this
      exact this
/-- a stack's cells, from the bottom -/
def encP (p : Pl) : List Value := [.int .i64 (p.v : Nat), .int .i64 p.e, .int .i64 (p.nx : Nat)]
def stkC (L : List Pl) : List Value := L.reverse.flatMap encP
theorem stkC_cons (p : Pl) (L : List Pl) : stkC (p :: L) = stkC L ++ encP p := by simp [stkC]
theorem stkC_len (L : List Pl) : (stkC L).length = L.length * 3 := by
  induction L with
  | nil => rfl
  | cons p L ih => rw [stkC_cons, List.length_append, ih, List.length_cons]; show _ + 3 = _; omega
theorem stkC_top (p : Pl) (L : List Pl) (j : Nat) (hj : j < 3) : (stkC (p :: L))[L.length * 3 + j]? = some ((encP p).getD j (.int .i64 0)) := by
  rw [stkC_cons, List.getElem?_append_right (by rw [stkC_len]; omega), stkC_len, show L.length * 3 + j - L.length * 3 = j by omega]
  match j, hj with
  | 0, _ => rfl
  | 1, _ => rfl
  | 2, _ => rfl
  | j + 3, h => omega
theorem stkC_set (p : Pl) (L : List Pl) (x : Nat) : (stkC (p :: L)).set (L.length * 3 + 2) (.int .i64 (x : Nat)) = stkC (⟨p.v, p.e, x⟩ :: L) := by
  rw [stkC_cons, stkC_cons, List.set_append_right _ _ (by rw [stkC_len]; omega), stkC_len, show L.length * 3 + 2 - L.length * 3 = 2 by omega]
  rfl
theorem stkC_take (p : Pl) (L : List Pl) : (stkC (p :: L)).take (L.length * 3) = stkC L := by
  rw [stkC_cons, List.take_left' (stkC_len L)]
/-- the search's memory: from block z on the edges met, found, its box, low, its box, the counter, the stack's box -/
structure SAt (w : World) (lo z eb n m : Nat) (R : Nat → List (Nat × Int)) (s : Dfs) (sv : Value) : Prop where
  lz : lo ≤ z
  lk : LnkAt w lo z eb n R
  met : Row w z m (fun i => .bool (s.met i))
  fnd : Row w (z + 1) n (fun x => .int .i64 (s.fnd x : Nat))
  fx : Row w (z + 2) 1 (fun _ => .slice (some ⟨z + 1, 0, none⟩) n n)
  low : Row w (z + 3) n (fun x => .int .i64 (s.low x : Nat))
  lx : Row w (z + 4) 1 (fun _ => .slice (some ⟨z + 3, 0, none⟩) n n)
  cb : Row w (z + 5) 1 (fun _ => .int .i64 (s.cnt : Nat))
  kx : Row w (z + 6) 1 (fun _ => sv)
  stk : w.ownsRow (z + 7) 101 3 sv s.stk.length (stkC s.stk)
/-- what the search itself may turn: its own blocks, and the stack's -/
structure Chg (z : Nat) (sv sv' : Value) (w w' : World) : Prop where
  st : Sst w w'
  blk : ∀ b, b < w.heap.size → (b < z ∨ z + 7 ≤ b) → sv.ownBlock ≠ some b → w'.heap[b]? = w.heap[b]?
  own : ∀ b, sv'.ownBlock = some b → sv.ownBlock = some b ∨ w.heap.size ≤ b
section
variable {w w' : World} {lo z eb n m : Nat} {R : Nat → List (Nat × Int)} {s : Dfs} {sv : Value}
theorem SAt.sz (h : SAt w lo z eb n m R s sv) : z + 7 ≤ w.heap.size := by have := h.kx.lt; omega
/-- what turns none of the search's blocks -/
theorem SAt.same (h : SAt w lo z eb n m R s sv) (hs : ∀ b, lo ≤ b → b < z + 7 → w'.heap[b]? = w.heap[b]?) (hv : ∀ b, sv.ownBlock = some b → w'.heap[b]? = w.heap[b]?) : SAt w' lo z eb n m R s sv := by
  have hz := h.lz
  refine ⟨h.lz, h.lk.same fun k h1 h2 => hs k h1 (by omega), h.met.of_block (hs _ (by omega) (by omega)), h.fnd.of_block (hs _ (by omega) (by omega)), h.fx.of_block (hs _ (by omega) (by omega)), h.low.of_block (hs _ (by omega) (by omega)), h.lx.of_block (hs _ (by omega) (by omega)), h.cb.of_block (hs _ (by omega) (by omega)), h.kx.of_block (hs _ (by omega) (by omega)), ?_⟩
  have ho := h.stk
  refine ⟨ho.1, ho.2.imp id ?_⟩
  rintro ⟨g, cap, cur, e1, e2, e3, e4⟩
  exact ⟨g, cap, cur, e1, e2, (hv g (by rw [e1]; rfl)).trans e3, e4⟩
theorem SAt.own_lt (h : SAt w lo z eb n m R s sv) {b : Nat} (hb : sv.ownBlock = some b) : z + 7 ≤ b ∧ b < w.heap.size := by
  rcases h.stk.2 with ⟨e1, _⟩ | ⟨g, cap, cur, e1, e2, e3, _⟩
  · rw [e1] at hb; cases hb
  · rw [e1] at hb
    have hb : g = b := Option.some.inj hb
    subst hb
    exact ⟨e2, (Array.getElem?_eq_some_iff.1 e3).1⟩
theorem SAt.alloc (h : SAt w lo z eb n m R s sv) (o : Obj) : SAt (w.alloc o) lo z eb n m R s sv :=
  h.same (fun b _ hb => Below.heap_alloc _ _ _ (by have := h.sz; omega)) fun b hb => Below.heap_alloc _ _ _ (h.own_lt hb).2
theorem SAt.drewN (h : SAt w lo z eb n m R s sv) (q : Nat) : SAt (w.drewN q) lo z eb n m R s sv := h.same (fun _ _ _ => rfl) fun _ _ => rfl
end
section
variable {w w' : World} {lo z eb n m : Nat} {R : Nat → List (Nat × Int)} {s : Dfs} {sv : Value}
theorem own_high {base size k : Nat} {e : TypeId} {v : Value} {xs : List Value} (h : w.ownsRow base e size v k xs) (hs : ∀ b, base ≤ b → w'.heap[b]? = w.heap[b]?) : w'.ownsRow base e size v k xs := by
  refine ⟨h.1, h.2.imp id ?_⟩
  rintro ⟨g, cap, cur, e1, e2, e3, e4⟩
  exact ⟨g, cap, cur, e1, e2, (hs g e2).trans e3, e4⟩
theorem SAt.setCnt (h : SAt w lo z eb n m R s sv) (c : Nat) : SAt (w.setCell ⟨z + 5, 0, none⟩ (.int .i64 (c : Nat))) lo z eb n m R ⟨c, s.fnd, s.low, s.met, s.stk⟩ sv := by
  have hz := h.lz
  have hs : ∀ k, k ≠ z + 5 → (w.setCell ⟨z + 5, 0, none⟩ (.int .i64 (c : Nat))).heap[k]? = w.heap[k]? := fun k hk => Below.heap_setCell _ _ _ _ hk
  exact ⟨h.lz, h.lk.same (fun k h1 h2 => hs k (by omega)), h.met.of_block (hs _ (by omega)), h.fnd.of_block (hs _ (by omega)), h.fx.of_block (hs _ (by omega)), h.low.of_block (hs _ (by omega)), h.lx.of_block (hs _ (by omega)), (h.cb.set 0 _).congr (fun i hi => by rw [if_pos (by omega)]), h.kx.of_block (hs _ (by omega)), own_high h.stk fun b hb => hs b (by omega)⟩
theorem SAt.setFnd (h : SAt w lo z eb n m R s sv) (v x : Nat) : SAt (w.setCell ⟨z + 1, v, none⟩ (.int .i64 (x : Nat))) lo z eb n m R ⟨s.cnt, upd s.fnd v x, s.low, s.met, s.stk⟩ sv := by
  have hz := h.lz
  have hs : ∀ k, k ≠ z + 1 → (w.setCell ⟨z + 1, v, none⟩ (.int .i64 (x : Nat))).heap[k]? = w.heap[k]? := fun k hk => Below.heap_setCell _ _ _ _ hk
  exact ⟨h.lz, h.lk.same (fun k h1 h2 => hs k (by omega)), h.met.of_block (hs _ (by omega)), (h.fnd.set v _).congr (fun i hi => by unfold upd; dsimp only; split <;> rfl), h.fx.of_block (hs _ (by omega)), h.low.of_block (hs _ (by omega)), h.lx.of_block (hs _ (by omega)), h.cb.of_block (hs _ (by omega)), h.kx.of_block (hs _ (by omega)), own_high h.stk fun b hb => hs b (by omega)⟩
theorem SAt.setLow (h : SAt w lo z eb n m R s sv) (v x : Nat) : SAt (w.setCell ⟨z + 3, v, none⟩ (.int .i64 (x : Nat))) lo z eb n m R ⟨s.cnt, s.fnd, upd s.low v x, s.met, s.stk⟩ sv := by
  have hz := h.lz
  have hs : ∀ k, k ≠ z + 3 → (w.setCell ⟨z + 3, v, none⟩ (.int .i64 (x : Nat))).heap[k]? = w.heap[k]? := fun k hk => Below.heap_setCell _ _ _ _ hk
  exact ⟨h.lz, h.lk.same (fun k h1 h2 => hs k (by omega)), h.met.of_block (hs _ (by omega)), h.fnd.of_block (hs _ (by omega)), h.fx.of_block (hs _ (by omega)), (h.low.set v _).congr (fun i hi => by unfold upd; dsimp only; split <;> rfl), h.lx.of_block (hs _ (by omega)), h.cb.of_block (hs _ (by omega)), h.kx.of_block (hs _ (by omega)), own_high h.stk fun b hb => hs b (by omega)⟩
theorem SAt.setMet (h : SAt w lo z eb n m R s sv) (i : Nat) : SAt (w.setCell ⟨z, i, none⟩ (.bool true)) lo z eb n m R ⟨s.cnt, s.fnd, s.low, upd s.met i true, s.stk⟩ sv := by
  have hz := h.lz
  have hs : ∀ k, k ≠ z → (w.setCell ⟨z, i, none⟩ (.bool true)).heap[k]? = w.heap[k]? := fun k hk => Below.heap_setCell _ _ _ _ hk
  exact ⟨h.lz, h.lk.same (fun k h1 h2 => hs k (by omega)), (h.met.set i _).congr (fun i hi => by unfold upd; dsimp only; split <;> rfl), h.fnd.of_block (hs _ (by omega)), h.fx.of_block (hs _ (by omega)), h.low.of_block (hs _ (by omega)), h.lx.of_block (hs _ (by omega)), h.cb.of_block (hs _ (by omega)), h.kx.of_block (hs _ (by omega)), own_high h.stk fun b hb => hs b (by omega)⟩
/-- the stack is longer by one place -/
theorem SAt.push {w5 : World} {p : Pl} {g cp : Nat} (h : SAt w lo z eb n m R s sv) (hg : w.grownBy w5 sv.ownBlock) (ho : w5.ownsRow (z + 7) 101 3 (.slice (some ⟨g, 0, none⟩) (s.stk.length + 1 : Nat) cp) (s.stk.length + 1) (stkC s.stk ++ encP p)) :
    SAt (w5.setCell ⟨z + 6, 0, none⟩ (.slice (some ⟨g, 0, none⟩) (s.stk.length + 1 : Nat) cp)) lo z eb n m R ⟨s.cnt, s.fnd, s.low, s.met, p :: s.stk⟩ (.slice (some ⟨g, 0, none⟩) (s.stk.length + 1 : Nat) cp) := by
  have hz := h.lz
  have hsz := h.sz
  have hs : ∀ k, k < z + 7 → w5.heap[k]? = w.heap[k]? := fun k hk => hg.block k (by omega) fun c => by have := (h.own_lt c.symm).1; omega
  have hs2 : ∀ k, k < z + 6 → (w5.setCell ⟨z + 6, 0, none⟩ (.slice (some ⟨g, 0, none⟩) (s.stk.length + 1 : Nat) cp)).heap[k]? = w.heap[k]? := fun k hk => (Below.heap_setCell _ _ _ _ (by show k ≠ z + 6; omega)).trans (hs k (by omega))
  refine ⟨h.lz, h.lk.same (fun k h1 h2 => hs2 k (by omega)), h.met.of_block (hs2 _ (by omega)), h.fnd.of_block (hs2 _ (by omega)), h.fx.of_block (hs2 _ (by omega)), h.low.of_block (hs2 _ (by omega)), h.lx.of_block (hs2 _ (by omega)), h.cb.of_block (hs2 _ (by omega)), ((h.kx.of_block (hs (z + 6) (by omega))).set 0 _).congr (fun i hi => by rw [if_pos (by omega)]), ?_⟩
  have e : stkC (p :: s.stk) = stkC s.stk ++ encP p := stkC_cons p s.stk
  rw [← e] at ho
  exact own_high ho fun b hb => Below.heap_setCell _ _ _ _ (by show b ≠ z + 6; omega)
theorem Chg.push {sv0 : Value} {w0 w5 : World} {g cp k : Nat} (h : Chg z sv0 sv w0 w) (hg : w.grownBy w5 sv.ownBlock) (hm : Moved w sv g) (u : Value) :
    Chg z sv0 (.slice (some ⟨g, 0, none⟩) k cp) w0 (w5.setCell ⟨z + 6, 0, none⟩ u) := by
  refine ⟨(h.st.trans (Sst.grown hg)).trans (Sst.setCell _ _ _), fun b hb hz ho => ?_, fun b hb => ?_⟩
  · have hsz := h.st.size
    refine (Below.heap_setCell _ _ _ _ (by show b ≠ z + 6; omega)).trans ((hg.block b (by omega) fun c => ?_).trans (h.blk b hb hz ho))
    rcases h.own b c.symm with c | c
    · exact ho c
    · omega
  · have hb : g = b := Option.some.inj hb
    subst hb
    have hsz := h.st.size
    rcases hm with c | c
    · exact h.own _ c
    · exact .inr (by omega)
theorem Chg.refl (z : Nat) (sv : Value) (w : World) : Chg z sv sv w w := ⟨Sst.refl w, fun _ _ _ _ => rfl, fun _ h => .inl h⟩
theorem Chg.set {sv0 : Value} {w0 : World} (h : Chg z sv0 sv w0 w) {p : Addr} (h1 : z ≤ p.block) (h2 : p.block < z + 7) (u : Value) : Chg z sv0 sv w0 (w.setCell p u) :=
  ⟨h.st.trans (Sst.setCell _ _ _), fun b hb hz ho => (Below.heap_setCell _ _ _ _ (by omega)).trans (h.blk b hb hz ho), h.own⟩
theorem Chg.drew {sv0 : Value} {w0 : World} (h : Chg z sv0 sv w0 w) : Chg z sv0 sv w0 w.drew := ⟨⟨h.st.os, h.st.tape, h.st.output, h.st.size⟩, h.blk, h.own⟩
end
set_option maxRecDepth 100000 in
set_option maxHeartbeats 1000000 in
theorem enter_any (w : World) (lo z eb n m : Nat) (R : Nat → List (Nat × Int)) (s : Dfs) (sv : Value) (v : Nat) (e : Int) (h : SAt w lo z eb n m R s sv) (hv : v < n) (hc : s.cnt ≤ 4096) (hl : s.stk.length ≤ 4096) :
    Calls Try.prog 68 #[.int .i64 (v : Nat), .int .i64 e, .pointer (some ⟨z + 5, 0, none⟩), .pointer (some ⟨z + 2, 0, none⟩), .pointer (some ⟨z + 4, 0, none⟩), .pointer (some ⟨z + 6, 0, none⟩)] w fun e' w' =>
      (∃ r, e' = .returned r) ∧ ∃ sv', SAt w' lo z eb n m R ⟨s.cnt + 1, upd s.fnd v (s.cnt + 1), upd s.low v (s.cnt + 1), s.met, ⟨v, e, 0⟩ :: s.stk⟩ sv' ∧ Chg z sv sv' w w' := by
  have cb := h.cb.cell (i := 0) (by omega)
  have fb := h.cb.frozen 0
  have H := Lib.hid h
  have hsz := h.sz
  clear h
  go_enter Try.func68, Try.ntmps68
  go_wp2_with fail
  have H1 : Hid (SAt (w.setCell ⟨z + 5, 0, none⟩ (.int .i64 ((s.cnt : Int) + 1))) lo z eb n m R ⟨s.cnt + 1, s.fnd, s.low, s.met, s.stk⟩ sv) := Lib.hid (by have := H.out.setCnt (s.cnt + 1); rw [Int.natCast_add] at this; exact this)
  have G1 : Hid (Chg z sv sv w (w.setCell ⟨z + 5, 0, none⟩ (.int .i64 ((s.cnt : Int) + 1))).drew) := Lib.hid ((Chg.refl z sv w).set (p := ⟨z + 5, 0, none⟩) (by show z ≤ z + 5; omega) (by show z + 5 < z + 7; omega) _).drew
  obtain ⟨w1, hw1⟩ : ∃ w1, w.setCell ⟨z + 5, 0, none⟩ (.int .i64 ((s.cnt : Int) + 1)) = w1 := ⟨_, rfl⟩
  rw [hw1] at H1 G1
  try rw [hw1]
  clear hw1 cb fb
  have hvn : (0 : Int) ≤ v ∧ (v : Int) < n := by omega
  have HS : w1.drew.cell? ⟨z + 2, 0, none⟩ = some (.slice (some ⟨z + 1, 0, none⟩) n n) ∧ w1.drew.cell? ⟨z + 4, 0, none⟩ = some (.slice (some ⟨z + 3, 0, none⟩) n n) ∧ w1.drew.cell? ⟨z + 5, 0, none⟩ = some (.int .i64 ((s.cnt : Int) + 1)) :=
    ⟨H1.out.fx.cell (by omega), H1.out.lx.cell (by omega), by have := H1.out.cb.cell (i := 0) (by omega); exact this⟩
  have H2 : Hid (SAt (w1.setCell ⟨z + 1, v, none⟩ (.int .i64 ((s.cnt : Int) + 1))).drew lo z eb n m R ⟨s.cnt + 1, upd s.fnd v (s.cnt + 1), s.low, s.met, s.stk⟩ sv) := Lib.hid (by have := (H1.out.setFnd v (s.cnt + 1)).drewN 1; exact this)
  have c1 : w1.drew.cell? ⟨z + 1, v, none⟩ = some (.int .i64 (s.fnd v : Nat)) := H1.out.fnd.cell hv
  have f1 : w1.drew.frozen? ⟨z + 1, v, none⟩ = false := H1.out.fnd.frozen v
  refine region_plain (fun w' => w'.cell? ⟨z + 2, 0, none⟩ = some (.slice (some ⟨z + 1, 0, none⟩) n n) ∧ w'.cell? ⟨z + 4, 0, none⟩ = some (.slice (some ⟨z + 3, 0, none⟩) n n) ∧ w'.cell? ⟨z + 5, 0, none⟩ = some (.int .i64 ((s.cnt : Int) + 1))) (by kernel_rfl) ?_
  refine take_at (i := 0) (d := 10) (v := ?_) rfl rfl (by kernel_rfl) (by kernel_rfl) (by kernel_rfl) (fun _ _ _ _ => NormalOnly.any) rfl ?hy1 HS ?rest1
  case hy1 => intro w' hSw; (try dsimp only at hSw); go_simp; try (with_reducible rfl)
  try simp only [List.setIfInBounds_toArray, List.set_cons_zero, List.set_cons_succ]
  refine take_at (i := 1) (d := 11) (v := ?_) rfl rfl (by kernel_rfl) (by kernel_rfl) (by kernel_rfl) (fun _ _ _ _ => NormalOnly.any) rfl ?hy2 HS ?rest2
  case hy2 => intro w' hSw; (try dsimp only at hSw); go_simp; try (with_reducible rfl)
  try simp only [List.setIfInBounds_toArray, List.set_cons_zero, List.set_cons_succ]
  refine take_at (i := 2) (d := 12) (v := ?_) rfl rfl (by kernel_rfl) (by kernel_rfl) (by kernel_rfl) (fun _ _ _ _ => NormalOnly.any) rfl ?hy3 HS ?rest3
  case hy3 => intro w' hSw; (try dsimp only at hSw); go_simp; try (with_reducible rfl)
  try simp only [List.setIfInBounds_toArray, List.set_cons_zero, List.set_cons_succ]
  refine take_at (i := 3) (d := 13) (v := ?_) rfl rfl (by kernel_rfl) (by kernel_rfl) (by kernel_rfl) (fun _ _ _ _ => NormalOnly.any) rfl ?hy4 HS ?rest4
  case hy4 => intro w' hSw; (try dsimp only at hSw); go_simp; try (with_reducible rfl)
  try simp only [List.setIfInBounds_toArray, List.set_cons_zero, List.set_cons_succ]
  refine take_at (i := 4) (d := 14) (v := ?_) rfl rfl (by kernel_rfl) (by kernel_rfl) (by kernel_rfl) (fun _ _ _ _ => NormalOnly.any) rfl ?hy5 HS ?rest5
  case hy5 => intro w' hSw; (try dsimp only at hSw); go_simp; try (with_reducible rfl)
  try simp only [List.setIfInBounds_toArray, List.set_cons_zero, List.set_cons_succ]
  refine take_at (i := 5) (d := 15) (v := ?_) rfl rfl (by kernel_rfl) (by kernel_rfl) (by kernel_rfl) (fun _ _ _ _ => NormalOnly.any) rfl ?hy6 HS ?rest6
  case hy6 => intro w' hSw; (try dsimp only at hSw); go_simp; try (with_reducible rfl)
  try simp only [List.setIfInBounds_toArray, List.set_cons_zero, List.set_cons_succ]
  refine take_at (i := 6) (d := 16) (v := ?_) rfl rfl (by kernel_rfl) (by kernel_rfl) (by kernel_rfl) (fun _ _ _ _ => NormalOnly.any) rfl ?hy7 HS ?rest7
  case hy7 => intro w' hSw; (try dsimp only at hSw); go_simp; try (with_reducible rfl)
  try simp only [List.setIfInBounds_toArray, List.set_cons_zero, List.set_cons_succ]
  refine wpAnyH_ready (rs := [7]) (by kernel_rfl) (by simp) ?_
  refine AllReadyH.cons rfl (fun K hK => ?_) AllReadyH.nil
  go_simp
  obtain ⟨w2, hw2⟩ : ∃ w2, (w1.setCell ⟨z + 1, v, none⟩ (.int .i64 ((s.cnt : Int) + 1))).drew = w2 := ⟨_, rfl⟩
  have G2 : Hid (Chg z sv sv w w2) := Lib.hid (by rw [← hw2]; exact G1.out.set (p := ⟨z + 1, v, none⟩) (by show z ≤ z + 1; omega) (by show z + 1 < z + 7; omega) _)
  rw [hw2] at H2 ⊢
  clear hw2 c1 f1 H1 G1
  have HS2 : w2.cell? ⟨z + 2, 0, none⟩ = some (.slice (some ⟨z + 1, 0, none⟩) n n) ∧ w2.cell? ⟨z + 4, 0, none⟩ = some (.slice (some ⟨z + 3, 0, none⟩) n n) ∧ w2.cell? ⟨z + 5, 0, none⟩ = some (.int .i64 ((s.cnt : Int) + 1)) :=
    ⟨H2.out.fx.cell (by omega), H2.out.lx.cell (by omega), by have := H2.out.cb.cell (i := 0) (by omega); exact this⟩
  have H3 : Hid (SAt (w2.setCell ⟨z + 3, v, none⟩ (.int .i64 ((s.cnt : Int) + 1))) lo z eb n m R ⟨s.cnt + 1, upd s.fnd v (s.cnt + 1), upd s.low v (s.cnt + 1), s.met, s.stk⟩ sv) := Lib.hid (by have := H2.out.setLow v (s.cnt + 1); exact this)
  have c1 : w2.cell? ⟨z + 3, v, none⟩ = some (.int .i64 (s.low v : Nat)) := H2.out.low.cell hv
  have f1 : w2.frozen? ⟨z + 3, v, none⟩ = false := H2.out.low.frozen v
  refine hK.out _ _ HS2 (fun HS => ?_)
  clear hK HS2
  refine take_at (i := 8) (d := 17) (v := ?_) rfl rfl (by kernel_rfl) (by kernel_rfl) (by kernel_rfl) (fun _ _ _ _ => NormalOnly.any) rfl ?hy8 HS ?rest8
  case hy8 => intro w' hSw; (try dsimp only at hSw); go_simp; try (with_reducible rfl)
  try simp only [List.setIfInBounds_toArray, List.set_cons_zero, List.set_cons_succ]
  refine wpAnyH_ready (rs := [9]) (by kernel_rfl) (by simp) ?_
  refine AllReadyH.cons rfl (fun K hK => ?_) AllReadyH.nil
  go_simp
  obtain ⟨w3, hw3⟩ : ∃ w3, w2.setCell ⟨z + 3, v, none⟩ (.int .i64 ((s.cnt : Int) + 1)) = w3 := ⟨_, rfl⟩
  have G3 : Hid (Chg z sv sv w w3) := Lib.hid (by rw [← hw3]; exact G2.out.set (p := ⟨z + 3, v, none⟩) (by show z ≤ z + 3; omega) (by show z + 3 < z + 7; omega) _)
  rw [hw3] at H3 ⊢
  clear hw3 c1 f1 H2 G2
  have HS3 : w3.cell? ⟨z + 2, 0, none⟩ = some (.slice (some ⟨z + 1, 0, none⟩) n n) ∧ w3.cell? ⟨z + 4, 0, none⟩ = some (.slice (some ⟨z + 3, 0, none⟩) n n) ∧ w3.cell? ⟨z + 5, 0, none⟩ = some (.int .i64 ((s.cnt : Int) + 1)) :=
    ⟨H3.out.fx.cell (by omega), H3.out.lx.cell (by omega), by have := H3.out.cb.cell (i := 0) (by omega); exact this⟩
  refine hK.out _ _ HS3 (fun HS => ?_)
  clear hK HS3 HS
  refine wpAnyH_done (by kernel_rfl) ⟨rfl, ?_⟩ _
  have hown : w3.ownsRow (z + 7) 101 3 sv s.stk.length (stkC s.stk) := H3.out.stk
  have hsz3 : z + 7 ≤ w3.heap.size := H3.out.sz
  have ck : w3.cell? ⟨z + 6, 0, none⟩ = some sv := H3.out.kx.cell (by omega)
  go_wp2_with (at_builtin; refine push etPc rfl _ _ rfl (z + 7) _ _ _ hown rfl #[.int .i64 (v : Nat), .int .i64 e, .int .i64 0] _ rfl rfl rfl (by simp [Value.oneCell']) (by omega) (by omega) hsz3 ?_; intro g cp w5 hown5 hg5 hv5; refine Hid.out ?_)
  have ck5 : w5.cell? ⟨z + 6, 0, none⟩ = some sv ∧ w5.frozen? ⟨z + 6, 0, none⟩ = false := by
    have hb : w5.heap[z + 6]? = w3.heap[z + 6]? := hg5.block (z + 6) (by omega) fun c => by have := (H3.out.own_lt c.symm).1; omega
    have r := H3.out.kx.of_block hb
    exact ⟨r.cell (by omega), r.frozen 0⟩
  have HF := Lib.hid (H3.out.push (p := ⟨v, e, 0⟩) hg5 hown5)
  have GF := Lib.hid (G3.out.push (cp := cp) (k := s.stk.length + 1) hg5 hv5 (.slice (some ⟨g, 0, none⟩) (s.stk.length + 1 : Nat) cp))
  obtain ⟨ck6, fk6⟩ := ck5
  clear hown5 hg5 hv5 ck hown H3 G3
  refine Lib.hid ?_
  go_wp2_with fail
  go_end0
  exact ⟨⟨_, rfl⟩, _, HF.out, GF.out⟩
end Go.Proofs.Ytcpikabhcjkkmaa
