/- The rows by weight, as lists and in memory, while Levels goes over the steps. No conditions. -/
import Derived.Test.YtpbgophogneecaaGreatStq
import Derived.Test.YtpbgophogneecaaGreatSortF
namespace Go.Proofs.YtpbgophogneecaaGreat
open Go.RowKit Go.Shelf

/-- is a row laid behind the j-th edge of an order? -/
def bdO (E : List Ed) (o : List Nat) (j : Nat) : Bool := decide (0 < j) && (decide (j = o.length) || decide ((eAt E (o.getD j 0)).w ≠ (eAt E (o.getD (j - 1) 0)).w))
def lvK (E : List Ed) (o : List Nat) (k : Nat) : List Nat := (List.range k).filter (bdO E o)
theorem lvK_succ (E : List Ed) (o : List Nat) (k : Nat) : lvK E o (k + 1) = if bdO E o k = true then lvK E o k ++ [k] else lvK E o k := by
  unfold lvK
  rw [List.range_succ, List.filter_append]
  cases h : bdO E o k <;> simp [h]
theorem lvK_len (E : List Ed) (o : List Nat) (k : Nat) : (lvK E o k).length ≤ k := by
  have := List.length_filter_le (bdO E o) (List.range k)
  unfold lvK; simpa using this
/-- the cells of a row by weight -/
def lvV (n : Nat) (E : List Ed) (o : List Nat) (j c : Nat) : Value :=
  if c = 0 then .int .i64 (eAt E (o.getD (j - 1) 0)).w else if c = 1 then .int .i64 (lgN n (labO E (o.take j)) (lbL (labO E (o.take j)) n) : Nat) else if c = 2 then .int .i64 (cntN n (labO E (o.take j)) : Nat) else .int .i64 (sqN n (labO E (o.take j)) (lbL (labO E (o.take j)) n) : Nat)
def lvC (n : Nat) (E : List Ed) (o : List Nat) (K : List Nat) (i c : Nat) : Value := lvV n E o (K.getD i 0) c
theorem Tryz.infoLv : (Tryz.prog.info? 38).map (fun i => (i.zero, i.size, i.bytes)) = some (some (.agg #[.int .i64 0, .int .i64 0, .int .i64 0, .int .i64 0]), 4, 32) := by kernel_rfl
theorem etLv : ET 24 38 4 32 := ET.of Tryz.underlying24 Tryz.infoLv rfl (by decide)
theorem lv_snoc (n : Nat) (E : List Ed) (o K : List Nat) (j : Nat) : flat (lvC n E o (K ++ [j])) (K ++ [j]).length 4 = flat (lvC n E o K) K.length 4 ++ [lvV n E o j 0, lvV n E o j 1, lvV n E o j 2, lvV n E o j 3] := by
  rw [List.length_append, List.length_singleton, flat_succ, flat_congr (g := lvC n E o K) (fun i hi c _ => by unfold lvC; rw [List.getD_eq_getElem?_getD, List.getElem?_append_left hi, ← List.getD_eq_getElem?_getD])]
  congr 1
  simp [lvC, List.range_succ]
/-- a row that a call owns stays where its block stays -/
theorem own_same {W W' : World} {base : Nat} {e : TypeId} {size : Nat} {v : Value} {n : Nat} {xs : List Value} (h : W.ownsRow base e size v n xs) (hs : ∀ g, v.ownBlock = some g → W'.heap[g]? = W.heap[g]?) : W'.ownsRow base e size v n xs := by
  obtain ⟨h1, h2⟩ := h
  refine ⟨h1, h2.imp id ?_⟩
  rintro ⟨g, cap, cur, rfl, e2, e3, e4⟩
  exact ⟨g, cap, cur, rfl, e2, (hs g (by simp [Value.ownBlock])).trans e3, e4⟩
theorem own_low {w : World} {base base' n size : Nat} {e : TypeId} {v : Value} {xs : List Value} (h : w.ownsRow base e size v n xs) (hb : base' ≤ base) : w.ownsRow base' e size v n xs :=
  ⟨h.1, h.2.imp id fun ⟨g, c, cur, h1, h2, h3⟩ => ⟨g, c, cur, h1, Nat.le_trans hb h2, h3⟩⟩
/-- what lies in memory when the range has gone over some elements -/
structure LvI (w : World) (N be bt bo lv n : Nat) (E : List Ed) (o : List Nat) (va vt vo : Value) (S : Nat → Prop) (pre : List Nat) (W : World) : Prop where
  pr : pre = List.range pre.length
  bel : Below w.heap.size w W
  sz : N ≤ W.heap.size
  e : Boxed W be 22 va
  t : Boxed W bt 47 vt
  q : Boxed W bo 46 vo
  l : ∃ v, Boxed W lv 24 v ∧ W.ownsRow N 38 4 v (lvK E o pre.length).length (flat (lvC n E o (lvK E o pre.length)) (lvK E o pre.length).length 4) ∧ ∀ g, v.ownBlock = some g → ¬ S g
  ap : ¬ S be ∧ ¬ S bt ∧ ¬ S bo ∧ ¬ S lv
  up : ∀ j, S j → w.heap.size ≤ j ∧ j < W.heap.size
section
variable {w : World} {N be bt bo lv n : Nat} {E : List Ed} {o : List Nat} {va vt vo : Value}
theorem boxed_lt {W : World} {b : Nat} {t : TypeId} {v : Value} (h : Boxed W b t v) : b < W.heap.size := (Array.getElem?_eq_some_iff.1 h).1
/-- it stays where cells outside of S stay -/
theorem LvI.on {S S' : Nat → Prop} {pre : List Nat} {W W' : World} (h : LvI w N be bt bo lv n E o va vt vo S pre W) (hb : Below w.heap.size w W') (hz : W.heap.size ≤ W'.heap.size)
    (hs : ∀ j cs t r, W.heap[j]? = some (.cells cs t r) → ¬ S j → W'.heap[j]? = W.heap[j]? ∧ ¬ S' j) (hu : ∀ j, S' j → w.heap.size ≤ j ∧ j < W'.heap.size) : LvI w N be bt bo lv n E o va vt vo S' pre W' := by
  obtain ⟨v, l1, l2, l3⟩ := h.l
  have k1 := hs be _ _ _ h.e h.ap.1
  have k2 := hs bt _ _ _ h.t h.ap.2.1
  have k3 := hs bo _ _ _ h.q h.ap.2.2.1
  have k4 := hs lv _ _ _ l1 h.ap.2.2.2
  have k5 : ∀ g, v.ownBlock = some g → W'.heap[g]? = W.heap[g]? ∧ ¬ S' g := fun g hg => by
    rcases l2.2 with ⟨h0, _⟩ | ⟨g', cap, cur, h0, _, h2, _⟩
    · rw [h0] at hg; simp [Value.ownBlock] at hg
    · have e : g' = g := by rw [h0] at hg; simpa [Value.ownBlock] using hg
      subst e
      exact hs g' _ _ _ h2 (l3 g' hg)
  exact ⟨h.pr, hb, Nat.le_trans h.sz hz, k1.1.trans h.e, k2.1.trans h.t, k3.1.trans h.q, ⟨v, k4.1.trans l1, own_same l2 fun g hg => (k5 g hg).1, fun g hg => (k5 g hg).2⟩, ⟨k1.2, k2.2, k3.2, k4.2⟩, hu⟩
theorem LvI.st {S S' : Nat → Prop} {pre : List Nat} {W W' : World} (h : LvI w N be bt bo lv n E o va vt vo S pre W) (hs : StS S W S' W') : LvI w N be bt bo lv n E o va vt vo S' pre W' :=
  h.on ⟨hs.os.trans h.bel.os, hs.tape.trans h.bel.tape, hs.output.trans h.bel.output, Nat.le_trans h.bel.size hs.size, fun j hj => (hs.block j (Nat.lt_of_lt_of_le hj h.bel.size) fun c => by have := h.up j c; omega).trans (h.bel.block j hj)⟩ hs.size
    (fun j cs t r hj hn => by
      have hlt := (Array.getElem?_eq_some_iff.1 hj).1
      exact ⟨hs.block j hlt hn, fun c => (hs.sub j c).elim hn fun d => by omega⟩)
    (fun j hj => (hs.sub j hj).elim (fun c => ⟨(h.up j c).1, Nat.lt_of_lt_of_le (h.up j c).2 hs.size⟩) fun d => ⟨Nat.le_trans h.bel.size d.1, d.2⟩)
/-- nothing is laid: the same rows -/
theorem LvI.skip {S : Nat → Prop} {pre : List Nat} {W : World} (h : LvI w N be bt bo lv n E o va vt vo S pre W) {x : Nat} (hx : pre ++ [x] = List.range (pre ++ [x]).length) (hb : bdO E o pre.length = false) : LvI w N be bt bo lv n E o va vt vo S (pre ++ [x]) W :=
  ⟨hx, h.bel, h.sz, h.e, h.t, h.q, by
    have e : lvK E o (pre ++ [x]).length = lvK E o pre.length := by rw [List.length_append, List.length_singleton, lvK_succ, if_neg (by rw [hb]; decide)]
    rw [e]; exact h.l, h.ap, h.up⟩
/-- a row is laid -/
theorem LvI.grow {S C : Nat → Prop} {pre : List Nat} {W w2 w3 : World} {v : Value} {g cp x : Nat} (h : LvI w N be bt bo lv n E o va vt vo S pre W) (hx : pre ++ [x] = List.range (pre ++ [x]).length) (hb : bdO E o pre.length = true)
    (l1 : Boxed W lv 24 v) (l3 : ∀ g, v.ownBlock = some g → ¬ S g) (l2 : W.ownsRow N 38 4 v (lvK E o pre.length).length (flat (lvC n E o (lvK E o pre.length)) (lvK E o pre.length).length 4)) (hlv : lv < N ∧ w.heap.size ≤ lv) (hC : ∀ j, C j → j < N ∧ j ≠ lv)
    (b2 : Below W.heap.size W w2) (hg : w2.grownBy w3 v.ownBlock) (hm : Moved w2 v g)
    (ho : w3.ownsRow N 38 4 (.slice (some ⟨g, 0, none⟩) ((lvK E o pre.length).length + 1 : Nat) cp) ((lvK E o pre.length).length + 1) (flat (lvC n E o (lvK E o pre.length)) (lvK E o pre.length).length 4 ++ [lvV n E o pre.length 0, lvV n E o pre.length 1, lvV n E o pre.length 2, lvV n E o pre.length 3]))
    (hneq : be ≠ lv ∧ bt ≠ lv ∧ bo ≠ lv) (hlt : be < N ∧ bt < N ∧ bo < N) :
    KeepsFrom N W (w3.setCell ⟨lv, 0, none⟩ (.slice (some ⟨g, 0, none⟩) ((lvK E o pre.length).length + 1 : Nat) cp)) ∧ KpS S C W (w3.setCell ⟨lv, 0, none⟩ (.slice (some ⟨g, 0, none⟩) ((lvK E o pre.length).length + 1 : Nat) cp)) ∧
      LvI w N be bt bo lv n E o va vt vo S (pre ++ [x]) (w3.setCell ⟨lv, 0, none⟩ (.slice (some ⟨g, 0, none⟩) ((lvK E o pre.length).length + 1 : Nat) cp)) := by
  have hvN : ∀ k, v.ownBlock = some k → N ≤ k ∧ k < W.heap.size := l2.lt
  have hgN : N ≤ g := (ho.lt g (by simp [Value.ownBlock])).1
  have hsz := h.sz
  have s2 := b2.size
  have s3 := hg.size
  have hsame : ∀ j, j < W.heap.size → some j ≠ v.ownBlock → j ≠ lv → (w3.setCell ⟨lv, 0, none⟩ (.slice (some ⟨g, 0, none⟩) ((lvK E o pre.length).length + 1 : Nat) cp)).heap[j]? = W.heap[j]? := fun j hj h1 h2 =>
    (Below.heap_setCell _ _ _ _ h2).trans ((hg.block j (by omega) h1).trans (b2.block j hj))
  have hz : W.heap.size ≤ (w3.setCell ⟨lv, 0, none⟩ (.slice (some ⟨g, 0, none⟩) ((lvK E o pre.length).length + 1 : Nat) cp)).heap.size := by simp [World.setCell]; omega
  have hnv : ∀ j, j < N → some j ≠ v.ownBlock := fun j hj e => by have := hvN j e.symm; omega
  have kb : Below w.heap.size W (w3.setCell ⟨lv, 0, none⟩ (.slice (some ⟨g, 0, none⟩) ((lvK E o pre.length).length + 1 : Nat) cp)) :=
    ((b2.mono h.bel.size).grown hg (Nat.le_trans h.bel.size s2) (fun k e => by have := hvN k e; omega)).setCell (p := ⟨lv, 0, none⟩) hlv.2 _
  refine ⟨⟨hz, fun k ob hk hok hcell => ?_⟩, ⟨hz, fun j hj => ?_⟩, ⟨hx, h.bel.trans kb, Nat.le_trans hsz hz, (hsame be (by omega) (hnv be hlt.1) hneq.1).trans h.e, (hsame bt (by omega) (hnv bt hlt.2.1) hneq.2.1).trans h.t, (hsame bo (by omega) (hnv bo hlt.2.2) hneq.2.2).trans h.q, ⟨.slice (some ⟨g, 0, none⟩) ((lvK E o pre.length).length + 1 : Nat) cp, ?_, ?_, fun k hk => ?_⟩, h.ap, fun j hj => ⟨(h.up j hj).1, Nat.lt_of_lt_of_le (h.up j hj).2 hz⟩⟩⟩
  · have hkl := (Array.getElem?_eq_some_iff.1 hok).1
    rw [hsame k hkl (fun e => by
      rcases l2.2 with ⟨h0, _⟩ | ⟨g', cap', cur', h0, _, h2, _⟩
      · rw [h0] at e; simp [Value.ownBlock] at e
      · have e2 : k = g' := by rw [h0] at e; simpa [Value.ownBlock] using e
        subst e2
        rw [hok] at h2; cases h2; cases hcell) (by omega)]
    exact hok
  · rcases hj with hj | hj
    · exact hsame j ((h.up j hj).2) (fun e => l3 j e.symm hj) (fun e => h.ap.2.2.2 (e ▸ hj))
    · exact hsame j (by have := (hC j hj).1; omega) (hnv j (hC j hj).1) (hC j hj).2
  · have hb3 : Boxed w3 lv 24 v := (hg.block lv (by omega) (hnv lv hlv.1)).trans ((b2.block lv (by omega)).trans l1)
    exact hb3.set _
  · have e : lvK E o (pre ++ [x]).length = lvK E o pre.length ++ [pre.length] := by rw [List.length_append, List.length_singleton, lvK_succ, if_pos hb]
    rw [e, lv_snoc, List.length_append, List.length_singleton]
    exact own_same ho fun k hk => Below.heap_setCell _ _ _ _ (by
      have : g = k := by simpa [Value.ownBlock] using hk
      show k ≠ lv; omega)
  · have e : g = k := by simpa [Value.ownBlock] using hk
    subst e
    rcases hm with h1 | h1
    · exact l3 g h1
    · exact fun c => by have := (h.up g c).2; omega
theorem LvI.own (S : Nat → Prop) (hN : w.heap.size ≤ N) : OwnFrom N (LvI w N be bt bo lv n E o va vt vo S) := fun pre A B row h hg hr =>
  h.on (h.bel.trans ⟨hg.os, hg.tape, hg.output, hg.size, fun j hj => hg.block j (Nat.lt_of_lt_of_le hj h.bel.size) (fun e => by obtain ⟨h1, _⟩ := hr j e.symm; omega)⟩) hg.size
    (fun j cs t r hj hn => ⟨hg.block j (Array.getElem?_eq_some_iff.1 hj).1 (fun e => by
      obtain ⟨_, o', h1, h2⟩ := hr j e.symm
      rw [hj] at h1; cases h1; cases h2), hn⟩) fun j hj => ⟨(h.up j hj).1, Nat.lt_of_lt_of_le (h.up j hj).2 hg.size⟩
end
end Go.Proofs.YtpbgophogneecaaGreat
