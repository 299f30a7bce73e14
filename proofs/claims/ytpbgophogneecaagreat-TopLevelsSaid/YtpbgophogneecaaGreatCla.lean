/- The rows that collect lays, in memory, while it goes over the steps. No conditions. -/
import Derived.Test.YtpbgophogneecaaGreatLvP
import Derived.Test.YtpbgophogneecaaGreatTlb
namespace Go.Proofs.YtpbgophogneecaaGreat
open Go.RowKit Go.Shelf

/-- the cells of the row behind i edges -/
def clC (n : Nat) (E : List Ed) (o : List Nat) (i c : Nat) : Value :=
  if c = 0 then .int .i64 (lgN n (labO E (o.take i)) (lbL (labO E (o.take i)) n) : Nat) else if c = 1 then .int .i64 (cntN n (labO E (o.take i)) : Nat) else .int .i64 (sqN n (labO E (o.take i)) (lbL (labO E (o.take i)) n) : Nat)
theorem Tryz.infoRw : (Tryz.prog.info? 35).map (fun i => (i.zero, i.size, i.bytes)) = some (some (.agg #[.int .i64 0, .int .i64 0, .int .i64 0]), 3, 24) := by kernel_rfl
theorem etRw : ET 41 35 3 24 := ET.of Tryz.underlying41 Tryz.infoRw rfl (by decide)
theorem cl_snoc (n : Nat) (E : List Ed) (o : List Nat) (k : Nat) : flat (clC n E o) (k + 1) 3 = flat (clC n E o) k 3 ++ [clC n E o k 0, clC n E o k 1, clC n E o k 2] := by
  rw [flat_succ]; rfl
/-- what lies in memory when the range has gone over some elements -/
structure ClI (w : World) (base M N bt bf lv n : Nat) (C : Nat → Prop) (E : List Ed) (o : List Nat) (vt vf : Value) (S : Nat → Prop) (pre : List Nat) (W : World) : Prop where
  pr : pre = List.range pre.length
  bel : Below base w W
  sz : N ≤ W.heap.size
  t : Boxed W bt 47 vt
  f : Boxed W bf 54 vf
  l : ∃ v, Boxed W lv 41 v ∧ W.ownsRow M 35 3 v pre.length (flat (clC n E o) pre.length 3) ∧ ∀ g, v.ownBlock = some g → ¬ S g ∧ ¬ C g ∧ g ≠ lv ∧ g ≠ bt ∧ g ≠ bf
  ap : ¬ S bt ∧ ¬ S bf ∧ ¬ S lv
  up : ∀ j, S j → base ≤ j ∧ j < W.heap.size
section
variable {w : World} {base M N bt bf lv n : Nat} {C : Nat → Prop} {E : List Ed} {o : List Nat} {vt vf : Value}
theorem ClI.on {S S' : Nat → Prop} {pre : List Nat} {W W' : World} (h : ClI w base M N bt bf lv n C E o vt vf S pre W) (hb : Below base w W') (hz : W.heap.size ≤ W'.heap.size)
    (hs : ∀ j cs t r, W.heap[j]? = some (.cells cs t r) → ¬ S j → W'.heap[j]? = W.heap[j]? ∧ ¬ S' j) (hu : ∀ j, S' j → base ≤ j ∧ j < W'.heap.size) : ClI w base M N bt bf lv n C E o vt vf S' pre W' := by
  obtain ⟨v, l1, l2, l3⟩ := h.l
  have k1 := hs bt _ _ _ h.t h.ap.1
  have k2 := hs bf _ _ _ h.f h.ap.2.1
  have k4 := hs lv _ _ _ l1 h.ap.2.2
  have k5 : ∀ g, v.ownBlock = some g → W'.heap[g]? = W.heap[g]? ∧ ¬ S' g := fun g hg => by
    rcases l2.2 with ⟨h0, _⟩ | ⟨g', cap, cur, h0, _, h2, _⟩
    · rw [h0] at hg; simp [Value.ownBlock] at hg
    · have e : g' = g := by rw [h0] at hg; simpa [Value.ownBlock] using hg
      subst e
      exact hs g' _ _ _ h2 (l3 g' hg).1
  exact ⟨h.pr, hb, Nat.le_trans h.sz hz, k1.1.trans h.t, k2.1.trans h.f, ⟨v, k4.1.trans l1, own_same l2 fun g hg => (k5 g hg).1, fun g hg => ⟨(k5 g hg).2, (l3 g hg).2⟩⟩, ⟨k1.2, k2.2, k4.2⟩, hu⟩
theorem ClI.st {S S' : Nat → Prop} {pre : List Nat} {W W' : World} (h : ClI w base M N bt bf lv n C E o vt vf S pre W) (hz : base ≤ w.heap.size) (hs : StS S W S' W') : ClI w base M N bt bf lv n C E o vt vf S' pre W' :=
  h.on ⟨hs.os.trans h.bel.os, hs.tape.trans h.bel.tape, hs.output.trans h.bel.output, Nat.le_trans h.bel.size hs.size, fun j hj => (hs.block j (Nat.lt_of_lt_of_le hj (Nat.le_trans hz h.bel.size)) fun c => by have := h.up j c; omega).trans (h.bel.block j hj)⟩ hs.size
    (fun j cs t r hj hn => by
      have hlt := (Array.getElem?_eq_some_iff.1 hj).1
      exact ⟨hs.block j hlt hn, fun c => (hs.sub j c).elim hn fun d => by omega⟩)
    (fun j hj => (hs.sub j hj).elim (fun c => ⟨(h.up j c).1, Nat.lt_of_lt_of_le (h.up j c).2 hs.size⟩) fun d => ⟨Nat.le_trans (Nat.le_trans hz h.bel.size) d.1, d.2⟩)
/-- a row is laid -/
theorem ClI.grow {S : Nat → Prop} {pre : List Nat} {W w2 w3 : World} {v : Value} {g cp x : Nat} (h : ClI w base M N bt bf lv n C E o vt vf S pre W) (hx : pre ++ [x] = List.range (pre ++ [x]).length)
    (l1 : Boxed W lv 41 v) (l3 : ∀ g, v.ownBlock = some g → ¬ S g ∧ ¬ C g ∧ g ≠ lv ∧ g ≠ bt ∧ g ≠ bf) (l2 : W.ownsRow M 35 3 v pre.length (flat (clC n E o) pre.length 3)) (hM : base ≤ M ∧ base ≤ lv ∧ lv < N) (hC : ∀ j, C j → j < N ∧ j ≠ lv)
    (b2 : Below W.heap.size W w2) (hg : w2.grownBy w3 v.ownBlock) (hm : Moved w2 v g)
    (ho : w3.ownsRow M 35 3 (.slice (some ⟨g, 0, none⟩) (pre.length + 1 : Nat) cp) (pre.length + 1) (flat (clC n E o) pre.length 3 ++ [clC n E o pre.length 0, clC n E o pre.length 1, clC n E o pre.length 2]))
    (hneq : bt ≠ lv ∧ bf ≠ lv) (hlt : bt < N ∧ bf < N) (hbw : base ≤ w.heap.size) :
    KeepsFrom N W (w3.setCell ⟨lv, 0, none⟩ (.slice (some ⟨g, 0, none⟩) (pre.length + 1 : Nat) cp)) ∧ KpS S C W (w3.setCell ⟨lv, 0, none⟩ (.slice (some ⟨g, 0, none⟩) (pre.length + 1 : Nat) cp)) ∧
      ClI w base M N bt bf lv n C E o vt vf S (pre ++ [x]) (w3.setCell ⟨lv, 0, none⟩ (.slice (some ⟨g, 0, none⟩) (pre.length + 1 : Nat) cp)) := by
  have hvM : ∀ k, v.ownBlock = some k → M ≤ k ∧ k < W.heap.size := l2.lt
  have hsz := h.sz
  have s2 := b2.size
  have s3 := hg.size
  have hsame : ∀ j, j < W.heap.size → some j ≠ v.ownBlock → j ≠ lv → (w3.setCell ⟨lv, 0, none⟩ (.slice (some ⟨g, 0, none⟩) (pre.length + 1 : Nat) cp)).heap[j]? = W.heap[j]? := fun j hj h1 h2 =>
    (Below.heap_setCell _ _ _ _ h2).trans ((hg.block j (by omega) h1).trans (b2.block j hj))
  have hz : W.heap.size ≤ (w3.setCell ⟨lv, 0, none⟩ (.slice (some ⟨g, 0, none⟩) (pre.length + 1 : Nat) cp)).heap.size := by simp [World.setCell]; omega
  have kb : Below base W (w3.setCell ⟨lv, 0, none⟩ (.slice (some ⟨g, 0, none⟩) (pre.length + 1 : Nat) cp)) :=
    ((b2.mono (Nat.le_trans hbw h.bel.size)).grown hg (Nat.le_trans (Nat.le_trans hbw h.bel.size) s2) (fun k e => by have := hvM k e; omega)).setCell (p := ⟨lv, 0, none⟩) hM.2.1 _
  have hgn : ¬ S g ∧ ¬ C g ∧ g ≠ lv ∧ g ≠ bt ∧ g ≠ bf := by
    rcases hm with h1 | h1
    · exact l3 g h1
    · exact ⟨fun c => by have := (h.up g c).2; omega, fun c => by have := (hC g c).1; omega, by omega, by omega, by omega⟩
  refine ⟨⟨hz, fun k ob hk hok hcell => ?_⟩, ⟨hz, fun j hj => ?_⟩, ⟨hx, h.bel.trans kb, Nat.le_trans hsz hz, (hsame bt (by omega) (fun e => (l3 bt e.symm).2.2.2.1 rfl) hneq.1).trans h.t, (hsame bf (by omega) (fun e => (l3 bf e.symm).2.2.2.2 rfl) hneq.2).trans h.f, ⟨.slice (some ⟨g, 0, none⟩) (pre.length + 1 : Nat) cp, ?_, ?_, fun k hk => ?_⟩, h.ap, fun j hj => ⟨(h.up j hj).1, Nat.lt_of_lt_of_le (h.up j hj).2 hz⟩⟩⟩
  · have hkl := (Array.getElem?_eq_some_iff.1 hok).1
    rw [hsame k hkl (fun e => by
      rcases l2.2 with ⟨h0, _⟩ | ⟨g', cap', cur', h0, _, h2, _⟩
      · rw [h0] at e; simp [Value.ownBlock] at e
      · have e2 : k = g' := by rw [h0] at e; simpa [Value.ownBlock] using e
        subst e2
        rw [hok] at h2; cases h2; cases hcell) (by omega)]
    exact hok
  · rcases hj with hj | hj
    · exact hsame j (h.up j hj).2 (fun e => (l3 j e.symm).1 hj) (fun e => h.ap.2.2 (e ▸ hj))
    · exact hsame j (by have := (hC j hj).1; omega) (fun e => (l3 j e.symm).2.1 hj) (hC j hj).2
  · have hb3 : Boxed w3 lv 41 v := (hg.block lv (by omega) (fun e => (l3 lv e.symm).2.2.1 rfl)).trans ((b2.block lv (by omega)).trans l1)
    exact hb3.set _
  · rw [List.length_append, List.length_singleton, cl_snoc]
    exact own_same ho fun k hk => Below.heap_setCell _ _ _ _ (by
      have : g = k := by simpa [Value.ownBlock] using hk
      show k ≠ lv; omega)
  · have e : g = k := by simpa [Value.ownBlock] using hk
    subst e
    exact hgn
theorem ClI.own (S : Nat → Prop) (hN : base ≤ N) : OwnFrom N (ClI w base M N bt bf lv n C E o vt vf S) := fun pre A B row h hg hr =>
  h.on (h.bel.trans ⟨hg.os, hg.tape, hg.output, hg.size, fun j hj => hg.block j (by have := h.sz; omega) (fun e => by obtain ⟨h1, _⟩ := hr j e.symm; omega)⟩) hg.size
    (fun j cs t r hj hn => ⟨hg.block j (Array.getElem?_eq_some_iff.1 hj).1 (fun e => by
      obtain ⟨_, o', h1, h2⟩ := hr j e.symm
      rw [hj] at h1; cases h1; cases h2), hn⟩) fun j hj => ⟨(h.up j hj).1, Nat.lt_of_lt_of_le (h.up j hj).2 hg.size⟩
end
end Go.Proofs.YtpbgophogneecaaGreat

/- The walk of collect of package sweep, at rows. Conditions: the edges and the order are given as cells; the tally was made by Even. -/
namespace Go.Proofs.YtpbgophogneecaaGreat
open Go.RowKit Go.Shelf
attribute [local go_sem] Oper.semAt_some

/-- what collect answers -/
def ClR (base n : Nat) (E : List Ed) (o : List Nat) (w : World) (e : Ending) (w' : World) : Prop :=
  ∃ v, e = .returned v ∧ w'.ownsRow w.heap.size 35 3 v (o.length + 1) (flat (clC n E o) (o.length + 1) 3) ∧ Below base w w'
set_option maxRecDepth 100000 in
set_option maxHeartbeats 16000000 in
theorem collect_any (B base tb ob n : Nat) (ea : Option Addr) (ec : Nat) (A : Nat → Addr) (E : List Ed) (o : List Nat) (w : World) (G : GOk n E) (hn0 : 0 < n) (hS : ES w B (.slice ea E.length ec) E A) (hB : B ≤ base) (hbw : base ≤ w.heap.size)
    (hob : ob < base) (hoc : ∀ i, i < o.length → w.cell? ⟨ob, i, none⟩ = some (.int .i64 (o.getD i 0 : Nat))) (hoi : ∀ i, i < o.length → o.getD i 0 < E.length) (hol : o.length ≤ 16384) (hT : TalAt w base tb n id) :
    Calls Tryz.prog 48 #[.pointer (some ⟨tb, 0, none⟩), .slice ea E.length ec, .slice (some ⟨ob, 0, none⟩) o.length o.length, .func (.func 14) #[] #[]] w (ClR base n E o w) := by
  refine (callsIn_wide (n := 8)).1 ?_
  have hnm := G.n_le
  have hml := G.m_le
  have HG := Lib.hid G; have HS := Lib.hid hS; have HT := Lib.hid hT; have HOC := Lib.hid hoc; have HOI := Lib.hid hoi
  have HB0 := Lib.hid (And.intro hB (And.intro hbw hob))
  clear G hS hT hoc hoi hB hbw hob
  refine callsIn_of_wp_marks Tryz.func48 rfl trivial ?_ rfl
  simp only [Tryz.ntmps48, List.size_toArray, List.length_cons, List.length_nil, Nat.reduceAdd, Nat.reduceSub, Array.replicate_succ, Array.replicate_zero, List.push_toArray, List.append_toArray, List.nil_append, List.cons_append]
  obtain ⟨w1, hw1⟩ : ∃ x, w.alloc (.cells #[.pointer (some ⟨tb, 0, none⟩)] 47) = x := ⟨_, rfl⟩
  obtain ⟨w2, hw2⟩ : ∃ x, w1.alloc (.cells #[.func (.func 14) #[] #[]] 54) = x := ⟨_, rfl⟩
  have z1 : w1.heap.size = w.heap.size + 1 := by rw [← hw1]; simp
  have z2 : w2.heap.size = w.heap.size + 2 := by rw [← hw2]; simp [z1]
  have b1 : Below w.heap.size w w1 := by rw [← hw1]; exact (Below.refl _ _).alloc (Nat.le_refl _) _
  have b2 : Below w1.heap.size w1 w2 := by rw [← hw2]; exact (Below.refl _ _).alloc (Nat.le_refl _) _
  have t1 : Boxed w1 w.heap.size 47 (.pointer (some ⟨tb, 0, none⟩)) := by rw [← hw1]; exact Boxed.new _ _ _
  have f2 : Boxed w2 w1.heap.size 54 (.func (.func 14) #[] #[]) := by rw [← hw2]; exact Boxed.new _ _ _
  have t2 : Boxed w2 w.heap.size 47 (.pointer (some ⟨tb, 0, none⟩)) := (b2.block _ (by omega)).trans t1
  obtain ⟨ri, rz, hri, hrz, h2, h3, h4⟩ := etRw.info
  obtain ⟨w3, hmk0, hown3, hgr⟩ := run_make_own (P := Tryz.prog) w2 w2.heap.size 41 35 ri rz 3 etRw.ht hri hrz h2 .i64 .i64 (o.length + 1) (by rw [h3]; omega) (by unfold maxLen; omega) (Nat.le_refl _)
  have hmk : (Instr.makeSlice 41 (.int .i64 0) (.int .i64 ((o.length : Int) + 1))).run Tryz.prog w2 = .ok (.slice (some ⟨w2.heap.size, 0, none⟩) 0 (o.length + 1)) w3 := hmk0
  have hwl : IntKind.i64.wrap ((o.length : Int) + 1) = (o.length : Int) + 1 := IntWalk.i64_in _ (by omega)
  clear hmk0 hri hrz h2 h3 h4
  have HA := Lib.hid (And.intro z1 z2); have HA2 := Lib.hid (And.intro b1 b2); have HA3 := Lib.hid (And.intro t2 f2); have HA4 := Lib.hid (And.intro hown3 hgr)
  clear z1 z2 b1 b2 t1 t2 f2 hown3 hgr
  obtain ⟨w4, hw4⟩ : ∃ x, w3.alloc (.cells #[.slice (some ⟨w2.heap.size, 0, none⟩) 0 (o.length + 1)] 41) = x := ⟨_, rfl⟩
  have z3 : w2.heap.size < w3.heap.size := by
    rcases HA4.out.1.2 with ⟨h0, _⟩ | ⟨g', c', cur, e1, _, h3, _⟩
    · cases h0
    · cases e1; exact (Array.getElem?_eq_some_iff.1 h3).1
  have z4 : w4.heap.size = w3.heap.size + 1 := by rw [← hw4]; simp
  have b3 : ∀ j, j < w2.heap.size → w3.heap[j]? = w2.heap[j]? := fun j hj => HA4.out.2.block j hj (fun e => by cases e)
  have b4 : Below w3.heap.size w3 w4 := by rw [← hw4]; exact (Below.refl _ _).alloc (Nat.le_refl _) _
  have t4 : Boxed w4 w.heap.size 47 (.pointer (some ⟨tb, 0, none⟩)) := (b4.block _ (by have := HA.out; omega)).trans ((b3 _ (by have := HA.out; omega)).trans HA3.out.1)
  have f4 : Boxed w4 w1.heap.size 54 (.func (.func 14) #[] #[]) := (b4.block _ (by have := HA.out; omega)).trans ((b3 _ (by have := HA.out; omega)).trans HA3.out.2)
  have l4 : Boxed w4 w3.heap.size 41 (.slice (some ⟨w2.heap.size, 0, none⟩) 0 (o.length + 1)) := by rw [← hw4]; exact Boxed.new _ _ _
  have o4 : w4.ownsRow w2.heap.size 35 3 (.slice (some ⟨w2.heap.size, 0, none⟩) 0 (o.length + 1)) 0 [] := by rw [← hw4]; exact HA4.out.1.alloc _
  have bw4 : Below w.heap.size w w4 := (HA2.out.1.trans (HA2.out.2.mono (by have := HA.out; omega))).trans ((Below.grown (Below.refl w.heap.size w2) HA4.out.2 (by have := HA.out; omega) (fun j e => by cases e)).trans (b4.mono (by have := HA.out; omega)))
  have q4 := t4.cell
  have HD := Lib.hid (And.intro z3 z4); have HD2 := Lib.hid (And.intro t4 (And.intro f4 (And.intro l4 o4))); have HD3 := Lib.hid bw4
  clear z3 z4 b3 b4 t4 f4 l4 o4 bw4
  gi_wp2
  clear q4 hmk hwl hw1 hw2 hw4 HA2 HA3 HA4
  refine ⟨trivial, (callsIn_wide.2 (steps_call tb ea (some ⟨ob, 0, none⟩) E.length o.length ec o.length w4)).mono ?_⟩
  rintro e w5 ⟨rfl, hw5⟩
  gi_wp2
  obtain ⟨z1, z2⟩ := HA.out
  obtain ⟨z3, z4⟩ := HD.out
  obtain ⟨t4, f4, l4, o4⟩ := HD2.out
  obtain ⟨y1, y2, y3⟩ := HB0.out
  have b5 : Below w4.heap.size w4 w5 := by rw [← hw5]; exact (((Below.refl _ w4).alloc (Nat.le_refl _) _).alloc (by simp) _).alloc (by simp; omega) _
  have z5 : w5.heap.size = w4.heap.size + 3 := by rw [← hw5]; simp
  have t5 : Boxed w5 w4.heap.size 47 (.pointer (some ⟨tb, 0, none⟩)) := by rw [← hw5]; exact ((Boxed.new w4 _ _).alloc _).alloc _
  have e5 : Boxed w5 (w4.heap.size + 1) 22 (.slice ea E.length ec) := by
    rw [← hw5]
    have := (Boxed.new (w4.alloc (.cells #[.pointer (some ⟨tb, 0, none⟩)] 47)) 22 (.slice ea E.length ec)).alloc (.cells #[.slice (some ⟨ob, 0, none⟩) o.length o.length] 46)
    rwa [World.size_alloc] at this
  have o5 : Boxed w5 (w4.heap.size + 2) 46 (.slice (some ⟨ob, 0, none⟩) o.length o.length) := by
    rw [← hw5]
    have := Boxed.new ((w4.alloc (.cells #[.pointer (some ⟨tb, 0, none⟩)] 47)).alloc (.cells #[.slice ea E.length ec] 22)) 46 (.slice (some ⟨ob, 0, none⟩) o.length o.length)
    rwa [World.size_alloc, World.size_alloc] at this
  have bw5 : Below w.heap.size w w5 := HD3.out.trans (b5.mono (by omega))
  obtain ⟨S0, hts, hsb⟩ := HT.out.S
  have hes5 := HS.out.below (bw5.mono (Nat.le_trans y1 y2))
  have hoc5 : ∀ i, i < o.length → w5.cell? ⟨ob, i, none⟩ = some (.int .i64 (o.getD i 0 : Nat)) := fun i hi => (World.cell?_of_block (w := w) (bw5.block _ (by show ob < w.heap.size; omega))).trans (HOC.out i hi)
  have T0 : StpT B w4.heap.size (w4.heap.size + 1) (w4.heap.size + 2) ob base tb n E o ea (some ⟨ob, 0, none⟩) ec o.length A (fun i => (⟨ob, 0, none⟩ : Addr).add (i * 1)) S0 [] w5 :=
    ⟨hts.keep bw5.size (fun j hj => bw5.block j (hsb j hj).2), t5.cell, e5.cell, o5.cell, hes5,
      (Rd.addr (n := o.length) (B := ob + 1) (w := w5) (f := fun i _ => .int .i64 (o.getD i 0 : Nat)) etI (fun _ => Nat.lt_succ_self _) (fun i hi j hj => by
        obtain rfl : j = 0 := by omega
        rw [add_mk, Nat.zero_add, Nat.mul_one, Nat.add_zero]; exact hoc5 i hi)).ix,
      fun i hi => ⟨add_block _ _, by rw [add_mk, Nat.mul_one, Nat.zero_add]; exact hoc5 i hi⟩,
      fun j hj => by rcases hj with c | c | c | c | c <;> omega,
      fun j hj c => by
        have h9 := hsb j c
        rcases hj with d | d | d | d | d <;> omega,
      ⟨rfl, by simp⟩⟩
  have hv5 : ∀ g, (Value.slice (some ⟨w2.heap.size, 0, none⟩) 0 (o.length + 1)).ownBlock = some g → w5.heap[g]? = w4.heap[g]? := fun g hg => by
    have e9 : w2.heap.size = g := by simpa [Value.ownBlock] using hg
    exact b5.block g (by omega)
  have I0 : ClI w base w2.heap.size w5.heap.size w.heap.size w1.heap.size w3.heap.size n (StpK B w4.heap.size (w4.heap.size + 1) (w4.heap.size + 2) ob) E o (.pointer (some ⟨tb, 0, none⟩)) (.func (.func 14) #[] #[]) S0 [] w5 :=
    ⟨rfl, bw5.mono y2, Nat.le_refl _, (b5.block _ (by omega)).trans t4, (b5.block _ (by omega)).trans f4, ⟨_, (b5.block _ (by omega)).trans l4, own_same o4 hv5, fun g hg => by
        have e9 : w2.heap.size = g := by simpa [Value.ownBlock] using hg
        refine ⟨fun c => by have := hsb g c; omega, fun c => ?_, by omega, by omega, by omega⟩
        rcases c with d | d | d | d | d <;> omega⟩,
      ⟨fun c => by have := hsb _ c; omega, fun c => by have := hsb _ c; omega, fun c => by have := hsb _ c; omega⟩, fun j hj => by have := hsb j hj; exact ⟨by omega, by omega⟩⟩
  have HI0 := Lib.hid I0; have HT0 := Lib.hid T0
  have HC := Lib.hid (show ∀ j, StpK B w4.heap.size (w4.heap.size + 1) (w4.heap.size + 2) ob j → j < w5.heap.size ∧ j ≠ w3.heap.size from fun j hj => by rcases hj with c | c | c | c | c <;> (constructor <;> omega))
  have HN := Lib.hid (show base ≤ w2.heap.size ∧ base ≤ w3.heap.size ∧ w3.heap.size < w5.heap.size ∧ (w.heap.size ≠ w3.heap.size ∧ w1.heap.size ≠ w3.heap.size) ∧ (w.heap.size < w5.heap.size ∧ w1.heap.size < w5.heap.size) ∧ base ≤ w5.heap.size ∧ w.heap.size ≤ w2.heap.size ∧ w.heap.size ≤ w5.heap.size from ⟨by omega, by omega, by omega, ⟨by omega, by omega⟩, ⟨by omega, by omega⟩, by omega, by omega, by omega⟩)
  have HN2 := Lib.hid (show w2.heap.size ≤ w5.heap.size by omega)
  have HS0 := Lib.hid (fun j (hj : S0 j) => show j < w5.heap.size by have := hsb j hj; omega)
  clear z1 z2 z3 z4 t4 f4 l4 o4 y1 y2 y3 b5 z5 t5 e5 o5 bw5 hts hsb hes5 hoc5 T0 I0 hw5 hv5
  clear HA HD HD2 HD3 HT HOC HS
  refine rangeW (F := Fence.wide) rfl (by omega) (gf := 33) (lb := #[.pointer (some ⟨w4.heap.size + 2, 0, none⟩), .pointer (some ⟨w4.heap.size, 0, none⟩), .pointer (some ⟨w4.heap.size + 1, 0, none⟩)]) rfl trivial (enters_of Tryz.func33 (by kernel_rfl) rfl)
    (steps_stops 7 (by omega) HG.out HOI.out (by omega) S0 w5) (fun S xs W1 W2 k h => StpT.keep h k) HT0.out HS0.out (fun j hj => (HC.out j hj).1) (fun _ => rfl)
    (ClI w base w2.heap.size w5.heap.size w.heap.size w1.heap.size w3.heap.size n (StpK B w4.heap.size (w4.heap.size + 1) (w4.heap.size + 2) ob) E o (.pointer (some ⟨tb, 0, none⟩)) (.func (.func 14) #[] #[])) (fun _ _ _ => False)
    (fun S => ClI.own S HN.out.2.2.2.2.2.1) (fun _ _ _ _ _ hs _ _ => hs) (fun S S' pre A B h st => h.st HB0.out.2.1 st) HI0.out
    (fun _ x a' => a' = { tmps := #[.pointer (some ⟨tb, 0, none⟩), .slice ea E.length ec, .slice (some ⟨ob, 0, none⟩) o.length o.length, .func (.func 14) #[] #[], .pointer (some ⟨w.heap.size, 0, none⟩), undef, undef, .pointer (some ⟨w1.heap.size, 0, none⟩), .slice none 0 0, .pointer (some ⟨w3.heap.size, 0, none⟩), .slice (some ⟨ob, 0, none⟩) o.length o.length, .int .i64 (o.length : Nat), .int .i64 ((o.length : Int) + 1), .slice (some ⟨w2.heap.size, 0, none⟩) 0 (o.length + 1), .pointer (some ⟨tb, 0, none⟩), .slice ea E.length ec, .slice (some ⟨ob, 0, none⟩) o.length o.length, .func (.func 33) #[] #[.pointer (some ⟨w4.heap.size + 2, 0, none⟩), .pointer (some ⟨w4.heap.size, 0, none⟩), .pointer (some ⟨w4.heap.size + 1, 0, none⟩)], .int .i64 (x : Nat), undef, undef, undef, undef, undef, undef, undef], defers := [] }) ?assign ?body ?done ?stop
  case assign =>
    intro l S pre x W K hI hT hKK
    gi_wp2
    kernel_rfl
  case stop =>
    rintro D c pre W hD h _
    exact h.elim
  case done =>
    rintro D S xs W hD rfl hT hI hDf
    obtain ⟨v, l1, l2, l3⟩ := hI.l
    have cl := l1.cell
    have HF := Lib.hid (And.intro l2 hI.bel)
    clear hT hI l1 l2 l3
    gi_wp2
    refine ⟨by simp, .inl ⟨_, _, rfl, run_takeDeferred hDf, ?_⟩⟩
    have h9 := HF.out.1
    rw [List.length_range] at h9
    exact ⟨_, results_tmp rfl _ _ _, v, rfl, own_low (ownsRow_putObj h9 _ hDf rfl) HN.out.2.2.2.2.2.2.1, HF.out.2.trans (belowK_b (w := w) HB0.out.2.1 W D _ _ (Nat.le_trans HN.out.2.2.2.2.2.2.2 hD) hDf rfl rfl)⟩
  case body =>
    rintro l S pre x a' W hl - hSl hI rfl hT
    obtain ⟨hrg, hle⟩ := hT.rg
    have hts := hT.tal
    rw [List.length_append, List.length_singleton, Nat.add_sub_cancel] at hts
    rw [List.length_append, List.length_singleton] at hle
    have HI := Lib.hid hI; have HX := Lib.hid hrg; have HTS := Lib.hid hts
    obtain ⟨v, l1, l2, l3⟩ := HI.out.l
    obtain ⟨L, hL⟩ : ∃ L, pre.length = L := ⟨_, rfl⟩
    rw [hL] at hle
    obtain ⟨xs, hxs⟩ : ∃ xs, flat (clC n E o) L 3 = xs := ⟨_, rfl⟩
    obtain ⟨r1, hr1⟩ : ∃ r, lgN n (labO E (o.take L)) (lbL (labO E (o.take L)) n) = r := ⟨_, rfl⟩
    obtain ⟨r2, hr2⟩ : ∃ r, cntN n (labO E (o.take L)) = r := ⟨_, rfl⟩
    obtain ⟨r3, hr3⟩ : ∃ r, sqN n (labO E (o.take L)) (lbL (labO E (o.take L)) n) = r := ⟨_, rfl⟩
    have HPL := Lib.hid (plain_any (HTS.out.keep (w' := W.drew) (Nat.le_refl _) (fun _ _ => rfl)).at hn0 hnm (labO_ok E (o.take pre.length)))
    unfold RowRes at HPL
    rw [hL, hr1, hr2, hr3] at HPL
    have l2' := l2
    rw [hL, hxs] at l2'
    have hWz := HI.out.sz
    have HP := Lib.hid (fun (wz : World) (b2 : Below W.heap.size W wz) => show (wz.cell? ⟨w.heap.size, 0, none⟩ = some (.pointer (some ⟨tb, 0, none⟩)) ∧ wz.cell? ⟨w1.heap.size, 0, none⟩ = some (.func (.func 14) #[] #[])) ∧ wz.cell? ⟨w3.heap.size, 0, none⟩ = some v ∧ wz.ownsRow w2.heap.size 35 3 v L xs ∧ w2.heap.size ≤ wz.heap.size from
      ⟨⟨(World.cell?_of_block (w := W) (b2.block _ (boxed_lt HI.out.t))).trans HI.out.t.cell, (World.cell?_of_block (w := W) (b2.block _ (boxed_lt HI.out.f))).trans HI.out.f.cell⟩, (World.cell?_of_block (w := W) (b2.block _ (boxed_lt l1))).trans l1.cell, own_same l2' (fun g hg => b2.block g (l2'.lt g hg).2), Nat.le_trans (Nat.le_trans HN2.out HI.out.sz) b2.size⟩)
    have FIN : ∀ (g cp : Nat) (wz w9 : World), Below W.heap.size W wz → w9.ownsRow w2.heap.size 35 3 (.slice (some ⟨g, 0, none⟩) (L + 1 : Nat) cp) (L + 1) (xs ++ [.int .i64 (r1 : Nat), .int .i64 (r2 : Nat), .int .i64 (r3 : Nat)]) → wz.grownBy w9 v.ownBlock → Moved wz v g →
        (w9.cell? ⟨w.heap.size, 0, none⟩ = some (.pointer (some ⟨tb, 0, none⟩)) ∧ w9.cell? ⟨w1.heap.size, 0, none⟩ = some (.func (.func 14) #[] #[])) ∧ w9.cell? ⟨w3.heap.size, 0, none⟩ = some v ∧ w9.frozen? ⟨w3.heap.size, 0, none⟩ = false ∧
        ((w9.setCell ⟨w3.heap.size, 0, none⟩ (.slice (some ⟨g, 0, none⟩) (L + 1 : Nat) cp)).cell? ⟨w.heap.size, 0, none⟩ = some (.pointer (some ⟨tb, 0, none⟩)) ∧ (w9.setCell ⟨w3.heap.size, 0, none⟩ (.slice (some ⟨g, 0, none⟩) (L + 1 : Nat) cp)).cell? ⟨w1.heap.size, 0, none⟩ = some (.func (.func 14) #[] #[])) ∧ KeepsFrom w5.heap.size W (w9.setCell ⟨w3.heap.size, 0, none⟩ (.slice (some ⟨g, 0, none⟩) (L + 1 : Nat) cp)) ∧ KpS S (StpK B w4.heap.size (w4.heap.size + 1) (w4.heap.size + 2) ob) W (w9.setCell ⟨w3.heap.size, 0, none⟩ (.slice (some ⟨g, 0, none⟩) (L + 1 : Nat) cp)) ∧
        ClI w base w2.heap.size w5.heap.size w.heap.size w1.heap.size w3.heap.size n (StpK B w4.heap.size (w4.heap.size + 1) (w4.heap.size + 2) ob) E o (.pointer (some ⟨tb, 0, none⟩)) (.func (.func 14) #[] #[]) S (pre ++ [x]) (w9.setCell ⟨w3.heap.size, 0, none⟩ (.slice (some ⟨g, 0, none⟩) (L + 1 : Nat) cp)) := by
      intro g cp wz w9 b2 h1 h2 h3
      have hne : ∀ q, (∀ g, v.ownBlock = some g → g ≠ q) → ¬ some q = v.ownBlock := fun q hq e => hq q e.symm rfl
      have k6 : Boxed w9 w3.heap.size 41 v := (h2.block _ (Nat.lt_of_lt_of_le (boxed_lt l1) b2.size) (hne _ fun g hg => (l3 g hg).2.2.1)).trans ((b2.block _ (boxed_lt l1)).trans l1)
      have k3 : Boxed w9 w.heap.size 47 (.pointer (some ⟨tb, 0, none⟩)) := (h2.block _ (Nat.lt_of_lt_of_le (boxed_lt HI.out.t) b2.size) (hne _ fun g hg => (l3 g hg).2.2.2.1)).trans ((b2.block _ (boxed_lt HI.out.t)).trans HI.out.t)
      have k2 : Boxed w9 w1.heap.size 54 (.func (.func 14) #[] #[]) := (h2.block _ (Nat.lt_of_lt_of_le (boxed_lt HI.out.f) b2.size) (hne _ fun g hg => (l3 g hg).2.2.2.2)).trans ((b2.block _ (boxed_lt HI.out.f)).trans HI.out.f)
      have e0 : clC n E o pre.length 0 = .int .i64 (r1 : Nat) := by rw [hL]; unfold clC; rw [if_pos rfl, hr1]
      have e1 : clC n E o pre.length 1 = .int .i64 (r2 : Nat) := by rw [hL]; unfold clC; rw [if_neg (by decide), if_pos rfl, hr2]
      have e2 : clC n E o pre.length 2 = .int .i64 (r3 : Nat) := by rw [hL]; unfold clC; rw [if_neg (by decide), if_neg (by decide), hr3]
      have G := ClI.grow (x := x) (cp := cp) HI.out HX.out l1 l3 l2 ⟨HN.out.1, HN.out.2.1, HN.out.2.2.1⟩ HC.out b2 h2 h3 (by rw [e0, e1, e2, hL, hxs]; exact h1) HN.out.2.2.2.1 HN.out.2.2.2.2.1 HB0.out.2.1
      rw [hL] at G
      exact ⟨⟨k3.cell, k2.cell⟩, k6.cell, k6.frozen, ⟨(World.cell?_of_block (w := w9) (Below.heap_setCell _ _ _ _ HN.out.2.2.2.1.1)).trans k3.cell, (World.cell?_of_block (w := w9) (Below.heap_setCell _ _ _ _ HN.out.2.2.2.1.2)).trans k2.cell⟩, G⟩
    have FIN := Lib.hid FIN
    have hLB : (L + 1) * 24 ≤ 140737488355328 := by omega
    have hen : ∀ (v : Value) (w : World), (callFunc 14 #[v]).run Tryz.prog w = .ok (.enter 14 #[v]) w := fun v w => callFunc_go Tryz.func14 (by kernel_rfl) (by kernel_rfl) #[v] w
    clear l1 l2 l3 hL hxs hr1 hr2 hr3 l2' hWz hT hI hrg hts
    gi_wp2
    have HS := (HP.out W.drew (Below.refl _ W).drew).1
    have cl := (HP.out W.drew (Below.refl _ W).drew).2.1
    refine region_round (fun w' => w'.cell? ⟨w.heap.size, 0, none⟩ = some (.pointer (some ⟨tb, 0, none⟩)) ∧ w'.cell? ⟨w1.heap.size, 0, none⟩ = some (.func (.func 14) #[] #[])) (by kernel_rfl) (by kernel_rfl) ?_
    refine take_at (i := 1) (d := 20) (v := ?_) rfl rfl (by kernel_rfl) (by kernel_rfl) (by kernel_rfl) (fun _ _ _ _ => NormalOnly.any) rfl ?hy1 HS ?rest1
    case hy1 => intro w' hSw; (try dsimp only at hSw); go_simp; try (with_reducible rfl)
    try simp only [List.setIfInBounds_toArray, List.set_cons_zero, List.set_cons_succ]
    refine take_at (i := 2) (d := 21) (v := ?_) rfl rfl (by kernel_rfl) (by kernel_rfl) (by kernel_rfl) (fun _ _ _ _ => NormalOnly.any) rfl ?hy2 HS ?rest2
    case hy2 => intro w' hSw; (try dsimp only at hSw); go_simp; try (with_reducible rfl)
    try simp only [List.setIfInBounds_toArray, List.set_cons_zero, List.set_cons_succ]
    refine wpAnyH_ready (rs := [0, 3]) (by kernel_rfl) (by simp) ?_
    refine AllReadyH.cons rfl (fun K hK => ?_) (AllReadyH.cons rfl (fun K hK => ?_) AllReadyH.nil)
    · go_simp
      refine hK.out _ _ HS (fun _ => ?_)
      clear hK
      refine wpAnyH_ready (rs := [3]) (by kernel_rfl) (by simp) ?_
      refine AllReadyH.cons rfl (fun K hK => ?_) AllReadyH.nil
      go_simp
      refine HPL.out.mono ?_
      rintro e wz ⟨rfl, b20⟩
      have b2 : Below W.heap.size W wz := ((Below.refl _ W).drew).trans b20
      have b3 : Below W.heap.size W (wz.alloc (.cells #[.int .i64 (r1 : Nat), .int .i64 (r2 : Nat), .int .i64 (r3 : Nat)] 35)) := b2.alloc b2.size _
      obtain ⟨HS, cl2, ow2, hsz⟩ := HP.out wz b2
      obtain ⟨HS3, cl3, _, _⟩ := HP.out _ b3
      clear b20 b3
      refine hK.out _ _ HS (fun _ => ?_)
      clear hK
      refine wpAnyH_ready (rs := [4]) (by kernel_rfl) (by simp) ?_
      refine AllReadyH.cons rfl (fun K hK => ?_) AllReadyH.nil
      go_simp
      refine hK.out _ _ HS3 (fun _ => ?_)
      clear hK
      refine wpAnyH_ready (rs := [5]) (by kernel_rfl) (by simp) ?_
      refine AllReadyH.cons rfl (fun K hK => ?_) AllReadyH.nil
      refine step_pushM (w0 := wz) rfl etRw rfl _ _ rfl w2.heap.size v L xs ow2 rfl #[.int .i64 (r1 : Nat), .int .i64 (r2 : Nat), .int .i64 (r3 : Nat)] wz.heap.size rfl rfl rfl (by simp [Value.oneCell']) (by omega) (by omega) hsz ?_
      intro ga cpa w9 hown hgr hmv
      obtain ⟨HS, c5, f5, HS6, FK⟩ := FIN.out ga cpa wz w9 b2 hown hgr hmv
      have FK := Lib.hid FK
      clear hown hgr hmv FIN HS3 cl2 cl3 ow2
      simp only [Act.put, List.setIfInBounds_toArray]
      refine hK.out _ _ HS (fun _ => ?_)
      clear hK
      refine wpAnyH_ready (rs := [6]) (by kernel_rfl) (by simp) ?_
      refine AllReadyH.cons rfl (fun K hK => ?_) AllReadyH.nil
      go_simp
      refine hK.out _ _ HS6 (fun _ => ?_)
      clear hK
      refine wpAnyH_done (by kernel_rfl) ⟨rfl, ?_⟩ _
      clear HS HS6 c5 f5
      gi_wp2
      exact FK.out
    · go_simp
      refine HPL.out.mono ?_
      rintro e wz ⟨rfl, b20⟩
      have b2 : Below W.heap.size W wz := ((Below.refl _ W).drew).trans b20
      have b3 : Below W.heap.size W (wz.alloc (.cells #[.int .i64 (r1 : Nat), .int .i64 (r2 : Nat), .int .i64 (r3 : Nat)] 35)) := b2.alloc b2.size _
      obtain ⟨HS, cl2, ow2, hsz⟩ := HP.out wz b2
      obtain ⟨HS3, cl3, _, _⟩ := HP.out _ b3
      clear b20 b3
      refine hK.out _ _ HS (fun _ => ?_)
      clear hK
      refine wpAnyH_ready (rs := [0, 4]) (by kernel_rfl) (by simp) ?_
      refine AllReadyH.cons rfl (fun K hK => ?_) (AllReadyH.cons rfl (fun K hK => ?_) AllReadyH.nil)
      · go_simp
        refine hK.out _ _ HS (fun _ => ?_)
        clear hK
        refine wpAnyH_ready (rs := [4]) (by kernel_rfl) (by simp) ?_
        refine AllReadyH.cons rfl (fun K hK => ?_) AllReadyH.nil
        go_simp
        refine hK.out _ _ HS3 (fun _ => ?_)
        clear hK
        refine wpAnyH_ready (rs := [5]) (by kernel_rfl) (by simp) ?_
        refine AllReadyH.cons rfl (fun K hK => ?_) AllReadyH.nil
        refine step_pushM (w0 := wz) rfl etRw rfl _ _ rfl w2.heap.size v L xs ow2 rfl #[.int .i64 (r1 : Nat), .int .i64 (r2 : Nat), .int .i64 (r3 : Nat)] wz.heap.size rfl rfl rfl (by simp [Value.oneCell']) (by omega) (by omega) hsz ?_
        intro ga cpa w9 hown hgr hmv
        obtain ⟨HS, c5, f5, HS6, FK⟩ := FIN.out ga cpa wz w9 b2 hown hgr hmv
        have FK := Lib.hid FK
        clear hown hgr hmv FIN HS3 cl2 cl3 ow2
        simp only [Act.put, List.setIfInBounds_toArray]
        refine hK.out _ _ HS (fun _ => ?_)
        clear hK
        refine wpAnyH_ready (rs := [6]) (by kernel_rfl) (by simp) ?_
        refine AllReadyH.cons rfl (fun K hK => ?_) AllReadyH.nil
        go_simp
        refine hK.out _ _ HS6 (fun _ => ?_)
        clear hK
        refine wpAnyH_done (by kernel_rfl) ⟨rfl, ?_⟩ _
        clear HS HS6 c5 f5
        gi_wp2
        exact FK.out
      · go_simp
        refine hK.out _ _ HS3 (fun _ => ?_)
        clear hK
        refine wpAnyH_ready (rs := [0]) (by kernel_rfl) (by simp) ?_
        refine AllReadyH.cons rfl (fun K hK => ?_) AllReadyH.nil
        go_simp
        refine hK.out _ _ HS3 (fun _ => ?_)
        clear hK
        refine wpAnyH_ready (rs := [5]) (by kernel_rfl) (by simp) ?_
        refine AllReadyH.cons rfl (fun K hK => ?_) AllReadyH.nil
        refine step_pushM (w0 := wz) rfl etRw rfl _ _ rfl w2.heap.size v L xs ow2 rfl #[.int .i64 (r1 : Nat), .int .i64 (r2 : Nat), .int .i64 (r3 : Nat)] wz.heap.size rfl rfl rfl (by simp [Value.oneCell']) (by omega) (by omega) hsz ?_
        intro ga cpa w9 hown hgr hmv
        obtain ⟨HS, c5, f5, HS6, FK⟩ := FIN.out ga cpa wz w9 b2 hown hgr hmv
        have FK := Lib.hid FK
        clear hown hgr hmv FIN HS3 cl2 cl3 ow2
        simp only [Act.put, List.setIfInBounds_toArray]
        refine hK.out _ _ HS (fun _ => ?_)
        clear hK
        refine wpAnyH_ready (rs := [6]) (by kernel_rfl) (by simp) ?_
        refine AllReadyH.cons rfl (fun K hK => ?_) AllReadyH.nil
        go_simp
        refine hK.out _ _ HS6 (fun _ => ?_)
        clear hK
        refine wpAnyH_done (by kernel_rfl) ⟨rfl, ?_⟩ _
        clear HS HS6 c5 f5
        gi_wp2
        exact FK.out
end Go.Proofs.YtpbgophogneecaaGreat
