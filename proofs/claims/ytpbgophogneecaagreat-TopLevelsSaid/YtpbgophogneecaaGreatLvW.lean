/- The walk of Levels of package sweep. Conditions: the edges are given as cells. -/
import Derived.Test.YtpbgophogneecaaGreatStq
import Derived.Test.YtpbgophogneecaaGreatSortF
import Derived.Test.YtpbgophogneecaaGreatTwB
import Derived.Test.YtpbgophogneecaaGreatMe
import Derived.Test.YtpbgophogneecaaGreatLvP
namespace Go.Proofs.YtpbgophogneecaaGreat
open Go.RowKit Go.Shelf
attribute [local go_sem] Oper.semAt_some

section
variable {P : Program} {ops : Array Oper} {md : Region.Mode}
/-- an operation that its guard bars is passed over; its slot is given -/
theorem skip_lv {Q : Exit → Act → World → Prop} {S : World → Prop} {i d : Nat} {oi : Oper} {fuel : Nat} {listed : Array Bool} {tmps : Array Value} {ds : List Deferred} {w : World} (hi : ops[i]? = some oi) (hd : oi.dst = some d)
    (hs : Region.noSelect ops = true) (hf : Region.free md ops listed i = true) (hr : (Region.ready md ops listed).contains i = true)
    (hQ : ∀ c a a' w, Q (.panic c) a w → Q (.panic c) a' w) (hw : Region.wanted oi (yielded ops tmps) = false) (hS : S w)
    (h : wpAnyH P md ops Q S fuel (listed.setIfInBounds i true) { tmps := tmps.setIfInBounds d undef, defers := ds } w) : wpAnyH P md ops Q S (fuel + 1) listed { tmps := tmps, defers := ds } w :=
  wpAnyH_take hi hs hf hr (fun c a w => hQ c _ _ w) (.inr ⟨hw, rfl⟩) hS (by rw [hd]; exact h)
end
/-- what Levels answers -/
def LevR (n : Nat) (E : List Ed) (w : World) (e : Ending) (w' : World) : Prop :=
  ∃ (o : List Nat) (v : Value), OrdOf E o ∧ e = .returned (.tuple #[v, .int .i64 0]) ∧ w'.ownsRow w.heap.size 38 4 v (lvK E o (o.length + 1)).length (flat (lvC n E o (lvK E o (o.length + 1))) (lvK E o (o.length + 1)).length 4) ∧ Below w.heap.size w w'
set_option maxRecDepth 100000 in
set_option maxHeartbeats 16000000 in
theorem levels_any (B : Nat) (a : Option Addr) (cap n : Nat) (A : Nat → Addr) (E : List Ed) (w : World) (G : GOk n E) (hS : ES w B (.slice a E.length cap) E A) (hB : B ≤ w.heap.size) :
    Calls Tryz.prog 5 #[.int .i64 (n : Nat), .slice a E.length cap] w (LevR n E w) := by
  refine (callsIn_wide (n := 8)).1 ?_
  have HS := Lib.hid hS
  have hnm := G.n_le
  have hml := G.m_le
  have HG := Lib.hid G
  clear hS G
  refine callsIn_of_wp_marks Tryz.func5 rfl trivial ?_ rfl
  simp only [Tryz.ntmps5, List.size_toArray, List.length_cons, List.length_nil, Nat.reduceAdd, Nat.reduceSub, Array.replicate_succ, Array.replicate_zero, List.push_toArray, List.append_toArray, List.nil_append, List.cons_append]
  have hB1 : Below w.heap.size w (w.alloc (.cells #[.slice a E.length cap] 22)) := (Below.refl _ w).alloc (Nat.le_refl _) _
  have hS1 := HS.out.below (hB1.mono hB)
  have hbx := Boxed.new w 22 (.slice a E.length cap)
  have cbx := hbx.cell
  have HBx := Lib.hid hbx; have HB1 := Lib.hid hB1; have HS1 := Lib.hid hS1
  have hs1 : (w.alloc (.cells #[.slice a E.length cap] 22)).heap.size = w.heap.size + 1 := by simp
  have HZ1 := Lib.hid hs1
  clear hB1 hS1 hbx hs1
  gi_wp2
  generalize w.alloc (.cells #[.slice a E.length cap] 22) = w1 at *
  clear cbx
  refine ⟨trivial, (callsIn_wide.2 (gnew_any B a cap A (n : Nat) E w1 HS1.out (by have := HZ1.out; omega) (by omega))).mono ?_⟩
  rintro e w2 ⟨b2, ⟨h0, _⟩ | ⟨gb, k, hk, _, rfl, _⟩⟩
  · exact absurd (gErr_ok HG.out) h0
  have HB2 := Lib.hid (HB1.out.trans (b2.mono HB1.out.size))
  have hbx2 : Boxed w2 w.heap.size 22 (.slice a E.length cap) := (b2.block _ (by have := HZ1.out; omega)).trans HBx.out
  have HBx2 := Lib.hid hbx2
  have HZ2 := Lib.hid (show w.heap.size < w2.heap.size by have := HZ1.out; have := b2.size; omega)
  clear hk b2 hbx2 HB1 HBx HZ1 HS1
  gi_wp2
  refine ⟨trivial, (callsIn_wide.2 (even_any n w2 hnm)).mono ?_⟩
  rintro e w3 ⟨tb, rfl, ht, b3⟩
  have HT3 := Lib.hid ht
  have HB3 := Lib.hid (HB2.out.trans (b3.mono HB2.out.size))
  have hbx3 : Boxed w3 w.heap.size 22 (.slice a E.length cap) := (b3.block _ HZ2.out).trans HBx2.out
  have hZ3 : w.heap.size < w3.heap.size := Nat.lt_of_lt_of_le HZ2.out b3.size
  have hb4 : Below w3.heap.size w3 (w3.alloc (.cells #[.pointer (some ⟨tb, 0, none⟩)] 47)) := (Below.refl _ w3).alloc (Nat.le_refl _) _
  have hbt4 := Boxed.new w3 47 (.pointer (some ⟨tb, 0, none⟩))
  have hz4 : (w3.alloc (.cells #[.pointer (some ⟨tb, 0, none⟩)] 47)).heap.size = w3.heap.size + 1 := by simp
  have hbx4 : Boxed (w3.alloc (.cells #[.pointer (some ⟨tb, 0, none⟩)] 47)) w.heap.size 22 (.slice a E.length cap) := (hb4.block _ hZ3).trans hbx3
  have cbx := hbx3.cell
  have cbx4 := hbx4.cell
  have HZ3 := Lib.hid (And.intro HZ2.out (And.intro b3.size (And.intro hZ3 hz4)))
  have HX4 := Lib.hid (And.intro hbx4 hbt4)
  have HB4 := Lib.hid hb4
  clear b3 ht hbx3 hZ3 hb4 hbt4 hz4 hbx4 HB2 HBx2 HZ2
  gi_wp2
  obtain ⟨w4, hw4⟩ : ∃ x, w3.alloc (.cells #[.pointer (some ⟨tb, 0, none⟩)] 47) = x := ⟨_, rfl⟩
  rw [hw4] at HX4 HB4 HZ3 cbx4 ⊢
  clear hw4 cbx cbx4
  have HB34 := Lib.hid (HB3.out.trans (HB4.out.mono (by have := HZ3.out; omega)))
  have HE4 := Lib.hid (HS.out.below (HB34.out.mono hB))
  refine ⟨trivial, (callsIn_wide.2 (order_any B E a cap A w4 HE4.out (Nat.le_trans hB HB34.out.size) (by omega))).mono ?_⟩
  rintro e w5 ⟨o, ob, hoo, rfl, hob, hor, b5⟩
  have HO := Lib.hid hoo
  obtain ⟨m, hm⟩ : ∃ m, E.length = m := ⟨_, rfl⟩
  have Hm := Lib.hid hm
  -- the three further boxes
  have hz5 : w4.heap.size ≤ w5.heap.size := b5.size
  have hbx5 : Boxed w5 w.heap.size 22 (.slice a E.length cap) := (b5.block _ (by have := HZ3.out; omega)).trans HX4.out.1
  have hbt5 : Boxed w5 w3.heap.size 47 (.pointer (some ⟨tb, 0, none⟩)) := (b5.block _ (by have := HZ3.out; omega)).trans HX4.out.2
  obtain ⟨w6, hw6⟩ : ∃ x, w5.alloc (.cells #[.slice (some ⟨ob, 0, none⟩) E.length E.length] 46) = x := ⟨_, rfl⟩
  have b6 : Below w5.heap.size w5 w6 := by rw [← hw6]; exact (Below.refl _ _).alloc (Nat.le_refl _) _
  have hbo6 : Boxed w6 w5.heap.size 46 (.slice (some ⟨ob, 0, none⟩) E.length E.length) := by rw [← hw6]; exact Boxed.new _ _ _
  have hz6 : w6.heap.size = w5.heap.size + 1 := by rw [← hw6]; simp
  obtain ⟨w7, hw7⟩ : ∃ x, w6.alloc (.cells #[.slice none 0 0] 24) = x := ⟨_, rfl⟩
  have b7 : Below w6.heap.size w6 w7 := by rw [← hw7]; exact (Below.refl _ _).alloc (Nat.le_refl _) _
  have hbl7 : Boxed w7 w6.heap.size 24 (.slice none 0 0) := by rw [← hw7]; exact Boxed.new _ _ _
  have hz7 : w7.heap.size = w5.heap.size + 2 := by rw [← hw7]; simp [hz6]
  have hbx7 : Boxed w7 w.heap.size 22 (.slice a E.length cap) := (b7.block _ (by have := HZ3.out; omega)).trans ((b6.block _ (by have := HZ3.out; omega)).trans hbx5)
  have hbt7 : Boxed w7 w3.heap.size 47 (.pointer (some ⟨tb, 0, none⟩)) := (b7.block _ (by have := HZ3.out; omega)).trans ((b6.block _ (by have := HZ3.out; omega)).trans hbt5)
  have hbo7 : Boxed w7 w5.heap.size 46 (.slice (some ⟨ob, 0, none⟩) E.length E.length) := (b7.block _ (by omega)).trans hbo6
  have q1 := hbx7.cell
  have q2 := hbt7.cell
  have q3 := hbo7.cell
  have HZ7 := Lib.hid (And.intro hz5 (And.intro hz6 hz7))
  have HX7 := Lib.hid (And.intro hbx7 (And.intro hbt7 (And.intro hbo7 hbl7)))
  have HR := Lib.hid (And.intro hob hor)
  have HBl := Lib.hid (And.intro b5 (And.intro b6 b7))
  clear b5 b6 b7 hz5 hz6 hz7 hbx5 hbt5 hbo6 hbl7 hbx7 hbt7 hbo7 hob hor hoo HE4 hm
  gi_wp2
  refine ⟨trivial, (callsIn_wide.2 (steps_call tb a (some ⟨ob, 0, none⟩) E.length E.length cap E.length w7)).mono ?_⟩
  rintro e w8 ⟨rfl, hw8⟩
  clear q1 q2 q3 hw6 hw7
  gi_wp2
  obtain ⟨z5, z6, z7⟩ := HZ7.out
  obtain ⟨y1, y2, y3, y4⟩ := HZ3.out
  obtain ⟨b5, b6, b7⟩ := HBl.out
  obtain ⟨x1, x2, x3, x4⟩ := HX7.out
  have b8 : Below w7.heap.size w7 w8 := by rw [← hw8]; exact (((Below.refl _ w7).alloc (Nat.le_refl _) _).alloc (by simp) _).alloc (by simp; omega) _
  have z8 : w8.heap.size = w7.heap.size + 3 := by rw [← hw8]; simp
  have t8 : Boxed w8 w7.heap.size 47 (.pointer (some ⟨tb, 0, none⟩)) := by rw [← hw8]; exact ((Boxed.new w7 _ _).alloc _).alloc _
  have e8 : Boxed w8 (w7.heap.size + 1) 22 (.slice a E.length cap) := by
    rw [← hw8]
    have := (Boxed.new (w7.alloc (.cells #[.pointer (some ⟨tb, 0, none⟩)] 47)) 22 (.slice a E.length cap)).alloc (.cells #[.slice (some ⟨ob, 0, none⟩) E.length E.length] 46)
    rwa [World.size_alloc] at this
  have o8 : Boxed w8 (w7.heap.size + 2) 46 (.slice (some ⟨ob, 0, none⟩) E.length E.length) := by
    rw [← hw8]
    have := Boxed.new ((w7.alloc (.cells #[.pointer (some ⟨tb, 0, none⟩)] 47)).alloc (.cells #[.slice a E.length cap] 22)) 46 (.slice (some ⟨ob, 0, none⟩) E.length E.length)
    rwa [World.size_alloc, World.size_alloc] at this
  have b58 : Below w5.heap.size w5 w8 := b6.trans ((b7.mono (by omega)).trans (b8.mono (by omega)))
  have b38 : Below w3.heap.size w3 w8 := HB4.out.trans ((b5.mono (by omega)).trans (b58.mono (by omega)))
  have bw8 : Below w.heap.size w w8 := HB3.out.trans (b38.mono (by omega))
  have hol : o.length = E.length := HO.out.len
  obtain ⟨S0, hts, hsb⟩ := HT3.out.S
  have hR8 := HR.out.2.below b58 HR.out.2.lt
  have hob5 := HR.out.2.lt
  have hes8 := HS.out.below (bw8.mono hB)
  have T0 : StpT B w7.heap.size (w7.heap.size + 1) (w7.heap.size + 2) ob w2.heap.size tb n E o a (some ⟨ob, 0, none⟩) cap o.length A (fun i => (⟨ob, 0, none⟩ : Addr).add (i * 1)) S0 [] w8 :=
    ⟨hts.keep b38.size (fun j hj => b38.block j (hsb j hj).2), t8.cell, e8.cell, by rw [hol]; exact o8.cell, hes8,
      (Rd.addr (n := o.length) (B := ob + 1) (w := w8) (f := fun i _ => .int .i64 (o.getD i 0 : Nat)) etI (fun _ => Nat.lt_succ_self _) (fun i hi j hj => by
        obtain rfl : j = 0 := by omega
        rw [add_mk, Nat.zero_add, Nat.mul_one, Nat.add_zero]; exact hR8.cell (by omega))).ix,
      fun i hi => ⟨add_block _ _, by rw [add_mk, Nat.mul_one, Nat.zero_add]; exact hR8.cell (by omega)⟩,
      fun j hj => by
        have := HR.out.1
        rcases hj with c | c | c | c | c <;> omega,
      fun j hj c => by
        have h9 := hsb j c
        have := HR.out.1
        rcases hj with d | d | d | d | d <;> omega,
      ⟨rfl, by simp⟩⟩
  have I0 : LvI w w8.heap.size w.heap.size w3.heap.size w5.heap.size w6.heap.size n E o (.slice a E.length cap) (.pointer (some ⟨tb, 0, none⟩)) (.slice (some ⟨ob, 0, none⟩) E.length E.length) S0 [] w8 :=
    ⟨rfl, bw8, Nat.le_refl _, (b8.block _ (by omega)).trans x1, (b8.block _ (by omega)).trans x2, (b8.block _ (by omega)).trans x3, ⟨.slice none 0 0, (b8.block _ (by omega)).trans x4, World.ownsRow_nil _ _ _ _, fun g hg => by simp [Value.ownBlock] at hg⟩,
      ⟨fun c => by have := hsb _ c; omega, fun c => by have := hsb _ c; omega, fun c => by have := hsb _ c; omega, fun c => by have := hsb _ c; omega⟩, fun j hj => by have := hsb j hj; exact ⟨by omega, by omega⟩⟩
  have hoi : ∀ i, i < o.length → o.getD i 0 < E.length := fun i hi => by
    have h1 : o[i] ∈ o := List.getElem_mem hi
    have h2 := List.mem_range.1 (HO.out.perm.mem_iff.1 h1)
    rwa [List.getD_eq_getElem?_getD, List.getElem?_eq_getElem hi]
  have HI0 := Lib.hid I0; have HT0 := Lib.hid T0; have HOL := Lib.hid hol
  have HC := Lib.hid (show ∀ j, StpK B w7.heap.size (w7.heap.size + 1) (w7.heap.size + 2) ob j → j < w8.heap.size from T0.lt)
  have HN8 := Lib.hid (show w.heap.size ≤ w8.heap.size by omega)
  have HQ := Lib.hid (show ¬ StpK B w7.heap.size (w7.heap.size + 1) (w7.heap.size + 2) ob w6.heap.size ∧ w6.heap.size < w8.heap.size ∧ w.heap.size ≤ w6.heap.size from ⟨fun c => by
    rcases c with d | d | d | d | d <;> omega, by omega, by omega⟩)
  have HQ2 := Lib.hid (show (w.heap.size ≠ w6.heap.size ∧ w3.heap.size ≠ w6.heap.size ∧ w5.heap.size ≠ w6.heap.size) ∧ w.heap.size < w8.heap.size ∧ w3.heap.size < w8.heap.size ∧ w5.heap.size < w8.heap.size from ⟨⟨by omega, by omega, by omega⟩, by omega, by omega, by omega⟩)
  have HS0 := Lib.hid (fun j (hj : S0 j) => show j < w8.heap.size by have := hsb j hj; omega)
  have HOI := Lib.hid hoi
  clear z5 z6 z7 y1 y2 y3 y4 b5 b6 b7 x1 x2 x3 x4 b8 z8 t8 e8 o8 b58 b38 bw8 hol hts hsb hR8 hob5 hes8 T0 I0 hoi hw8
  clear HX4 HB4 HZ3 HB34 HB3 HT3 HZ7 HX7 HR HBl
  refine rangeW (F := Fence.wide) rfl (by omega) (gf := 33) (lb := #[.pointer (some ⟨w7.heap.size + 2, 0, none⟩), .pointer (some ⟨w7.heap.size, 0, none⟩), .pointer (some ⟨w7.heap.size + 1, 0, none⟩)]) rfl trivial (enters_of Tryz.func33 (by kernel_rfl) rfl)
    (steps_stops 7 (by omega) HG.out HOI.out (by have := HOL.out; omega) S0 w8) (fun S xs W1 W2 k h => StpT.keep h k) HT0.out HS0.out HC.out (fun _ => rfl)
    (LvI w w8.heap.size w.heap.size w3.heap.size w5.heap.size w6.heap.size n E o (.slice a E.length cap) (.pointer (some ⟨tb, 0, none⟩)) (.slice (some ⟨ob, 0, none⟩) E.length E.length)) (fun _ _ _ => False)
    (fun S => LvI.own S HN8.out) (fun _ _ _ _ _ hs _ _ => hs) (fun S S' pre W1 W2 h st => h.st st) HI0.out
    (fun _ x a' => a' = { tmps := #[.int .i64 (n : Nat), .slice a E.length cap, undef, .pointer (some ⟨w.heap.size, 0, none⟩), .slice none 0 0, .int .i64 0, .pointer (some ⟨gb, 0, none⟩), .int .i64 0, .pointer (some ⟨w3.heap.size, 0, none⟩), .int .i64 0, .pointer (some ⟨w5.heap.size, 0, none⟩), .pointer (some ⟨w6.heap.size, 0, none⟩), .int .i64 (x : Nat), undef, .tuple #[.pointer (some ⟨gb, 0, none⟩), .int .i64 0], .int .i64 (n : Nat), .slice a E.length cap, .tuple #[.pointer (some ⟨gb, 0, none⟩), .int .i64 0], .pointer (some ⟨gb, 0, none⟩), .int .i64 0, .int .i64 0, .bool false, undef, .tuple #[.pointer (some ⟨tb, 0, none⟩), .int .i64 0], .int .i64 (n : Nat), .tuple #[.pointer (some ⟨tb, 0, none⟩), .int .i64 0], .pointer (some ⟨tb, 0, none⟩), .int .i64 0, .int .i64 0, .bool false, undef, .slice a E.length cap, .slice (some ⟨ob, 0, none⟩) E.length E.length, .pointer (some ⟨tb, 0, none⟩), .slice a E.length cap, .slice (some ⟨ob, 0, none⟩) E.length E.length, .func (.func 33) #[] #[.pointer (some ⟨w7.heap.size + 2, 0, none⟩), .pointer (some ⟨w7.heap.size, 0, none⟩), .pointer (some ⟨w7.heap.size + 1, 0, none⟩)], .int .i64 (x : Nat), undef, undef, undef, undef, undef, undef, undef, undef, undef, undef, undef, undef, undef, undef, undef, undef, undef, undef, undef, undef, undef, undef, undef, undef, undef, undef, undef, undef, undef, undef, undef, undef, undef, undef, undef], defers := [] }) ?assign ?body ?done ?stop
  case assign =>
    intro l S pre x W K hI hT hKK
    gi_wp2
    rfl
  case stop =>
    rintro D c pre W hD h _
    exact h.elim
  case done =>
    rintro D S xs W hD rfl hT hI hDf
    obtain ⟨v, l1, l2, l3⟩ := hI.l
    have cl := l1.cell
    have HF := Lib.hid (And.intro l2 hI.bel)
    clear hT hI l1 l2 l3
    gi_wp2
    refine ⟨by simp, .inl ⟨_, _, rfl, run_takeDeferred hDf, ?_⟩⟩
    have h9 := HF.out.1
    rw [List.length_range] at h9
    exact ⟨_, results_tmp2 rfl _ _ _, o, v, HO.out, rfl, own_low (ownsRow_putObj h9 _ hDf rfl) HN8.out, HF.out.2.trans (belowK_b (w := w) (Nat.le_refl _) W D _ _ (Nat.le_trans HN8.out hD) hDf rfl rfl)⟩
  case body =>
    rintro l S pre x a' W hl - hSl hI rfl hT
    obtain ⟨hrg, hle⟩ := hT.rg
    have hxk : x = pre.length := by
      have h1 := hrg
      rw [List.length_append, List.length_singleton, List.range_succ] at h1
      simpa using (List.append_inj' h1 rfl).2
    have hk := hxk.symm
    have hts := hT.tal
    rw [List.length_append, List.length_singleton, Nat.add_sub_cancel, hk] at hts
    rw [List.length_append, List.length_singleton] at hle
    have HI := Lib.hid hI; have HX := Lib.hid hrg; have HK := Lib.hid hk; have HTS := Lib.hid hts
    have c3 := hI.e.cell
    have c10 := hI.q.cell
    clear hts
    cases x with
    | zero =>
      have hb : bdO E o pre.length = false := by rw [hk]; rfl
      clear c3 c10 hT hI hrg hk hxk
      gi_wp2
      exact ⟨KeepsFrom.refl _ _, KpS.refl _ _ _, HI.out.skip HX.out hb⟩
    | succ p =>
      have hp : p < o.length := by omega
      have hil := HOI.out p hp
      obtain ⟨i, hi⟩ : ∃ i, o.getD p 0 = i := ⟨_, rfl⟩
      rw [hi] at hil
      have oc := (hT.ord p hp).2
      rw [add_mk, Nat.zero_add, Nat.mul_one] at oc
      have ix := hT.es.ix i hil
      have ew := ES.w hT.es hil
      rw [hi] at oc
      have hpE : p < E.length := by have := HOL.out; omega
      have hw : IntKind.i64.wrap (p : Int) = (p : Int) := IntWalk.i64_in _ (by omega)
      have HI1 := Lib.hid hi
      obtain ⟨th, hx⟩ : ∃ th, (eAt E i).w = th := ⟨_, rfl⟩
      rw [hx] at ew
      have HW := Lib.hid hx
      have HT := Lib.hid hT
      have HS : W.drew.cell? ⟨w.heap.size, 0, none⟩ = some (.slice a E.length cap) ∧ W.drew.cell? ⟨w5.heap.size, 0, none⟩ = some (.slice (some ⟨ob, 0, none⟩) E.length E.length) ∧ W.drew.cell? ⟨ob, p, none⟩ = some (.int .i64 (i : Nat)) ∧ W.drew.cell? ⟨(A i).block, (A i).off + 2, none⟩ = some (.int .i64 th) := ⟨c3, c10, oc, ew⟩
      clear hT hI hrg c3 c10 oc ew hi hx hk hxk
      gi_wp2
      refine region_round (fun w' => w'.cell? ⟨w.heap.size, 0, none⟩ = some (.slice a E.length cap) ∧ w'.cell? ⟨w5.heap.size, 0, none⟩ = some (.slice (some ⟨ob, 0, none⟩) E.length E.length) ∧ w'.cell? ⟨ob, p, none⟩ = some (.int .i64 (i : Nat)) ∧ w'.cell? ⟨(A i).block, (A i).off + 2, none⟩ = some (.int .i64 th)) (by kernel_rfl) (by kernel_rfl) ?_
      refine take_at (i := 0) (d := 40) (v := ?_) rfl rfl (by kernel_rfl) (by kernel_rfl) (by kernel_rfl) (fun _ _ _ _ => NormalOnly.any) rfl ?hy1 HS ?rest1
      case hy1 => intro w' hSw; (try dsimp only at hSw); go_simp; try (with_reducible rfl)
      try simp only [List.setIfInBounds_toArray, List.set_cons_zero, List.set_cons_succ]
      refine take_at (i := 1) (d := 41) (v := ?_) rfl rfl (by kernel_rfl) (by kernel_rfl) (by kernel_rfl) (fun _ _ _ _ => NormalOnly.any) rfl ?hy2 HS ?rest2
      case hy2 => intro w' hSw; (try dsimp only at hSw); go_simp; try (with_reducible rfl)
      try simp only [List.setIfInBounds_toArray, List.set_cons_zero, List.set_cons_succ]
      refine take_at (i := 2) (d := 42) (v := ?_) rfl rfl (by kernel_rfl) (by kernel_rfl) (by kernel_rfl) (fun _ _ _ _ => NormalOnly.any) rfl ?hy3 HS ?rest3
      case hy3 => intro w' hSw; (try dsimp only at hSw); go_simp; try (with_reducible rfl)
      try simp only [List.setIfInBounds_toArray, List.set_cons_zero, List.set_cons_succ]
      refine take_at (i := 3) (d := 43) (v := ?_) rfl rfl (by kernel_rfl) (by kernel_rfl) (by kernel_rfl) (fun _ _ _ _ => NormalOnly.any) rfl ?hy4 HS ?rest4
      case hy4 => intro w' hSw; (try dsimp only at hSw); go_simp; try (with_reducible rfl)
      try simp only [List.setIfInBounds_toArray, List.set_cons_zero, List.set_cons_succ]
      refine take_at (i := 4) (d := 44) (v := ?_) rfl rfl (by kernel_rfl) (by kernel_rfl) (by kernel_rfl) (fun _ _ _ _ => NormalOnly.any) rfl ?hy5 HS ?rest5
      case hy5 => intro w' hSw; (try dsimp only at hSw); go_simp; try (with_reducible rfl)
      try simp only [List.setIfInBounds_toArray, List.set_cons_zero, List.set_cons_succ]
      refine take_at (i := 5) (d := 45) (v := ?_) rfl rfl (by kernel_rfl) (by kernel_rfl) (by kernel_rfl) (fun _ _ _ _ => NormalOnly.any) rfl ?hy6 HS ?rest6
      case hy6 => intro w' hSw; (try dsimp only at hSw); go_simp; try (with_reducible rfl)
      try simp only [List.setIfInBounds_toArray, List.set_cons_zero, List.set_cons_succ]
      refine take_at (i := 6) (d := 46) (v := ?_) rfl rfl (by kernel_rfl) (by kernel_rfl) (by kernel_rfl) (fun _ _ _ _ => NormalOnly.any) rfl ?hy7 HS ?rest7
      case hy7 => intro w' hSw; (try dsimp only at hSw); go_simp; try (with_reducible rfl)
      try simp only [List.setIfInBounds_toArray, List.set_cons_zero, List.set_cons_succ]
      refine take_at (i := 7) (d := 47) (v := ?_) rfl rfl (by kernel_rfl) (by kernel_rfl) (by kernel_rfl) (fun _ _ _ _ => NormalOnly.any) rfl ?hy8 HS ?rest8
      case hy8 => intro w' hSw; (try dsimp only at hSw); go_simp; try (with_reducible rfl)
      try simp only [List.setIfInBounds_toArray, List.set_cons_zero, List.set_cons_succ]
      refine take_at (i := 8) (d := 48) (v := ?_) rfl rfl (by kernel_rfl) (by kernel_rfl) (by kernel_rfl) (fun _ _ _ _ => NormalOnly.any) rfl ?hy9 HS ?rest9
      case hy9 => intro w' hSw; (try dsimp only at hSw); go_simp; try (with_reducible rfl)
      try simp only [List.setIfInBounds_toArray, List.set_cons_zero, List.set_cons_succ]
      refine take_at (i := 9) (d := 13) (v := ?_) rfl rfl (by kernel_rfl) (by kernel_rfl) (by kernel_rfl) (fun _ _ _ _ => NormalOnly.any) rfl ?hy10 HS ?rest10
      case hy10 => intro w' hSw; (try dsimp only at hSw); go_simp; try (with_reducible rfl)
      try simp only [List.setIfInBounds_toArray, List.set_cons_zero, List.set_cons_succ]
      refine wpAnyH_done (by kernel_rfl) ⟨rfl, ?_⟩ _
      clear HS
      gi_wp2
      obtain ⟨v, l1, l2, l3⟩ := HI.out.l
      obtain ⟨L, hL⟩ : ∃ L, (lvK E o pre.length).length = L := ⟨_, rfl⟩
      have hLE : L ≤ 16384 := by
        have h1 := lvK_len E o pre.length
        have := HK.out; have := HOL.out; omega
      obtain ⟨xs, hxs⟩ : ∃ xs, flat (lvC n E o (lvK E o pre.length)) L 4 = xs := ⟨_, rfl⟩
      obtain ⟨r1, hr1⟩ : ∃ r, lgN n (labO E (o.take (p + 1))) (lbL (labO E (o.take (p + 1))) n) = r := ⟨_, rfl⟩
      obtain ⟨r2, hr2⟩ : ∃ r, cntN n (labO E (o.take (p + 1))) = r := ⟨_, rfl⟩
      obtain ⟨r3, hr3⟩ : ∃ r, sqN n (labO E (o.take (p + 1))) (lbL (labO E (o.take (p + 1))) n) = r := ⟨_, rfl⟩
      have hn0 : 0 < n := by
        obtain ⟨g1, g2, g3, g4, g5⟩ := HG.out.ends i hil
        omega
      have HPL := Lib.hid (plain_any (HTS.out.keep (w' := W.drew.drew.drew) (Nat.le_refl _) (fun _ _ => rfl)).at hn0 hnm (labO_ok E (o.take (p + 1))))
      unfold RowRes at HPL
      rw [hr1, hr2, hr3] at HPL
      have l2' := l2
      rw [hL, hxs] at l2'
      have hWz := HI.out.sz
      have HP := Lib.hid (fun (w2 : World) (b2 : Below W.heap.size W w2) => show w2.cell? ⟨w3.heap.size, 0, none⟩ = some (.pointer (some ⟨tb, 0, none⟩)) ∧ w2.cell? ⟨w6.heap.size, 0, none⟩ = some v ∧ w2.ownsRow w8.heap.size 38 4 v L xs ∧ w8.heap.size ≤ w2.heap.size from
        ⟨(World.cell?_of_block (w := W) (b2.block _ (boxed_lt HI.out.t))).trans HI.out.t.cell, (World.cell?_of_block (w := W) (b2.block _ (boxed_lt l1))).trans l1.cell, own_same l2' (fun g hg => b2.block g (l2'.lt g hg).2), Nat.le_trans hWz b2.size⟩)
      have FIN : ∀ (g cp : Nat) (w2 w4 : World), bdO E o pre.length = true → Below W.heap.size W w2 → w4.ownsRow w8.heap.size 38 4 (.slice (some ⟨g, 0, none⟩) (L + 1 : Nat) cp) (L + 1) (xs ++ [.int .i64 th, .int .i64 (r1 : Nat), .int .i64 (r2 : Nat), .int .i64 (r3 : Nat)]) → w2.grownBy w4 v.ownBlock → Moved w2 v g →
          w4.cell? ⟨w3.heap.size, 0, none⟩ = some (.pointer (some ⟨tb, 0, none⟩)) ∧ w4.cell? ⟨w6.heap.size, 0, none⟩ = some v ∧ w4.frozen? ⟨w6.heap.size, 0, none⟩ = false ∧ (w4.setCell ⟨w6.heap.size, 0, none⟩ (.slice (some ⟨g, 0, none⟩) (L + 1 : Nat) cp)).cell? ⟨w3.heap.size, 0, none⟩ = some (.pointer (some ⟨tb, 0, none⟩)) ∧ KeepsFrom w8.heap.size W (w4.setCell ⟨w6.heap.size, 0, none⟩ (.slice (some ⟨g, 0, none⟩) (L + 1 : Nat) cp)) ∧ KpS S (StpK B w7.heap.size (w7.heap.size + 1) (w7.heap.size + 2) ob) W (w4.setCell ⟨w6.heap.size, 0, none⟩ (.slice (some ⟨g, 0, none⟩) (L + 1 : Nat) cp)) ∧
          LvI w w8.heap.size w.heap.size w3.heap.size w5.heap.size w6.heap.size n E o (.slice a E.length cap) (.pointer (some ⟨tb, 0, none⟩)) (.slice (some ⟨ob, 0, none⟩) E.length E.length) S (pre ++ [p + 1]) (w4.setCell ⟨w6.heap.size, 0, none⟩ (.slice (some ⟨g, 0, none⟩) (L + 1 : Nat) cp)) := by
        intro g cp w2 w4 hb b2 h1 h2 h3
        have hq : ¬ some w6.heap.size = v.ownBlock := fun e => by have := (l2'.lt _ e.symm).1; have := HQ.out.2.1; omega
        have hq3 : ¬ some w3.heap.size = v.ownBlock := fun e => by have := (l2'.lt _ e.symm).1; have := HQ2.out.2.2.1; omega
        have k6 : Boxed w4 w6.heap.size 24 v := (h2.block _ (Nat.lt_of_lt_of_le (boxed_lt l1) b2.size) hq).trans ((b2.block _ (boxed_lt l1)).trans l1)
        have k3 : Boxed w4 w3.heap.size 47 (.pointer (some ⟨tb, 0, none⟩)) := (h2.block _ (Nat.lt_of_lt_of_le (boxed_lt HI.out.t) b2.size) hq3).trans ((b2.block _ (boxed_lt HI.out.t)).trans HI.out.t)
        have e0 : lvV n E o pre.length 0 = .int .i64 th := by rw [HK.out]; unfold lvV; rw [if_pos rfl, Nat.add_sub_cancel, HI1.out, HW.out]
        have e1 : lvV n E o pre.length 1 = .int .i64 (r1 : Nat) := by rw [HK.out]; unfold lvV; rw [if_neg (by decide), if_pos rfl, hr1]
        have e2 : lvV n E o pre.length 2 = .int .i64 (r2 : Nat) := by rw [HK.out]; unfold lvV; rw [if_neg (by decide), if_neg (by decide), if_pos rfl, hr2]
        have e3 : lvV n E o pre.length 3 = .int .i64 (r3 : Nat) := by rw [HK.out]; unfold lvV; rw [if_neg (by decide), if_neg (by decide), if_neg (by decide), hr3]
        have G := LvI.grow (x := p + 1) (cp := cp) HI.out HX.out hb l1 l3 l2 ⟨HQ.out.2.1, HQ.out.2.2⟩ (fun j hj => ⟨HC.out j hj, fun e => HQ.out.1 (e ▸ hj)⟩) b2 h2 h3 (by rw [hL, hxs, e0, e1, e2, e3]; exact h1) HQ2.out.1 HQ2.out.2
        rw [hL] at G
        exact ⟨k3.cell, k6.cell, k6.frozen, (World.cell?_of_block (w := w4) (Below.heap_setCell _ _ _ _ HQ2.out.1.2.1)).trans k3.cell, G⟩
      have FIN := Lib.hid FIN
      have hLB : (L + 1) * 32 ≤ 140737488355328 := by omega
      clear l1 l2 l3 hL hxs hr1 hr2 hr3 l2' hWz
      by_cases hke : p + 1 = E.length
      · have hd : (((p : Nat) : Int) + 1 = (E.length : Nat)) := by omega
        have hb : bdO E o pre.length = true := by rw [HK.out]; unfold bdO; rw [HOL.out]; simp [hke]; omega
        have c10 := HI.out.q.cell
        have HS : W.drew.drew.cell? ⟨w5.heap.size, 0, none⟩ = some (.slice (some ⟨ob, 0, none⟩) E.length E.length) := c10
        have HKE := Lib.hid hke
        clear c10 hke
        refine region_round (fun w' => w'.cell? ⟨w5.heap.size, 0, none⟩ = some (.slice (some ⟨ob, 0, none⟩) E.length E.length)) (by kernel_rfl) (by kernel_rfl) ?_
        refine take_at (i := 0) (d := 49) (v := ?_) rfl rfl (by kernel_rfl) (by kernel_rfl) (by kernel_rfl) (fun _ _ _ _ => NormalOnly.any) rfl ?hy11 HS ?rest11
        case hy11 => intro w' hSw; (try dsimp only at hSw); go_simp; try (with_reducible rfl)
        try simp only [List.setIfInBounds_toArray, List.set_cons_zero, List.set_cons_succ]
        refine take_at (i := 1) (d := 50) (v := ?_) rfl rfl (by kernel_rfl) (by kernel_rfl) (by kernel_rfl) (fun _ _ _ _ => NormalOnly.any) rfl ?hy12 HS ?rest12
        case hy12 => intro w' hSw; (try dsimp only at hSw); go_simp; try (with_reducible rfl)
        try simp only [List.setIfInBounds_toArray, List.set_cons_zero, List.set_cons_succ]
        refine take_at (i := 2) (d := 51) (v := ?_) rfl rfl (by kernel_rfl) (by kernel_rfl) (by kernel_rfl) (fun _ _ _ _ => NormalOnly.any) rfl ?hy13 HS ?rest13
        case hy13 => intro w' hSw; (try dsimp only at hSw); go_simp; try (with_reducible rfl)
        try simp only [List.setIfInBounds_toArray, List.set_cons_zero, List.set_cons_succ]
        refine take_at (i := 3) (d := 52) (v := ?_) rfl rfl (by kernel_rfl) (by kernel_rfl) (by kernel_rfl) (fun _ _ _ _ => NormalOnly.any) rfl ?hy14 HS ?rest14
        case hy14 => intro w' hSw; (try dsimp only at hSw); go_simp; try (with_reducible rfl)
        try simp only [List.setIfInBounds_toArray, List.set_cons_zero, List.set_cons_succ]
        refine take_at (i := 4) (d := 53) (v := ?_) rfl rfl (by kernel_rfl) (by kernel_rfl) (by kernel_rfl) (fun _ _ _ _ => NormalOnly.any) rfl ?hy15 HS ?rest15
        case hy15 => intro w' hSw; (try dsimp only at hSw); go_simp; try (with_reducible rfl)
        try simp only [List.setIfInBounds_toArray, List.set_cons_zero, List.set_cons_succ]
        refine skip_lv (i := 5) (d := 54) rfl rfl (by kernel_rfl) (by kernel_rfl) (by kernel_rfl) (fun _ _ _ _ => NormalOnly.any) rfl HS ?_
        try simp only [List.setIfInBounds_toArray, List.set_cons_zero, List.set_cons_succ]
        refine skip_lv (i := 6) (d := 55) rfl rfl (by kernel_rfl) (by kernel_rfl) (by kernel_rfl) (fun _ _ _ _ => NormalOnly.any) rfl HS ?_
        try simp only [List.setIfInBounds_toArray, List.set_cons_zero, List.set_cons_succ]
        refine skip_lv (i := 7) (d := 56) rfl rfl (by kernel_rfl) (by kernel_rfl) (by kernel_rfl) (fun _ _ _ _ => NormalOnly.any) rfl HS ?_
        try simp only [List.setIfInBounds_toArray, List.set_cons_zero, List.set_cons_succ]
        refine skip_lv (i := 8) (d := 57) rfl rfl (by kernel_rfl) (by kernel_rfl) (by kernel_rfl) (fun _ _ _ _ => NormalOnly.any) rfl HS ?_
        try simp only [List.setIfInBounds_toArray, List.set_cons_zero, List.set_cons_succ]
        refine skip_lv (i := 9) (d := 58) rfl rfl (by kernel_rfl) (by kernel_rfl) (by kernel_rfl) (fun _ _ _ _ => NormalOnly.any) rfl HS ?_
        try simp only [List.setIfInBounds_toArray, List.set_cons_zero, List.set_cons_succ]
        refine skip_lv (i := 10) (d := 59) rfl rfl (by kernel_rfl) (by kernel_rfl) (by kernel_rfl) (fun _ _ _ _ => NormalOnly.any) rfl HS ?_
        try simp only [List.setIfInBounds_toArray, List.set_cons_zero, List.set_cons_succ]
        refine skip_lv (i := 11) (d := 60) rfl rfl (by kernel_rfl) (by kernel_rfl) (by kernel_rfl) (fun _ _ _ _ => NormalOnly.any) rfl HS ?_
        try simp only [List.setIfInBounds_toArray, List.set_cons_zero, List.set_cons_succ]
        refine skip_lv (i := 12) (d := 61) rfl rfl (by kernel_rfl) (by kernel_rfl) (by kernel_rfl) (fun _ _ _ _ => NormalOnly.any) rfl HS ?_
        try simp only [List.setIfInBounds_toArray, List.set_cons_zero, List.set_cons_succ]
        refine skip_lv (i := 13) (d := 62) rfl rfl (by kernel_rfl) (by kernel_rfl) (by kernel_rfl) (fun _ _ _ _ => NormalOnly.any) rfl HS ?_
        try simp only [List.setIfInBounds_toArray, List.set_cons_zero, List.set_cons_succ]
        refine skip_lv (i := 14) (d := 63) rfl rfl (by kernel_rfl) (by kernel_rfl) (by kernel_rfl) (fun _ _ _ _ => NormalOnly.any) rfl HS ?_
        try simp only [List.setIfInBounds_toArray, List.set_cons_zero, List.set_cons_succ]
        refine take_at (i := 15) (d := 64) (v := ?_) rfl rfl (by kernel_rfl) (by kernel_rfl) (by kernel_rfl) (fun _ _ _ _ => NormalOnly.any) rfl ?hy16 HS ?rest16
        case hy16 => intro w' hSw; (try dsimp only at hSw); go_simp; try (with_reducible rfl)
        try simp only [List.setIfInBounds_toArray, List.set_cons_zero, List.set_cons_succ]
        refine wpAnyH_done (by kernel_rfl) ⟨rfl, ?_⟩ _
        clear HS
        gi_wp2
        have HS : W.drew.drew.drew.cell? ⟨w3.heap.size, 0, none⟩ = some (.pointer (some ⟨tb, 0, none⟩)) := (HP.out W.drew.drew.drew (Below.refl _ W).drew.drew.drew).1
        have cl : W.drew.drew.drew.cell? ⟨w6.heap.size, 0, none⟩ = some v := (HP.out W.drew.drew.drew (Below.refl _ W).drew.drew.drew).2.1
        refine region_round (fun w' => w'.cell? ⟨w3.heap.size, 0, none⟩ = some (.pointer (some ⟨tb, 0, none⟩))) (by kernel_rfl) (by kernel_rfl) ?_
        refine take_at (i := 1) (d := 66) (v := ?_) rfl rfl (by kernel_rfl) (by kernel_rfl) (by kernel_rfl) (fun _ _ _ _ => NormalOnly.any) rfl ?hy17 HS ?rest17
        case hy17 => intro w' hSw; (try dsimp only at hSw); go_simp; try (with_reducible rfl)
        try simp only [List.setIfInBounds_toArray, List.set_cons_zero, List.set_cons_succ]
        refine take_at (i := 2) (d := 67) (v := ?_) rfl rfl (by kernel_rfl) (by kernel_rfl) (by kernel_rfl) (fun _ _ _ _ => NormalOnly.any) rfl ?hy18 HS ?rest18
        case hy18 => intro w' hSw; (try dsimp only at hSw); go_simp; try (with_reducible rfl)
        try simp only [List.setIfInBounds_toArray, List.set_cons_zero, List.set_cons_succ]
        refine wpAnyH_ready (rs := [0, 3]) (by kernel_rfl) (by simp) ?_
        refine AllReadyH.cons rfl (fun K hK => ?_) (AllReadyH.cons rfl (fun K hK => ?_) AllReadyH.nil)
        · go_simp
          refine hK.out _ _ HS (fun _ => ?_)
          clear hK
          refine wpAnyH_ready (rs := [3]) (by kernel_rfl) (by simp) ?_
          refine AllReadyH.cons rfl (fun K hK => ?_) AllReadyH.nil
          go_simp
          refine HPL.out.mono ?_
          rintro e w2 ⟨rfl, b20⟩
          have b2 : Below W.heap.size W w2 := ((Below.refl _ W).drew.drew.drew).trans b20
          have b3 : Below W.heap.size W (w2.alloc (.cells #[.int .i64 th, .int .i64 (r1 : Nat), .int .i64 (r2 : Nat), .int .i64 (r3 : Nat)] 38)) := b2.alloc b2.size _
          obtain ⟨HS, cl2, ow2, hsz⟩ := HP.out w2 b2
          obtain ⟨HS3, cl3, _, _⟩ := HP.out _ b3
          clear b20 b3
          refine hK.out _ _ HS (fun _ => ?_)
          clear hK
          refine take_at (i := 4) (d := 69) (v := ?_) rfl rfl (by kernel_rfl) (by kernel_rfl) (by kernel_rfl) (fun _ _ _ _ => NormalOnly.any) rfl ?hy19 HS ?rest19
          case hy19 => intro w' hSw; (try dsimp only at hSw); go_simp; try (with_reducible rfl)
          try simp only [List.setIfInBounds_toArray, List.set_cons_zero, List.set_cons_succ]
          refine wpAnyH_ready (rs := [5]) (by kernel_rfl) (by simp) ?_
          refine AllReadyH.cons rfl (fun K hK => ?_) AllReadyH.nil
          go_simp
          refine hK.out _ _ HS3 (fun _ => ?_)
          clear hK
          refine wpAnyH_ready (rs := [6]) (by kernel_rfl) (by simp) ?_
          refine AllReadyH.cons rfl (fun K hK => ?_) AllReadyH.nil
          refine step_pushM (w0 := w2) rfl etLv rfl _ _ rfl w8.heap.size v L xs ow2 rfl #[.int .i64 th, .int .i64 (r1 : Nat), .int .i64 (r2 : Nat), .int .i64 (r3 : Nat)] w2.heap.size rfl rfl rfl (by simp [Value.oneCell']) (by omega) (by omega) hsz ?_
          intro ga cpa w9 hown hgr hmv
          obtain ⟨HS, c5, f5, HS6, FK⟩ := FIN.out ga cpa w2 w9 hb b2 hown hgr hmv
          have FK := Lib.hid FK
          clear hown hgr hmv FIN HS3 cl2 cl3 ow2
          simp only [Act.put, List.setIfInBounds_toArray]
          refine hK.out _ _ HS (fun _ => ?_)
          clear hK
          refine wpAnyH_ready (rs := [7]) (by kernel_rfl) (by simp) ?_
          refine AllReadyH.cons rfl (fun K hK => ?_) AllReadyH.nil
          go_simp
          refine hK.out _ _ HS6 (fun _ => ?_)
          clear hK
          refine wpAnyH_done (by kernel_rfl) ⟨rfl, ?_⟩ _
          clear HS HS6 c5 f5
          gi_wp2
          exact FK.out
        · go_simp
          refine HPL.out.mono ?_
          rintro e w2 ⟨rfl, b20⟩
          have b2 : Below W.heap.size W w2 := ((Below.refl _ W).drew.drew.drew).trans b20
          have b3 : Below W.heap.size W (w2.alloc (.cells #[.int .i64 th, .int .i64 (r1 : Nat), .int .i64 (r2 : Nat), .int .i64 (r3 : Nat)] 38)) := b2.alloc b2.size _
          obtain ⟨HS, cl2, ow2, hsz⟩ := HP.out w2 b2
          obtain ⟨HS3, cl3, _, _⟩ := HP.out _ b3
          clear b20 b3
          refine hK.out _ _ HS (fun _ => ?_)
          clear hK
          refine take_at (i := 4) (d := 69) (v := ?_) rfl rfl (by kernel_rfl) (by kernel_rfl) (by kernel_rfl) (fun _ _ _ _ => NormalOnly.any) rfl ?hy20 HS ?rest20
          case hy20 => intro w' hSw; (try dsimp only at hSw); go_simp; try (with_reducible rfl)
          try simp only [List.setIfInBounds_toArray, List.set_cons_zero, List.set_cons_succ]
          refine wpAnyH_ready (rs := [0, 5]) (by kernel_rfl) (by simp) ?_
          refine AllReadyH.cons rfl (fun K hK => ?_) (AllReadyH.cons rfl (fun K hK => ?_) AllReadyH.nil)
          · go_simp
            refine hK.out _ _ HS (fun _ => ?_)
            clear hK
            refine wpAnyH_ready (rs := [5]) (by kernel_rfl) (by simp) ?_
            refine AllReadyH.cons rfl (fun K hK => ?_) AllReadyH.nil
            go_simp
            refine hK.out _ _ HS3 (fun _ => ?_)
            clear hK
            refine wpAnyH_ready (rs := [6]) (by kernel_rfl) (by simp) ?_
            refine AllReadyH.cons rfl (fun K hK => ?_) AllReadyH.nil
            refine step_pushM (w0 := w2) rfl etLv rfl _ _ rfl w8.heap.size v L xs ow2 rfl #[.int .i64 th, .int .i64 (r1 : Nat), .int .i64 (r2 : Nat), .int .i64 (r3 : Nat)] w2.heap.size rfl rfl rfl (by simp [Value.oneCell']) (by omega) (by omega) hsz ?_
            intro ga cpa w9 hown hgr hmv
            obtain ⟨HS, c5, f5, HS6, FK⟩ := FIN.out ga cpa w2 w9 hb b2 hown hgr hmv
            have FK := Lib.hid FK
            clear hown hgr hmv FIN HS3 cl2 cl3 ow2
            simp only [Act.put, List.setIfInBounds_toArray]
            refine hK.out _ _ HS (fun _ => ?_)
            clear hK
            refine wpAnyH_ready (rs := [7]) (by kernel_rfl) (by simp) ?_
            refine AllReadyH.cons rfl (fun K hK => ?_) AllReadyH.nil
            go_simp
            refine hK.out _ _ HS6 (fun _ => ?_)
            clear hK
            refine wpAnyH_done (by kernel_rfl) ⟨rfl, ?_⟩ _
            clear HS HS6 c5 f5
            gi_wp2
            exact FK.out
          · go_simp
            refine hK.out _ _ HS3 (fun _ => ?_)
            clear hK
            refine wpAnyH_ready (rs := [0]) (by kernel_rfl) (by simp) ?_
            refine AllReadyH.cons rfl (fun K hK => ?_) AllReadyH.nil
            go_simp
            refine hK.out _ _ HS3 (fun _ => ?_)
            clear hK
            refine wpAnyH_ready (rs := [6]) (by kernel_rfl) (by simp) ?_
            refine AllReadyH.cons rfl (fun K hK => ?_) AllReadyH.nil
            refine step_pushM (w0 := w2) rfl etLv rfl _ _ rfl w8.heap.size v L xs ow2 rfl #[.int .i64 th, .int .i64 (r1 : Nat), .int .i64 (r2 : Nat), .int .i64 (r3 : Nat)] w2.heap.size rfl rfl rfl (by simp [Value.oneCell']) (by omega) (by omega) hsz ?_
            intro ga cpa w9 hown hgr hmv
            obtain ⟨HS, c5, f5, HS6, FK⟩ := FIN.out ga cpa w2 w9 hb b2 hown hgr hmv
            have FK := Lib.hid FK
            clear hown hgr hmv FIN HS3 cl2 cl3 ow2
            simp only [Act.put, List.setIfInBounds_toArray]
            refine hK.out _ _ HS (fun _ => ?_)
            clear hK
            refine wpAnyH_ready (rs := [7]) (by kernel_rfl) (by simp) ?_
            refine AllReadyH.cons rfl (fun K hK => ?_) AllReadyH.nil
            go_simp
            refine hK.out _ _ HS6 (fun _ => ?_)
            clear hK
            refine wpAnyH_done (by kernel_rfl) ⟨rfl, ?_⟩ _
            clear HS HS6 c5 f5
            gi_wp2
            exact FK.out
      · have hnd : ¬ (((p : Nat) : Int) + 1 = (E.length : Nat)) := by omega
        have hnb : (((p : Nat) : Int) + 1 == ((E.length : Nat) : Int)) = false := beq_eq_false_iff_ne.2 hnd
        have hp1 : p + 1 < E.length := by omega
        have hq0 : (0 : Int) ≤ ((p : Nat) : Int) + 1 := by omega
        have hq1 : ((p : Nat) : Int) + 1 < ((E.length : Nat) : Int) := by omega
        have hp1o : p + 1 < o.length := by have := HOL.out; omega
        obtain ⟨i2, hi2⟩ : ∃ i2, o.getD (p + 1) 0 = i2 := ⟨_, rfl⟩
        have oc2 := (HT.out.ord (p + 1) hp1o).2
        rw [add_mk, Nat.zero_add, Nat.mul_one, hi2] at oc2
        have hil2 := HOI.out (p + 1) hp1o
        rw [hi2] at hil2
        have ix2 := HT.out.es.ix i2 hil2
        have ew2 := ES.w HT.out.es hil2
        obtain ⟨t2, ht2⟩ : ∃ t2, (eAt E i2).w = t2 := ⟨_, rfl⟩
        rw [ht2] at ew2
        have HBD := Lib.hid (show bdO E o pre.length = decide (t2 ≠ th) by
          rw [HK.out]; unfold bdO
          rw [HOL.out, Nat.add_sub_cancel, hi2, HI1.out, ht2, HW.out, decide_eq_true (Nat.succ_pos p), decide_eq_false hke, Bool.true_and, Bool.false_or])
        have hw2 : IntKind.i64.wrap (((p : Nat) : Int) + 1) = ((p : Nat) : Int) + 1 := IntWalk.i64_in _ (by omega)
        have HS : W.drew.drew.cell? ⟨w.heap.size, 0, none⟩ = some (.slice a E.length cap) ∧ W.drew.drew.cell? ⟨w5.heap.size, 0, none⟩ = some (.slice (some ⟨ob, 0, none⟩) E.length E.length) ∧ W.drew.drew.cell? ⟨ob, p + 1, none⟩ = some (.int .i64 (i2 : Nat)) ∧ W.drew.drew.cell? ⟨(A i2).block, (A i2).off + 2, none⟩ = some (.int .i64 t2) := ⟨HI.out.e.cell, HI.out.q.cell, oc2, ew2⟩
        clear oc2 ew2 hi2 ht2
        refine region_round (fun w' => w'.cell? ⟨w.heap.size, 0, none⟩ = some (.slice a E.length cap) ∧ w'.cell? ⟨w5.heap.size, 0, none⟩ = some (.slice (some ⟨ob, 0, none⟩) E.length E.length) ∧ w'.cell? ⟨ob, p + 1, none⟩ = some (.int .i64 (i2 : Nat)) ∧ w'.cell? ⟨(A i2).block, (A i2).off + 2, none⟩ = some (.int .i64 t2)) (by kernel_rfl) (by kernel_rfl) ?_
        refine take_at (i := 0) (d := 49) (v := ?_) rfl rfl (by kernel_rfl) (by kernel_rfl) (by kernel_rfl) (fun _ _ _ _ => NormalOnly.any) rfl ?hy21 HS ?rest21
        case hy21 => intro w' hSw; (try dsimp only at hSw); go_simp; try (with_reducible rfl)
        try simp only [List.setIfInBounds_toArray, List.set_cons_zero, List.set_cons_succ]
        refine take_at (i := 1) (d := 50) (v := ?_) rfl rfl (by kernel_rfl) (by kernel_rfl) (by kernel_rfl) (fun _ _ _ _ => NormalOnly.any) rfl ?hy22 HS ?rest22
        case hy22 => intro w' hSw; (try dsimp only at hSw); go_simp; try (with_reducible rfl)
        try simp only [List.setIfInBounds_toArray, List.set_cons_zero, List.set_cons_succ]
        refine take_at (i := 2) (d := 51) (v := ?_) rfl rfl (by kernel_rfl) (by kernel_rfl) (by kernel_rfl) (fun _ _ _ _ => NormalOnly.any) rfl ?hy23 HS ?rest23
        case hy23 => intro w' hSw; (try dsimp only at hSw); go_simp; try (with_reducible rfl)
        try simp only [List.setIfInBounds_toArray, List.set_cons_zero, List.set_cons_succ]
        refine take_at (i := 3) (d := 52) (v := ?_) rfl rfl (by kernel_rfl) (by kernel_rfl) (by kernel_rfl) (fun _ _ _ _ => NormalOnly.any) rfl ?hy24 HS ?rest24
        case hy24 => intro w' hSw; (try dsimp only at hSw); go_simp; try (with_reducible rfl)
        try simp only [List.setIfInBounds_toArray, List.set_cons_zero, List.set_cons_succ]
        refine take_at (i := 4) (d := 53) (v := ?_) rfl rfl (by kernel_rfl) (by kernel_rfl) (by kernel_rfl) (fun _ _ _ _ => NormalOnly.any) rfl ?hy25 HS ?rest25
        case hy25 => intro w' hSw; (try dsimp only at hSw); go_simp; try (with_reducible rfl)
        try simp only [List.setIfInBounds_toArray, List.set_cons_zero, List.set_cons_succ]
        refine take_at (i := 5) (d := 54) (v := ?_) rfl rfl (by kernel_rfl) (by kernel_rfl) (by kernel_rfl) (fun _ _ _ _ => NormalOnly.any) rfl ?hy26 HS ?rest26
        case hy26 => intro w' hSw; (try dsimp only at hSw); go_simp; try (with_reducible rfl)
        try simp only [List.setIfInBounds_toArray, List.set_cons_zero, List.set_cons_succ]
        refine take_at (i := 6) (d := 55) (v := ?_) rfl rfl (by kernel_rfl) (by kernel_rfl) (by kernel_rfl) (fun _ _ _ _ => NormalOnly.any) rfl ?hy27 HS ?rest27
        case hy27 => intro w' hSw; (try dsimp only at hSw); go_simp; try (with_reducible rfl)
        try simp only [List.setIfInBounds_toArray, List.set_cons_zero, List.set_cons_succ]
        refine take_at (i := 7) (d := 56) (v := ?_) rfl rfl (by kernel_rfl) (by kernel_rfl) (by kernel_rfl) (fun _ _ _ _ => NormalOnly.any) rfl ?hy28 HS ?rest28
        case hy28 => intro w' hSw; (try dsimp only at hSw); go_simp; try (with_reducible rfl)
        try simp only [List.setIfInBounds_toArray, List.set_cons_zero, List.set_cons_succ]
        refine take_at (i := 8) (d := 57) (v := ?_) rfl rfl (by kernel_rfl) (by kernel_rfl) (by kernel_rfl) (fun _ _ _ _ => NormalOnly.any) rfl ?hy29 HS ?rest29
        case hy29 => intro w' hSw; (try dsimp only at hSw); go_simp; try (with_reducible rfl)
        try simp only [List.setIfInBounds_toArray, List.set_cons_zero, List.set_cons_succ]
        refine take_at (i := 9) (d := 58) (v := ?_) rfl rfl (by kernel_rfl) (by kernel_rfl) (by kernel_rfl) (fun _ _ _ _ => NormalOnly.any) rfl ?hy30 HS ?rest30
        case hy30 => intro w' hSw; (try dsimp only at hSw); go_simp; try (with_reducible rfl)
        try simp only [List.setIfInBounds_toArray, List.set_cons_zero, List.set_cons_succ]
        refine take_at (i := 10) (d := 59) (v := ?_) rfl rfl (by kernel_rfl) (by kernel_rfl) (by kernel_rfl) (fun _ _ _ _ => NormalOnly.any) rfl ?hy31 HS ?rest31
        case hy31 => intro w' hSw; (try dsimp only at hSw); go_simp; try (with_reducible rfl)
        try simp only [List.setIfInBounds_toArray, List.set_cons_zero, List.set_cons_succ]
        refine take_at (i := 11) (d := 60) (v := ?_) rfl rfl (by kernel_rfl) (by kernel_rfl) (by kernel_rfl) (fun _ _ _ _ => NormalOnly.any) rfl ?hy32 HS ?rest32
        case hy32 => intro w' hSw; (try dsimp only at hSw); go_simp; try (with_reducible rfl)
        try simp only [List.setIfInBounds_toArray, List.set_cons_zero, List.set_cons_succ]
        refine take_at (i := 12) (d := 61) (v := ?_) rfl rfl (by kernel_rfl) (by kernel_rfl) (by kernel_rfl) (fun _ _ _ _ => NormalOnly.any) rfl ?hy33 HS ?rest33
        case hy33 => intro w' hSw; (try dsimp only at hSw); go_simp; try (with_reducible rfl)
        try simp only [List.setIfInBounds_toArray, List.set_cons_zero, List.set_cons_succ]
        refine take_at (i := 13) (d := 62) (v := ?_) rfl rfl (by kernel_rfl) (by kernel_rfl) (by kernel_rfl) (fun _ _ _ _ => NormalOnly.any) rfl ?hy34 HS ?rest34
        case hy34 => intro w' hSw; (try dsimp only at hSw); go_simp; try (with_reducible rfl)
        try simp only [List.setIfInBounds_toArray, List.set_cons_zero, List.set_cons_succ]
        by_cases ht : t2 = th
        · have hb : bdO E o pre.length = false := by rw [HBD.out]; simp [ht]
          have hne : (t2 == th) = true := beq_iff_eq.2 ht
          refine take_at (i := 14) (d := 63) (v := ?_) rfl rfl (by kernel_rfl) (by kernel_rfl) (by kernel_rfl) (fun _ _ _ _ => NormalOnly.any) rfl ?hy35 HS ?rest35
          case hy35 => intro w' hSw; (try dsimp only at hSw); go_simp; try (with_reducible rfl)
          try simp only [List.setIfInBounds_toArray, List.set_cons_zero, List.set_cons_succ]
          refine take_at (i := 15) (d := 64) (v := ?_) rfl rfl (by kernel_rfl) (by kernel_rfl) (by kernel_rfl) (fun _ _ _ _ => NormalOnly.any) rfl ?hy36 HS ?rest36
          case hy36 => intro w' hSw; (try dsimp only at hSw); go_simp; try (with_reducible rfl)
          try simp only [List.setIfInBounds_toArray, List.set_cons_zero, List.set_cons_succ]
          refine wpAnyH_done (by kernel_rfl) ⟨rfl, ?_⟩ _
          clear HS
          gi_wp2
          exact ⟨⟨Nat.le_refl _, fun _ _ _ h _ => h⟩, ⟨Nat.le_refl _, fun _ _ => rfl⟩, (HI.out.st (StS.drew W)).st (StS.drew W.drew) |>.skip HX.out hb⟩
        · have hb : bdO E o pre.length = true := by rw [HBD.out]; simp [ht]
          have hne : (t2 == th) = false := beq_eq_false_iff_ne.2 ht
          refine take_at (i := 14) (d := 63) (v := ?_) rfl rfl (by kernel_rfl) (by kernel_rfl) (by kernel_rfl) (fun _ _ _ _ => NormalOnly.any) rfl ?hy37 HS ?rest37
          case hy37 => intro w' hSw; (try dsimp only at hSw); go_simp; try (with_reducible rfl)
          try simp only [List.setIfInBounds_toArray, List.set_cons_zero, List.set_cons_succ]
          refine take_at (i := 15) (d := 64) (v := ?_) rfl rfl (by kernel_rfl) (by kernel_rfl) (by kernel_rfl) (fun _ _ _ _ => NormalOnly.any) rfl ?hy38 HS ?rest38
          case hy38 => intro w' hSw; (try dsimp only at hSw); go_simp; try (with_reducible rfl)
          try simp only [List.setIfInBounds_toArray, List.set_cons_zero, List.set_cons_succ]
          refine wpAnyH_done (by kernel_rfl) ⟨rfl, ?_⟩ _
          clear HS
          gi_wp2
          have HS : W.drew.drew.drew.cell? ⟨w3.heap.size, 0, none⟩ = some (.pointer (some ⟨tb, 0, none⟩)) := (HP.out W.drew.drew.drew (Below.refl _ W).drew.drew.drew).1
          have cl : W.drew.drew.drew.cell? ⟨w6.heap.size, 0, none⟩ = some v := (HP.out W.drew.drew.drew (Below.refl _ W).drew.drew.drew).2.1
          refine region_round (fun w' => w'.cell? ⟨w3.heap.size, 0, none⟩ = some (.pointer (some ⟨tb, 0, none⟩))) (by kernel_rfl) (by kernel_rfl) ?_
          refine take_at (i := 1) (d := 66) (v := ?_) rfl rfl (by kernel_rfl) (by kernel_rfl) (by kernel_rfl) (fun _ _ _ _ => NormalOnly.any) rfl ?hy39 HS ?rest39
          case hy39 => intro w' hSw; (try dsimp only at hSw); go_simp; try (with_reducible rfl)
          try simp only [List.setIfInBounds_toArray, List.set_cons_zero, List.set_cons_succ]
          refine take_at (i := 2) (d := 67) (v := ?_) rfl rfl (by kernel_rfl) (by kernel_rfl) (by kernel_rfl) (fun _ _ _ _ => NormalOnly.any) rfl ?hy40 HS ?rest40
          case hy40 => intro w' hSw; (try dsimp only at hSw); go_simp; try (with_reducible rfl)
          try simp only [List.setIfInBounds_toArray, List.set_cons_zero, List.set_cons_succ]
          refine wpAnyH_ready (rs := [0, 3]) (by kernel_rfl) (by simp) ?_
          refine AllReadyH.cons rfl (fun K hK => ?_) (AllReadyH.cons rfl (fun K hK => ?_) AllReadyH.nil)
          · go_simp
            refine hK.out _ _ HS (fun _ => ?_)
            clear hK
            refine wpAnyH_ready (rs := [3]) (by kernel_rfl) (by simp) ?_
            refine AllReadyH.cons rfl (fun K hK => ?_) AllReadyH.nil
            go_simp
            refine HPL.out.mono ?_
            rintro e w2 ⟨rfl, b20⟩
            have b2 : Below W.heap.size W w2 := ((Below.refl _ W).drew.drew.drew).trans b20
            have b3 : Below W.heap.size W (w2.alloc (.cells #[.int .i64 th, .int .i64 (r1 : Nat), .int .i64 (r2 : Nat), .int .i64 (r3 : Nat)] 38)) := b2.alloc b2.size _
            obtain ⟨HS, cl2, ow2, hsz⟩ := HP.out w2 b2
            obtain ⟨HS3, cl3, _, _⟩ := HP.out _ b3
            clear b20 b3
            refine hK.out _ _ HS (fun _ => ?_)
            clear hK
            refine take_at (i := 4) (d := 69) (v := ?_) rfl rfl (by kernel_rfl) (by kernel_rfl) (by kernel_rfl) (fun _ _ _ _ => NormalOnly.any) rfl ?hy41 HS ?rest41
            case hy41 => intro w' hSw; (try dsimp only at hSw); go_simp; try (with_reducible rfl)
            try simp only [List.setIfInBounds_toArray, List.set_cons_zero, List.set_cons_succ]
            refine wpAnyH_ready (rs := [5]) (by kernel_rfl) (by simp) ?_
            refine AllReadyH.cons rfl (fun K hK => ?_) AllReadyH.nil
            go_simp
            refine hK.out _ _ HS3 (fun _ => ?_)
            clear hK
            refine wpAnyH_ready (rs := [6]) (by kernel_rfl) (by simp) ?_
            refine AllReadyH.cons rfl (fun K hK => ?_) AllReadyH.nil
            refine step_pushM (w0 := w2) rfl etLv rfl _ _ rfl w8.heap.size v L xs ow2 rfl #[.int .i64 th, .int .i64 (r1 : Nat), .int .i64 (r2 : Nat), .int .i64 (r3 : Nat)] w2.heap.size rfl rfl rfl (by simp [Value.oneCell']) (by omega) (by omega) hsz ?_
            intro ga cpa w9 hown hgr hmv
            obtain ⟨HS, c5, f5, HS6, FK⟩ := FIN.out ga cpa w2 w9 hb b2 hown hgr hmv
            have FK := Lib.hid FK
            clear hown hgr hmv FIN HS3 cl2 cl3 ow2
            simp only [Act.put, List.setIfInBounds_toArray]
            refine hK.out _ _ HS (fun _ => ?_)
            clear hK
            refine wpAnyH_ready (rs := [7]) (by kernel_rfl) (by simp) ?_
            refine AllReadyH.cons rfl (fun K hK => ?_) AllReadyH.nil
            go_simp
            refine hK.out _ _ HS6 (fun _ => ?_)
            clear hK
            refine wpAnyH_done (by kernel_rfl) ⟨rfl, ?_⟩ _
            clear HS HS6 c5 f5
            gi_wp2
            exact FK.out
          · go_simp
            refine HPL.out.mono ?_
            rintro e w2 ⟨rfl, b20⟩
            have b2 : Below W.heap.size W w2 := ((Below.refl _ W).drew.drew.drew).trans b20
            have b3 : Below W.heap.size W (w2.alloc (.cells #[.int .i64 th, .int .i64 (r1 : Nat), .int .i64 (r2 : Nat), .int .i64 (r3 : Nat)] 38)) := b2.alloc b2.size _
            obtain ⟨HS, cl2, ow2, hsz⟩ := HP.out w2 b2
            obtain ⟨HS3, cl3, _, _⟩ := HP.out _ b3
            clear b20 b3
            refine hK.out _ _ HS (fun _ => ?_)
            clear hK
            refine take_at (i := 4) (d := 69) (v := ?_) rfl rfl (by kernel_rfl) (by kernel_rfl) (by kernel_rfl) (fun _ _ _ _ => NormalOnly.any) rfl ?hy42 HS ?rest42
            case hy42 => intro w' hSw; (try dsimp only at hSw); go_simp; try (with_reducible rfl)
            try simp only [List.setIfInBounds_toArray, List.set_cons_zero, List.set_cons_succ]
            refine wpAnyH_ready (rs := [0, 5]) (by kernel_rfl) (by simp) ?_
            refine AllReadyH.cons rfl (fun K hK => ?_) (AllReadyH.cons rfl (fun K hK => ?_) AllReadyH.nil)
            · go_simp
              refine hK.out _ _ HS (fun _ => ?_)
              clear hK
              refine wpAnyH_ready (rs := [5]) (by kernel_rfl) (by simp) ?_
              refine AllReadyH.cons rfl (fun K hK => ?_) AllReadyH.nil
              go_simp
              refine hK.out _ _ HS3 (fun _ => ?_)
              clear hK
              refine wpAnyH_ready (rs := [6]) (by kernel_rfl) (by simp) ?_
              refine AllReadyH.cons rfl (fun K hK => ?_) AllReadyH.nil
              refine step_pushM (w0 := w2) rfl etLv rfl _ _ rfl w8.heap.size v L xs ow2 rfl #[.int .i64 th, .int .i64 (r1 : Nat), .int .i64 (r2 : Nat), .int .i64 (r3 : Nat)] w2.heap.size rfl rfl rfl (by simp [Value.oneCell']) (by omega) (by omega) hsz ?_
              intro ga cpa w9 hown hgr hmv
              obtain ⟨HS, c5, f5, HS6, FK⟩ := FIN.out ga cpa w2 w9 hb b2 hown hgr hmv
              have FK := Lib.hid FK
              clear hown hgr hmv FIN HS3 cl2 cl3 ow2
              simp only [Act.put, List.setIfInBounds_toArray]
              refine hK.out _ _ HS (fun _ => ?_)
              clear hK
              refine wpAnyH_ready (rs := [7]) (by kernel_rfl) (by simp) ?_
              refine AllReadyH.cons rfl (fun K hK => ?_) AllReadyH.nil
              go_simp
              refine hK.out _ _ HS6 (fun _ => ?_)
              clear hK
              refine wpAnyH_done (by kernel_rfl) ⟨rfl, ?_⟩ _
              clear HS HS6 c5 f5
              gi_wp2
              exact FK.out
            · go_simp
              refine hK.out _ _ HS3 (fun _ => ?_)
              clear hK
              refine wpAnyH_ready (rs := [0]) (by kernel_rfl) (by simp) ?_
              refine AllReadyH.cons rfl (fun K hK => ?_) AllReadyH.nil
              go_simp
              refine hK.out _ _ HS3 (fun _ => ?_)
              clear hK
              refine wpAnyH_ready (rs := [6]) (by kernel_rfl) (by simp) ?_
              refine AllReadyH.cons rfl (fun K hK => ?_) AllReadyH.nil
              refine step_pushM (w0 := w2) rfl etLv rfl _ _ rfl w8.heap.size v L xs ow2 rfl #[.int .i64 th, .int .i64 (r1 : Nat), .int .i64 (r2 : Nat), .int .i64 (r3 : Nat)] w2.heap.size rfl rfl rfl (by simp [Value.oneCell']) (by omega) (by omega) hsz ?_
              intro ga cpa w9 hown hgr hmv
              obtain ⟨HS, c5, f5, HS6, FK⟩ := FIN.out ga cpa w2 w9 hb b2 hown hgr hmv
              have FK := Lib.hid FK
              clear hown hgr hmv FIN HS3 cl2 cl3 ow2
              simp only [Act.put, List.setIfInBounds_toArray]
              refine hK.out _ _ HS (fun _ => ?_)
              clear hK
              refine wpAnyH_ready (rs := [7]) (by kernel_rfl) (by simp) ?_
              refine AllReadyH.cons rfl (fun K hK => ?_) AllReadyH.nil
              go_simp
              refine hK.out _ _ HS6 (fun _ => ?_)
              clear hK
              refine wpAnyH_done (by kernel_rfl) ⟨rfl, ?_⟩ _
              clear HS HS6 c5 f5
              gi_wp2
              exact FK.out
end Go.Proofs.YtpbgophogneecaaGreat
