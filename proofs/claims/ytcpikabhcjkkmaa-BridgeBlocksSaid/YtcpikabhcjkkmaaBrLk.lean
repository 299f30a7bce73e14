/- The walk of links of package bridge: the edges of each vertex, with their other ends. Conditions: the graph was made by New, or it is nil or zero. -/
import Derived.Test.YtcpikabhcjkkmaaAround
import Derived.Test.YtcpikabhcjkkmaaMrk
import Derived.Test.YtcpikabhcjkkmaaMe
namespace Go.Proofs.Ytcpikabhcjkkmaa
open Go.RowKit Go.Shelf
attribute [local go_sem] Oper.semAt_some

theorem Try.infoLk : (Try.prog.info? 106).map (fun i => (i.zero, i.size, i.bytes)) = some (some (.agg #[.int .i64 0, .int .i64 0]), 2, 16) := by kernel_rfl
theorem etLk : ET 104 106 2 16 := ET.of Try.underlying104 Try.infoLk rfl (by decide)
theorem Try.infoSL : (Try.prog.info? 104).map (fun i => (i.zero, i.size, i.bytes)) = some (some (.slice none 0 0), 1, 24) := by kernel_rfl
/-- a link as cells -/
def encL (p : Nat × Int) : List Value := [.int .i64 (p.1 : Nat), .int .i64 p.2]
abbrev LinkR (base eb n : Nat) (R : Nat → List (Nat × Int)) (w : World) : Prop := OwnRows 104 106 2 encL base eb n R w
/-- where the loop of links stands -/
def LSt (g : Option Addr) (o : Option (Nat × List Ed)) (n : Nat) (w : World) (a : Act) (wr : World) : Prop :=
  ∃ (k : Nat) (Ds : List Nat) (u4 u5 u6 u13 u14 u15 u16 u17 u18 u19 u20 u21 u22 u23 u24 u25 u26 u27 u28 u29 u30 u31 u32 : Value), k ≤ n ∧ LinkR w.heap.size w.heap.size n (fun i => if i < k then around o i else []) wr ∧ Boxed wr (w.heap.size + 1) 97 (.slice (some ⟨w.heap.size, 0, none⟩) n n) ∧ Below w.heap.size w wr ∧ Marks w.heap.size Ds wr ∧ a = { tmps := #[.pointer g, undef, .slice none 0 0, .pointer (some ⟨w.heap.size + 1, 0, none⟩), u4, u5, u6, .pointer g, .int .i64 (n : Nat), .slice (some ⟨w.heap.size, 0, none⟩) n n, .slice (some ⟨w.heap.size, 0, none⟩) n n, .int .i64 (n : Nat), .int .i64 (k : Nat), u13, u14, u15, u16, u17, u18, u19, u20, u21, u22, u23, u24, u25, u26, u27, u28, u29, u30, u31, u32, undef], defers := colD Ds }
/-- what links answers -/
def LkRes (o : Option (Nat × List Ed)) (w : World) (e : Ending) (w' : World) : Prop :=
  e = .returned (.slice (some ⟨w.heap.size, 0, none⟩) (gN o) (gN o)) ∧ LinkR w.heap.size w.heap.size (gN o) (fun i => around o i) w' ∧ Below w.heap.size w w'
set_option maxRecDepth 100000 in
set_option maxHeartbeats 4000000 in
theorem links_any (B : Nat) (g : Option Addr) (o : Option (Nat × List Ed)) (w : World) (h : GV w B (.pointer g) o) (hB : B ≤ w.heap.size) :
    Calls Try.prog 67 #[.pointer g] w (LkRes o w) := by
  refine (callsIn_wide (n := 12)).1 ?_
  obtain ⟨n, hgo⟩ : ∃ n, gN o = n := ⟨_, rfl⟩
  have hgn : n ≤ 4096 := by
    cases o with
    | none => rw [← hgo]; exact Nat.zero_le _
    | some x => obtain ⟨b, _, h2⟩ := h; rw [← hgo]; exact h2.ok.n_le
  have HGN := n_any B (.pointer g) o w h
  rw [hgo] at HGN
  have HGN := Lib.hid HGN
  have hmk : ∀ w, (Instr.makeSlice 97 (.int .i64 (n : Nat)) (.int .i64 (n : Nat))).run Try.prog w = .ok (.slice (some ⟨w.heap.size, 0, none⟩) n n) (w.alloc (.cells (madeCells #[.slice none 0 0] n) 104)) := fun w =>
    run_make_row' (P := Try.prog) 97 104 (.slice none 0 0) 24 Try.underlying97 Try.infoSL rfl .i64 .i64 n (by omega) (by omega) w
  have HG := Lib.hid h
  have Hgo := Lib.hid hgo
  clear h hgo
  refine callsIn_of_wp_marks Try.func67 rfl trivial ?_ rfl
  simp only [Try.ntmps67, List.size_toArray, List.length_cons, List.length_nil, Nat.reduceAdd, Nat.reduceSub, Array.replicate_succ, Array.replicate_zero, List.push_toArray, List.append_toArray, List.nil_append, List.cons_append]
  gi_wp2_with fail
  refine ⟨trivial, ?_⟩
  refine (callsIn_wide.2 HGN.out).mono ?_
  rintro e w' ⟨rfl, rfl⟩
  gi_wp2_with fail
  have R0 : LinkR w.heap.size w.heap.size n (fun i => if i < 0 then around o i else []) (((w.alloc (.cells (madeCells #[.slice none 0 0] n) 104)).alloc (.cells #[.slice (some ⟨w.heap.size, 0, none⟩) n n] 97))) :=
    ((OwnRows.start 104 106 2 encL w.heap.size n w (Nat.le_refl _) (by decide)).below ((Below.refl _ _).alloc (Nat.le_refl _) _)).congr fun i _ => by rw [if_neg (by omega)]
  have X0 : Boxed (((w.alloc (.cells (madeCells #[.slice none 0 0] n) 104)).alloc (.cells #[.slice (some ⟨w.heap.size, 0, none⟩) n n] 97))) (w.heap.size + 1) 97 (.slice (some ⟨w.heap.size, 0, none⟩) n n) := by
    have := Boxed.new (w.alloc (.cells (madeCells #[.slice none 0 0] n) 104)) 97 (.slice (some ⟨w.heap.size, 0, none⟩) n n)
    rwa [World.size_alloc] at this
  have B0 : Below w.heap.size w (((w.alloc (.cells (madeCells #[.slice none 0 0] n) 104)).alloc (.cells #[.slice (some ⟨w.heap.size, 0, none⟩) n n] 97))) := ((Below.refl _ w).alloc (Nat.le_refl _) _).alloc (by simp) _
  refine wpIn_loop (fun a wr => LSt g o n w a wr) (fun a _ => n - (intOf (a.tmps.getD 12 undef)).toNat) ?_ ?_
  · exact ⟨0, [], _, _, _, _, _, _, _, _, _, _, _, _, _, _, _, _, _, _, _, _, _, _, _, Nat.zero_le _, R0, X0, B0, Marks.nil _ _, rfl⟩
  rintro a wr ⟨k, Ds, u4, u5, u6, u13, u14, u15, u16, u17, u18, u19, u20, u21, u22, u23, u24, u25, u26, u27, u28, u29, u30, u31, u32, hk, R, X, bel, hM, rfl⟩
  clear R0 X0 B0 hmk
  by_cases hlt : k < n
  · have hszr := bel.size
    have hlb := R.lt
    have hxb := X.lt
    have hgr := HG.out.below (bel.mono hB)
    gi_wp2_with fail
    refine ⟨trivial, ?_⟩
    refine (callsIn_wide.2 (around_call _ _ _)).mono ?_
    rintro e w' ⟨rfl, rfl⟩
    gi_wp2_with fail
    obtain ⟨W0, hW0⟩ : ∃ W0, (((wr.alloc (.cells #[.int .i64 (k : Nat)] 3)).alloc (.cells #[.pointer g] 23)).alloc (.cells #[.int .i64 (k : Nat)] 3)) = W0 := ⟨_, rfl⟩
    have hs0 : W0.heap.size = wr.heap.size + 3 := by rw [← hW0]; simp
    have hB0 : Below wr.heap.size wr W0 := by rw [← hW0]; exact (((Below.refl _ wr).alloc (Nat.le_refl _) _).alloc (by simp) _).alloc (by simp; omega) _
    have q0 : Boxed W0 wr.heap.size 3 (.int .i64 (k : Nat)) := by
      rw [← hW0]; exact ((Boxed.new wr 3 (.int .i64 (k : Nat))).alloc _).alloc _
    have q1 : W0.heap[wr.heap.size + 1]? = some (.cells #[.pointer g] 23 (0, 0)) := by
      rw [← hW0, Below.heap_alloc _ _ _ (by simp only [World.size_alloc]; omega)]
      have := heap_alloc_new (wr.alloc (.cells #[.int .i64 (k : Nat)] 3)) (.cells #[.pointer g] 23)
      rwa [World.size_alloc] at this
    have q2 : W0.heap[wr.heap.size + 1 + 1]? = some (.cells #[.int .i64 (k : Nat)] 3 (0, 0)) := by
      rw [← hW0]
      have := heap_alloc_new ((wr.alloc (.cells #[.int .i64 (k : Nat)] 3)).alloc (.cells #[.pointer g] 23)) (.cells #[.int .i64 (k : Nat)] 3)
      rwa [World.size_alloc, World.size_alloc] at this
    have R0 : LinkR w.heap.size w.heap.size n (fun i => if i < k then around o i else if i = k then ([] : List (Nat × Int)) else []) W0 := (R.below hB0).congr fun i _ => by
      by_cases h1 : i < k
      · rw [if_pos h1, if_pos h1]
      · rw [if_neg h1, if_neg h1]; simp
    have X0 : Boxed W0 (w.heap.size + 1) 97 (.slice (some ⟨w.heap.size, 0, none⟩) n n) := (hB0.block _ hxb).trans X
    have hgW : GV W0 B (.pointer g) o := hgr.below (hB0.mono (by omega))
    have bel0 : Below w.heap.size w W0 := bel.trans (hB0.mono hszr)
    have free0 : ∀ v b, W0.cell? ⟨w.heap.size, k, none⟩ = some v → v.ownBlock = some b → (b < wr.heap.size ∨ W0.heap.size ≤ b) ∧ w.heap.size + 1 ≠ b := fun v b hv hb => by
      obtain ⟨v0, c1, _, c2⟩ := R.at hlt
      have c3 := (hB0.cell (p := ⟨w.heap.size, k, none⟩) hlb).trans c1
      rw [hv] at c3
      cases c3
      refine ⟨.inl (c2.lt b hb).2, fun e => X.not_row (by decide) c2 (by rw [e, hb])⟩
    have hHD : ∀ D, D ∈ Ds → D < wr.heap.size := fun D hD => hM.lt hD
    have hM0 := Lib.hid (hM.keep (KeepD.of_below hB0))
    have HHD := Lib.hid hHD
    clear hM hHD R X hgr bel
    rw [hW0]
    clear hW0
    refine rangeR (F := Fence.wide) rfl (by omega) (gf := 75) (lb := #[.pointer (some ⟨wr.heap.size + 1, 0, none⟩), .pointer (some ⟨wr.heap.size + 1 + 1, 0, none⟩)]) rfl trivial (enters_of Try.func75 (by kernel_rfl) rfl)
      (around_stops 11 (by omega) (wr.heap.size + 1) (wr.heap.size + 1 + 1) B g k o W0 hgW q1 q2 (by omega)) keepB_t (keepB_b (by omega) (by omega) (by omega)) (Below.refl _ _) (fun _ => rfl)
      (fun pre W => (LinkR w.heap.size w.heap.size n (fun i => if i < k then around o i else if i = k then pre else []) W ∧ Boxed W (w.heap.size + 1) 97 (.slice (some ⟨w.heap.size, 0, none⟩) n n) ∧ Boxed W wr.heap.size 3 (.int .i64 (k : Nat)) ∧ (∀ v b, W.cell? ⟨w.heap.size, k, none⟩ = some v → v.ownBlock = some b → (b < wr.heap.size ∨ W0.heap.size ≤ b) ∧ w.heap.size + 1 ≠ b) ∧ (∀ (D : Nat) (d : Option (List Deferred)), W0.heap[D]? = some (Obj.deferred d) → W.heap[D]? = some (Obj.deferred d)) ∧ W0.heap.size ≤ W.heap.size) ∧ Below w.heap.size w W)
      (fun _ _ _ => False)
      (OwnFrom.and (fun s A B row hs hg hr => ⟨hs.1.own hg (fun r e => (hr r e).2), boxed_own _ _ (fun _ : Unit => .slice (some ⟨w.heap.size, 0, none⟩) n n) () A B row hs.2.1 hg (fun r e => (hr r e).2), boxed_own _ _ (fun _ : Unit => .int .i64 (k : Nat)) () A B row hs.2.2.1 hg (fun r e => (hr r e).2),
          fun v b hv hb => by
            obtain ⟨v0, c1, _, _⟩ := hs.1.at hlt
            have c2 := cell_kept c1 hg (fun r e => (hr r e).2)
            rw [hv] at c2; cases c2
            exact hs.2.2.2.1 v b c1 hb,
          fun D d hD => by
            have h1 := hs.2.2.2.2.1 D d hD
            have h2 := (Array.getElem?_eq_some_iff.1 hD).1
            exact (hg.block D (by have := hs.2.2.2.2.2; omega) (fun e => by have := (hr _ e.symm).1; omega)).trans h1,
          Nat.le_trans hs.2.2.2.2.2 hg.size⟩)
        (ownFrom_below (Nat.le_refl _) (by omega)))
      (fun _ _ _ _ _ hs _ _ => hs)
      ⟨⟨R0, X0, q0, free0, fun _ _ h => h, Nat.le_refl _⟩, bel0⟩
      (fun _ x a' _ => a' = { tmps := #[.pointer g, undef, .slice none 0 0, .pointer (some ⟨w.heap.size + 1, 0, none⟩), .pointer (some ⟨wr.heap.size, 0, none⟩), .int .i64 (x.1 : Nat), .int .i64 x.2, .pointer g, .int .i64 (n : Nat), .slice (some ⟨w.heap.size, 0, none⟩) n n, .slice (some ⟨w.heap.size, 0, none⟩) n n, .int .i64 (n : Nat), .int .i64 (k : Nat), .bool true, .int .i64 (k : Nat), .pointer g, .int .i64 (k : Nat), .func (.func 75) #[] #[.pointer (some ⟨wr.heap.size + 1, 0, none⟩), .pointer (some ⟨wr.heap.size + 1 + 1, 0, none⟩)], .int .i64 (x.1 : Nat), .int .i64 x.2, u20, u21, u22, u23, u24, u25, u26, u27, u28, u29, u30, u31, u32, undef], defers := [] })
      (fun _ _ _ _ _ _ _ hs _ _ => hs) ?assign ?body ?done ?stop
    case assign =>
      intro l pre x W K hI hR hK
      gi_wp2
      exact hK _ _ (KeepsFrom.refl _ _) ⟨Below.refl _ _, rfl, rfl⟩ hI rfl
    case body =>
      rintro l pre x a' W hl - ⟨⟨R, X, V, free, kd, hsW⟩, belW⟩ rfl hR
      have hki : (0 : Int) ≤ k ∧ (k : Int) < n := by omega
      have hlen : pre.length ≤ 16384 := by
        have h5 := hR.length_le
        have h6 := gAdj_len hgW (k : Int)
        simp [around] at h5
        omega
      obtain ⟨v, cv, fv, ow⟩ := R.at hlt
      rw [if_neg (Nat.lt_irrefl k), if_pos rfl] at ow
      have Rd : LinkR w.heap.size w.heap.size n (fun i => if i < k then around o i else if i = k then pre else []) W.drew := R.below (Below.refl _ W).drew
      have owd : W.drew.ownsRow w.heap.size 106 2 v pre.length (List.flatMap encL pre) := ow
      have cv0 : W.drew.cell? ⟨w.heap.size, k, none⟩ = some v := cv
      have cv1 : ((W.alloc (.cells #[.int .i64 (x.1 : Nat), .int .i64 x.2] 106)).drew).cell? ⟨w.heap.size, k, none⟩ = some v := by
        have : (W.alloc (.cells #[.int .i64 (x.1 : Nat), .int .i64 x.2] 106)).cell? ⟨w.heap.size, k, none⟩ = some v := by
          rw [World.cell?_alloc_some _ _ _ (by rw [cv]; rfl)]; exact cv
        exact this
      have hbs : w.heap.size ≤ W.drew.heap.size := belW.size
      have FIN := Lib.hid (show ∀ (g1 cp : Nat) (w1 : World), w1.ownsRow w.heap.size 106 2 (.slice (some ⟨g1, 0, none⟩) (pre.length + 1 : Nat) cp) (pre.length + 1) (List.flatMap encL pre ++ (#[Value.int .i64 (x.1 : Nat), .int .i64 x.2] : Array Value).toList) → W.drew.grownBy w1 v.ownBlock → Moved W.drew v g1 →
          (w1.cell? ⟨w.heap.size, k, none⟩ = some v ∧ w1.frozen? ⟨w.heap.size, k, none⟩ = false ∧ Boxed w1 (w.heap.size + 1) 97 (.slice (some ⟨w.heap.size, 0, none⟩) n n) ∧ Boxed w1 wr.heap.size 3 (.int .i64 (k : Nat))) ∧
          (KeepsFrom W0.heap.size W (w1.setCell ⟨w.heap.size, k, none⟩ (.slice (some ⟨g1, 0, none⟩) (pre.length + 1 : Nat) cp)) ∧ KeepB B (wr.heap.size + 1) (wr.heap.size + 1 + 1) W (w1.setCell ⟨w.heap.size, k, none⟩ (.slice (some ⟨g1, 0, none⟩) (pre.length + 1 : Nat) cp)) ∧
          (LinkR w.heap.size w.heap.size n (fun i => if i < k then around o i else if i = k then (pre ++ [x]) else []) (w1.setCell ⟨w.heap.size, k, none⟩ (.slice (some ⟨g1, 0, none⟩) (pre.length + 1 : Nat) cp)) ∧ Boxed (w1.setCell ⟨w.heap.size, k, none⟩ (.slice (some ⟨g1, 0, none⟩) (pre.length + 1 : Nat) cp)) (w.heap.size + 1) 97 (.slice (some ⟨w.heap.size, 0, none⟩) n n) ∧ Boxed (w1.setCell ⟨w.heap.size, k, none⟩ (.slice (some ⟨g1, 0, none⟩) (pre.length + 1 : Nat) cp)) wr.heap.size 3 (.int .i64 (k : Nat)) ∧ (∀ v' b, (w1.setCell ⟨w.heap.size, k, none⟩ (.slice (some ⟨g1, 0, none⟩) (pre.length + 1 : Nat) cp)).cell? ⟨w.heap.size, k, none⟩ = some v' → v'.ownBlock = some b → (b < wr.heap.size ∨ W0.heap.size ≤ b) ∧ w.heap.size + 1 ≠ b) ∧ (∀ (D : Nat) (d : Option (List Deferred)), W0.heap[D]? = some (Obj.deferred d) → (w1.setCell ⟨w.heap.size, k, none⟩ (.slice (some ⟨g1, 0, none⟩) (pre.length + 1 : Nat) cp)).heap[D]? = some (Obj.deferred d)) ∧ W0.heap.size ≤ (w1.setCell ⟨w.heap.size, k, none⟩ (.slice (some ⟨g1, 0, none⟩) (pre.length + 1 : Nat) cp)).heap.size) ∧ Below w.heap.size w (w1.setCell ⟨w.heap.size, k, none⟩ (.slice (some ⟨g1, 0, none⟩) (pre.length + 1 : Nat) cp))) from by
        intro g1 cp w1 hown1 hg1 hmv
        have hne1 : v.ownBlock ≠ some (w.heap.size + 1) := fun e => (free v _ cv e).2 rfl
        have hneB : ∀ b, wr.heap.size ≤ b → b < W0.heap.size → v.ownBlock ≠ some b := fun b h1 h2 e => by have := (free v _ cv e).1; omega
        have hsz1 : W.heap.size ≤ w1.heap.size := hg1.size
        have X1 : Boxed w1 (w.heap.size + 1) 97 (.slice (some ⟨w.heap.size, 0, none⟩) n n) := grown_box (w := W.drew) hg1 X hne1
        have V1 : Boxed w1 wr.heap.size 3 (.int .i64 (k : Nat)) := grown_box (w := W.drew) hg1 V (hneB _ (Nat.le_refl _) (by omega))
        have hnE : v.ownBlock ≠ some w.heap.size := fun e => by
          rcases ow.2 with ⟨e1, _⟩ | ⟨g, cap, cur, e1, _, e3, _⟩
          · rw [e1] at e; cases e
          · rw [e1] at e
            have e : g = w.heap.size := Option.some.inj e
            subst e
            obtain ⟨V', ⟨cc, k1, _⟩, _⟩ := R.ex
            rw [k1] at e3
            simp at e3
        have hEb : w1.heap[w.heap.size]? = W.heap[w.heap.size]? := hg1.block _ (show w.heap.size < W.heap.size by omega) (fun e => hnE e.symm)
        have c1 : w1.cell? ⟨w.heap.size, k, none⟩ = some v := (World.cell?_of_block hEb).trans cv
        have f1 : w1.frozen? ⟨w.heap.size, k, none⟩ = false := (World.frozen?_of_block hEb).trans fv
        have hp := OwnRows.push (x := x) (cap := cp) Rd hlt cv0 (by simp only [Nat.lt_irrefl, if_false, if_true]; exact hown1) (by simp only [Nat.lt_irrefl, if_false, if_true]) hg1 hmv
        refine ⟨⟨c1, f1, X1, V1⟩, ⟨by simpa [World.setCell] using hsz1, fun b o hb ho hc => ?_⟩, ⟨?_, ?_, ?_⟩, ⟨hp.congr fun i _ => ?_, box_far X1 (by show w.heap.size + 1 ≠ w.heap.size; omega) _, box_far V1 (by show wr.heap.size ≠ w.heap.size; omega) _, fun v' b hv' hb => ?_, fun D d hD => ?_, ?_⟩, ?_⟩
        · exact (Below.heap_setCell _ _ _ _ (by show b ≠ w.heap.size; omega)).trans (grown_others (w := W.drew) owd hg1 ho hc)
        · exact ((((Below.refl B W).drew).grown hg1 (Nat.le_trans hB hbs) (fun j e => Nat.le_trans hB (ow.lt j e).1))).setCell (p := ⟨w.heap.size, k, none⟩) hB _
        · exact (Below.heap_setCell _ _ _ _ (by show wr.heap.size + 1 ≠ w.heap.size; omega)).trans (hg1.block _ (by show _ < W.heap.size; omega) (fun e => hneB _ (by omega) (by omega) e.symm))
        · exact (Below.heap_setCell _ _ _ _ (by show wr.heap.size + 1 + 1 ≠ w.heap.size; omega)).trans (hg1.block _ (by show _ < W.heap.size; omega) (fun e => hneB _ (by omega) (by omega) e.symm))
        · by_cases e1 : i = k
          · subst e1; simp
          · simp [e1]
        · rw [World.cell?_setCell_same _ _ _ c1] at hv'
          cases hv'
          have hb : g1 = b := Option.some.inj hb
          subst hb
          rcases hmv with c | c
          · exact free v _ cv c
          · have c : W.heap.size ≤ g1 := c
            exact ⟨.inr (by omega), by omega⟩
        · refine (Below.heap_setCell _ _ _ _ (fun e => ?_)).trans (grown_others (w := W.drew) owd hg1 (kd D d hD) rfl)
          have e : D = w.heap.size := e
          subst e
          obtain ⟨V', ⟨cc, k1, _⟩, _⟩ := R.ex
          have := kd _ d hD
          rw [k1] at this; cases this
        · have : (w1.setCell ⟨w.heap.size, k, none⟩ (.slice (some ⟨g1, 0, none⟩) (pre.length + 1 : Nat) cp)).heap.size = w1.heap.size := by simp [World.setCell]
          omega
        · exact ((belW.drew).grown hg1 hbs (fun j e => (ow.lt j e).1)).setCell (p := ⟨w.heap.size, k, none⟩) (Nat.le_refl _) _)
      gi_wp2_with fail
      have HS : W.drew.cell? ⟨w.heap.size + 1, 0, none⟩ = some (.slice (some ⟨w.heap.size, 0, none⟩) n n) ∧ W.drew.cell? ⟨wr.heap.size, 0, none⟩ = some (.int .i64 (k : Nat)) := ⟨X.cell, V.cell⟩
      have HS1 : ((W.alloc (.cells #[.int .i64 (x.1 : Nat), .int .i64 x.2] 106)).drew).cell? ⟨w.heap.size + 1, 0, none⟩ = some (.slice (some ⟨w.heap.size, 0, none⟩) n n) ∧ ((W.alloc (.cells #[.int .i64 (x.1 : Nat), .int .i64 x.2] 106)).drew).cell? ⟨wr.heap.size, 0, none⟩ = some (.int .i64 (k : Nat)) := ⟨(X.alloc _).cell, (V.alloc _).cell⟩
      clear R X V free kd hR Rd ow cv fv
      refine region_round (fun w' => w'.cell? ⟨w.heap.size + 1, 0, none⟩ = some (.slice (some ⟨w.heap.size, 0, none⟩) n n) ∧ w'.cell? ⟨wr.heap.size, 0, none⟩ = some (.int .i64 (k : Nat))) (by kernel_rfl) (by kernel_rfl) ?_
      refine take_at (i := 0) (d := 20) (v := ?_) rfl rfl (by kernel_rfl) (by kernel_rfl) (by kernel_rfl) (fun _ _ _ _ => NormalOnly.any) rfl ?hy1 HS ?rest1
      case hy1 => intro w' hSw; (try dsimp only at hSw); go_simp; try (with_reducible rfl)
      try simp only [List.setIfInBounds_toArray, List.set_cons_zero, List.set_cons_succ]
      refine take_at (i := 1) (d := 21) (v := ?_) rfl rfl (by kernel_rfl) (by kernel_rfl) (by kernel_rfl) (fun _ _ _ _ => NormalOnly.any) rfl ?hy2 HS ?rest2
      case hy2 => intro w' hSw; (try dsimp only at hSw); go_simp; try (with_reducible rfl)
      try simp only [List.setIfInBounds_toArray, List.set_cons_zero, List.set_cons_succ]
      refine take_at (i := 2) (d := 22) (v := ?_) rfl rfl (by kernel_rfl) (by kernel_rfl) (by kernel_rfl) (fun _ _ _ _ => NormalOnly.any) rfl ?hy3 HS ?rest3
      case hy3 => intro w' hSw; (try dsimp only at hSw); go_simp; try (with_reducible rfl)
      try simp only [List.setIfInBounds_toArray, List.set_cons_zero, List.set_cons_succ]
      refine take_at (i := 3) (d := 23) (v := ?_) rfl rfl (by kernel_rfl) (by kernel_rfl) (by kernel_rfl) (fun _ _ _ _ => NormalOnly.any) rfl ?hy4 HS ?rest4
      case hy4 => intro w' hSw; (try dsimp only at hSw); go_simp; try (with_reducible rfl)
      try simp only [List.setIfInBounds_toArray, List.set_cons_zero, List.set_cons_succ]
      refine take_at (i := 4) (d := 24) (v := ?_) rfl rfl (by kernel_rfl) (by kernel_rfl) (by kernel_rfl) (fun _ _ _ _ => NormalOnly.any) rfl ?hy5 HS ?rest5
      case hy5 => intro w' hSw; (try dsimp only at hSw); go_simp; try (with_reducible rfl)
      try simp only [List.setIfInBounds_toArray, List.set_cons_zero, List.set_cons_succ]
      refine take_at (i := 6) (d := 26) (v := ?_) rfl rfl (by kernel_rfl) (by kernel_rfl) (by kernel_rfl) (fun _ _ _ _ => NormalOnly.any) rfl ?hy6 HS ?rest6
      case hy6 => intro w' hSw; (try dsimp only at hSw); go_simp; try (with_reducible rfl)
      try simp only [List.setIfInBounds_toArray, List.set_cons_zero, List.set_cons_succ]
      refine take_at (i := 7) (d := 27) (v := ?_) rfl rfl (by kernel_rfl) (by kernel_rfl) (by kernel_rfl) (fun _ _ _ _ => NormalOnly.any) rfl ?hy7 HS ?rest7
      case hy7 => intro w' hSw; (try dsimp only at hSw); go_simp; try (with_reducible rfl)
      try simp only [List.setIfInBounds_toArray, List.set_cons_zero, List.set_cons_succ]
      refine take_at (i := 8) (d := 28) (v := ?_) rfl rfl (by kernel_rfl) (by kernel_rfl) (by kernel_rfl) (fun _ _ _ _ => NormalOnly.any) rfl ?hy8 HS ?rest8
      case hy8 => intro w' hSw; (try dsimp only at hSw); go_simp; try (with_reducible rfl)
      try simp only [List.setIfInBounds_toArray, List.set_cons_zero, List.set_cons_succ]
      refine wpAnyH_ready (rs := [5, 9]) (by kernel_rfl) (by simp) ?_
      refine AllReadyH.cons rfl (fun K hK => ?_) (AllReadyH.cons rfl (fun K hK => ?_) AllReadyH.nil)
      · go_simp
        refine hK.out _ _ HS (fun _ => ?_)
        clear hK
        refine wpAnyH_ready (rs := [9]) (by kernel_rfl) (by simp) ?_
        refine AllReadyH.cons rfl (fun K hK => ?_) AllReadyH.nil
        go_simp
        refine hK.out _ _ HS1 (fun _ => ?_)
        clear hK
        refine wpAnyH_ready (rs := [10]) (by kernel_rfl) (by simp) ?_
        refine AllReadyH.cons rfl (fun K hK => ?_) AllReadyH.nil
        refine step_pushM (w0 := W.drew) rfl etLk rfl _ _ rfl w.heap.size v pre.length _ owd rfl #[.int .i64 (x.1 : Nat), .int .i64 x.2] _ rfl rfl rfl (by simp [Value.oneCell']) (by omega) (by omega) hbs ?_
        intro g1 cp w1 hown1 hg1 hmv
        obtain ⟨⟨c1, f1, X1, V1⟩, FF⟩ := FIN.out g1 cp w1 hown1 hg1 hmv
        have FF := Lib.hid FF
        have HS := And.intro X1.cell V1.cell
        have HS2 := And.intro (box_far X1 (a := ⟨w.heap.size, k, none⟩) (by show w.heap.size + 1 ≠ w.heap.size; omega) (.slice (some ⟨g1, 0, none⟩) (pre.length + 1 : Nat) cp)).cell (box_far V1 (a := ⟨w.heap.size, k, none⟩) (by show wr.heap.size ≠ w.heap.size; omega) (.slice (some ⟨g1, 0, none⟩) (pre.length + 1 : Nat) cp)).cell
        clear X1 V1 hown1 hg1 hmv cv0 cv1 HS1 owd
        simp only [Act.put, List.setIfInBounds_toArray]
        refine hK.out _ _ HS (fun _ => ?_)
        clear hK
        refine take_at (i := 11) (d := 31) (v := ?_) rfl rfl (by kernel_rfl) (by kernel_rfl) (by kernel_rfl) (fun _ _ _ _ => NormalOnly.any) rfl ?hy9 HS ?rest9
        case hy9 => intro w' hSw; (try dsimp only at hSw); go_simp; try (with_reducible rfl)
        try simp only [List.setIfInBounds_toArray, List.set_cons_zero, List.set_cons_succ]
        refine wpAnyH_ready (rs := [12]) (by kernel_rfl) (by simp) ?_
        refine AllReadyH.cons rfl (fun K hK => ?_) AllReadyH.nil
        go_simp
        refine hK.out _ _ HS2 (fun _ => ?_)
        clear hK
        refine wpAnyH_done (by kernel_rfl) ⟨rfl, ?_⟩ _
        exact FF.out
      · go_simp
        refine hK.out _ _ HS1 (fun _ => ?_)
        clear hK
        refine wpAnyH_ready (rs := [5]) (by kernel_rfl) (by simp) ?_
        refine AllReadyH.cons rfl (fun K hK => ?_) AllReadyH.nil
        go_simp
        refine hK.out _ _ HS1 (fun _ => ?_)
        clear hK
        refine wpAnyH_ready (rs := [10]) (by kernel_rfl) (by simp) ?_
        refine AllReadyH.cons rfl (fun K hK => ?_) AllReadyH.nil
        refine step_pushM (w0 := W.drew) rfl etLk rfl _ _ rfl w.heap.size v pre.length _ owd rfl #[.int .i64 (x.1 : Nat), .int .i64 x.2] _ rfl rfl rfl (by simp [Value.oneCell']) (by omega) (by omega) hbs ?_
        intro g1 cp w1 hown1 hg1 hmv
        obtain ⟨⟨c1, f1, X1, V1⟩, FF⟩ := FIN.out g1 cp w1 hown1 hg1 hmv
        have FF := Lib.hid FF
        have HS := And.intro X1.cell V1.cell
        have HS2 := And.intro (box_far X1 (a := ⟨w.heap.size, k, none⟩) (by show w.heap.size + 1 ≠ w.heap.size; omega) (.slice (some ⟨g1, 0, none⟩) (pre.length + 1 : Nat) cp)).cell (box_far V1 (a := ⟨w.heap.size, k, none⟩) (by show wr.heap.size ≠ w.heap.size; omega) (.slice (some ⟨g1, 0, none⟩) (pre.length + 1 : Nat) cp)).cell
        clear X1 V1 hown1 hg1 hmv cv0 cv1 HS1 owd
        simp only [Act.put, List.setIfInBounds_toArray]
        refine hK.out _ _ HS (fun _ => ?_)
        clear hK
        refine take_at (i := 11) (d := 31) (v := ?_) rfl rfl (by kernel_rfl) (by kernel_rfl) (by kernel_rfl) (fun _ _ _ _ => NormalOnly.any) rfl ?hy10 HS ?rest10
        case hy10 => intro w' hSw; (try dsimp only at hSw); go_simp; try (with_reducible rfl)
        try simp only [List.setIfInBounds_toArray, List.set_cons_zero, List.set_cons_succ]
        refine wpAnyH_ready (rs := [12]) (by kernel_rfl) (by simp) ?_
        refine AllReadyH.cons rfl (fun K hK => ?_) AllReadyH.nil
        go_simp
        refine hK.out _ _ HS2 (fun _ => ?_)
        clear hK
        refine wpAnyH_done (by kernel_rfl) ⟨rfl, ?_⟩ _
        exact FF.out
    case done =>
      rintro D xs W hD rfl ⟨⟨R, X, V, free, kd, hsW⟩, belW⟩ hK
      have R2 : LinkR w.heap.size w.heap.size n (fun i => if i < k + 1 then around o i else []) W := R.congr fun i _ => by
        by_cases e1 : i < k
        · rw [if_pos e1, if_pos (by omega)]
        · rw [if_neg e1]
          by_cases e2 : i = k
          · subst e2; rw [if_pos rfl, if_pos (by omega)]
          · rw [if_neg e2, if_neg (by omega)]
      have hMW : Marks w.heap.size (D :: Ds) W := (hM0.out.keep kd).cons hK (by omega) (fun h => by have := HHD.out D h; omega)
      have HMW := Lib.hid hMW
      clear R V free kd hK hMW
      gi_wp2_with fail
      refine ⟨⟨k + 1, D :: Ds, _, _, _, _, _, _, _, _, _, _, _, _, _, _, _, _, _, _, _, _, _, _, _, by omega, R2, X, belW, HMW.out, rfl⟩, ?_⟩
      simp [intOf]; omega
    case stop =>
      rintro D c pre W _ h _
      exact h.elim
  · obtain rfl : k = n := by omega
    have R2 : LinkR w.heap.size w.heap.size k (fun i => around o i) wr := R.congr fun i hi => if_pos hi
    have hM5 := Lib.hid hM
    have cx : wr.cell? ⟨w.heap.size + 1, 0, none⟩ = some (.slice (some ⟨w.heap.size, 0, none⟩) k k) := X.cell
    clear hM R
    gi_wp2_with fail
    refine leaves_col w.heap.size (fun w => results_tmp rfl _ _ _) Ds wr hM5.out fun w' hw' => ?_
    unfold LkRes
    rw [Hgo.out]
    refine ⟨rfl, ?_, bel.trans hw'.below⟩
    obtain ⟨V, h1, h2, h3⟩ := R2.ex
    have hrow : ∀ (k : Nat) (c : Array Value) (t : TypeId) (fz : Nat × Nat), wr.heap[k]? = some (.cells c t fz) → w'.heap[k]? = some (.cells c t fz) := fun k c t fz hk => hw'.same k _ hk (fun d e => by cases e)
    refine ⟨R2.lo, R2.ne, V, ?_, fun i hi => ?_, h3⟩
    · obtain ⟨c, k1, k2⟩ := h1
      exact ⟨c, hrow _ _ _ _ k1, k2⟩
    · refine ⟨(h2 i hi).1, (h2 i hi).2.imp id ?_⟩
      rintro ⟨gg, cap, cur, e1, e2, e3, e4⟩
      exact ⟨gg, cap, cur, e1, e2, hrow _ _ _ _ e3, e4⟩
end Go.Proofs.Ytcpikabhcjkkmaa
