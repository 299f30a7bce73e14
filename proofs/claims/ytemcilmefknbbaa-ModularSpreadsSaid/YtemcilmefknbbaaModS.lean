/- The state of package modular in memory, and the walk of begin. Conditions: the graph was made by New; there are as many labels as vertices. -/
import Derived.Test.YtemcilmefknbbaaModW1
namespace Go.Proofs.Ytemcilmefknbbaa
open Go.RowKit Go.Shelf Go.Maps

/-- the cells of a state -/
def stC (gv : Value) (la : Option Addr) (n lc : Nat) (ed : Int) (mb : Nat) : Nat → Value
  | 0 => gv
  | 1 => .slice la n lc
  | 2 => .int .i64 ed
  | _ => .map (some mb)
/-- the labels of a state: a row of its own -/
def LabR (w : World) (base sb : Nat) (la : Option Addr) (L : List Int) : Prop := L = [] ∨ ∃ lb, la = some ⟨lb, 0, none⟩ ∧ base ≤ lb ∧ lb ≠ sb ∧ Row w lb L.length (fun i => .int .i64 (nth L i))
/-- a map of the call's own, of numbers -/
abbrev OwnM (w : World) (mb N : Nat) (D : DataW Unit) : Prop := w.ownsMap Try.prog 3 (plainElem (H := Unit) Try.prog 2) mb N D
structure StAt (w : World) (base sb : Nat) (gv : Value) (L : List Int) (ed : Int) (N : Nat) (f : Int → Int) : Prop where
  lo : base ≤ sb
  mem : ∃ la lc mb D, Row w sb 4 (stC gv la L.length lc ed mb) ∧ LabR w base sb la L ∧ base ≤ mb ∧ OwnM w mb N D ∧ DegM D f
section
variable {w w' : World} {base sb : Nat} {gv : Value} {la : Option Addr} {L : List Int} {ed : Int} {N : Nat} {f : Int → Int}
theorem ownsMap_below {mb N : Nat} {D : DataW Unit} (h : OwnM w mb N D) (hb : Below w.heap.size w w') : OwnM w' mb N D := by
  have hlt := h.lt
  obtain ⟨es, clock, h1, h2⟩ := h
  exact ⟨es, clock, (hb.block mb hlt).trans h1, h2⟩
theorem LabR.of (h : LabR w base sb la L) (e : ∀ lb, la = some ⟨lb, 0, none⟩ → w'.heap[lb]? = w.heap[lb]?) : LabR w' base sb la L := by
  rcases h with h | ⟨lb, h1, h2, h3, h4⟩
  · exact .inl h
  · exact .inr ⟨lb, h1, h2, h3, h4.of_block (e lb h1)⟩
theorem LabR.below (h : LabR w base sb la L) (hb : Below w.heap.size w w') : LabR w' base sb la L := by
  rcases h with h | ⟨lb, h1, h2, h3, h4⟩
  · exact .inl h
  · exact .inr ⟨lb, h1, h2, h3, h4.of_block (hb.block _ h4.lt)⟩
theorem StAt.below (h : StAt w base sb gv L ed N f) (hb : Below w.heap.size w w') : StAt w' base sb gv L ed N f := by
  obtain ⟨la, lc, mb, D, h1, h2, h3, h4, h5⟩ := h.mem
  exact ⟨h.lo, la, lc, mb, D, h1.of_block (hb.block _ h1.lt), h2.below hb, h3, ownsMap_below h4 hb, h5⟩
theorem StAt.lt (h : StAt w base sb gv L ed N f) : sb < w.heap.size := by
  obtain ⟨la, lc, mb, D, h1, _⟩ := h.mem
  exact h1.lt
theorem StAt.congr {g : Int → Int} (h : StAt w base sb gv L ed N f) (e : ∀ x, f x = g x) : StAt w base sb gv L ed N g := by
  have : f = g := funext e
  rw [← this]; exact h
theorem LabR.rd (h : LabR w base sb la L) (lc : Nat) : ∃ A, Sl 23 .i64 w w.heap.size (.slice la L.length lc) L A := by
  rcases h with rfl | ⟨lb, rfl, _, _, h4⟩
  · exact ⟨fun _ => ⟨0, 0, none⟩, Rd.nil _⟩
  · refine ⟨_, Rd.addr etI (fun _ => h4.lt) fun i hi j hj => ?_⟩
    obtain rfl : j = 0 := by omega
    rw [add_mk, Nat.mul_one, Nat.add_zero, Nat.zero_add]
    exact h4.cell hi
end
/-- what stands at a key -/
theorem look_eq {w : World} {mb N : Nat} {D : DataW Unit} {f : Int → Int} (hown : OwnM w mb N D) (hA : MapA D f) {x : Int} (hx : (Lit.int .i64 x).wf = true) :
    (Instr.lookup 70 (.map (some mb)) (.int .i64 x) false).run Try.prog w = .ok (.int .i64 (f x)) w := by
  obtain ⟨c, hrun, hat, _⟩ := hown.lookup_int lawI Try.underlying70 Try.underlying2 (zeroI _) (keyOf_int_mk Try.underlying3 hx)
  have e := i64D_inj (hat.symm.trans (hA.at_ x))
  rw [← e]; exact hrun
theorem row_other {w w' : World} {mb g n : Nat} {f : Nat → Value} {N : Nat} {D : DataW Unit} (hown : OwnM w mb N D) (h : Row w g n f) (hg : w.grownBy w' (some mb)) : Row w' g n f := by
  refine h.of_block (hg.block g h.lt fun e => ?_)
  obtain ⟨es, ck, h1, _⟩ := hown
  obtain ⟨c, t, h2, _⟩ := h
  have : g = mb := by simpa using e
  subst this
  rw [h2] at h1; simp at h1
theorem labR_other {w w' : World} {mb base sb : Nat} {la : Option Addr} {L : List Int} {N : Nat} {D : DataW Unit} (hown : OwnM w mb N D) (h : LabR w base sb la L) (hg : w.grownBy w' (some mb)) : LabR w' base sb la L := by
  rcases h with h | ⟨lb, h1, h2, h3, h4⟩
  · exact .inl h
  · exact .inr ⟨lb, h1, h2, h3, row_other hown h4 hg⟩
/-- the labels are numbers that Go's int holds -/
def LWf (L : List Int) : Prop := ∀ x, x ∈ L → (Lit.int .i64 x).wf = true
theorem LWf.nth {L : List Int} (h : LWf L) {k : Nat} (hk : k < L.length) : (Lit.int .i64 (nth L k)).wf = true := h _ (by rw [nth_eq hk]; exact List.getElem_mem hk)
theorem dTo_bd {n : Nat} {E : List Ed} (G : GOk n E) (L : List Int) (x : Int) {k : Nat} (hk : k ≤ n) : 0 ≤ dTo E L x k ∧ dTo E L x k ≤ 32768 := by
  have h1 := dTo_nonneg E L x k
  have h2 := dTo_le G L x hk
  have h3 := G.m_le
  omega
theorem ownM_of {w w' : World} {mb N : Nat} {D : DataW Unit} (h : OwnM w mb N D) (e : w'.heap[mb]? = w.heap[mb]?) : OwnM w' mb N D := by
  obtain ⟨es, ck, h1, h2⟩ := h
  exact ⟨es, ck, e.trans h1, h2⟩
theorem ownM_ne {w : World} {mb N g n : Nat} {D : DataW Unit} {f : Nat → Value} (h : OwnM w mb N D) (hr : Row w g n f) : mb ≠ g := by
  obtain ⟨es, ck, h1, _⟩ := h
  obtain ⟨c, t, h2, _⟩ := hr
  intro e
  subst e
  rw [h2] at h1; simp at h1
theorem stC_set (gv : Value) (la : Option Addr) (n lc : Nat) (ed ed' : Int) (mb : Nat) (i : Nat) : (if i = 2 then Value.int .i64 ed' else stC gv la n lc ed mb i) = stC gv la n lc ed' mb i := by
  match i with
  | 0 => rfl
  | 1 => rfl
  | 2 => rfl
  | i + 3 => rfl
/-- the number of the edges is set -/
theorem StAt.setEd {w : World} {base sb : Nat} {gv : Value} {L : List Int} {ed : Int} {N : Nat} {f : Int → Int} (h : StAt w base sb gv L ed N f) (ed' : Int) : StAt (w.setCell ⟨sb, 2, none⟩ (.int .i64 ed')) base sb gv L ed' N f := by
  obtain ⟨la, lc, mb, D, h1, h2, h3, h4, h5⟩ := h.mem
  refine ⟨h.lo, la, lc, mb, D, (h1.set 2 _).congr fun i _ => stC_set _ _ _ _ _ _ _ _, ?_, h3, ownM_of h4 (Below.heap_setCell _ _ _ _ (ownM_ne h4 h1)), h5⟩
  rcases h2 with h | ⟨lb, e1, e2, e3, e4⟩
  · exact .inl h
  · exact .inr ⟨lb, e1, e2, e3, e4.setOther e3 _⟩
theorem degree_in (B : Nat) (v : Value) (n : Nat) (E : List Ed) (u : Nat) (w : World) (h : GV w B v (some (n, E))) (hu : u < n) :
    Calls Try.prog 29 #[v, .int .i64 (u : Nat)] w fun e w' => e = .returned (.int .i64 (deg E u : Nat)) ∧ ∃ q, w' = w.drewN q := by
  have h1 := degree_any B v _ (u : Int) w h
  have e : (gAdj (some (n, E)) (u : Int)).length = deg E u := by
    rw [gAdj, if_pos (gHas_yes (show 0 ≤ (u : Int) ∧ (u : Int) < (n : Int) by omega))]
    rw [Int.toNat_natCast]; rfl
  rw [e] at h1; exact h1
/-- a state that begin has made -/
def Begun (n : Nat) (E : List Ed) (L : List Int) (gv : Value) (w : World) (e : Ending) (w' : World) : Prop :=
  ∃ sb, e = .returned (.pointer (some ⟨sb, 0, none⟩)) ∧ StAt w' w.heap.size sb gv L E.length n (dC E L) ∧ Below w.heap.size w w'

set_option maxRecDepth 100000 in
set_option maxHeartbeats 2000000 in
theorem begin_any (B : Nat) (v : Value) (n : Nat) (E : List Ed) (la : Option Addr) (lc : Nat) (LA : Nat → Addr) (L : List Int) (w : World) (h : GV w B v (some (n, E))) (hL : Sl 23 .i64 w B (.slice la L.length lc) L LA) (hB : B ≤ w.heap.size) (hn : L.length = n) (hW : LWf L) :
    Calls Try.prog 32 #[v, .slice la L.length lc] w (Begun n E L v w) := by
  have G : GOk n E := h.good
  have hml := G.m_le
  have hnl := G.n_le
  have hmm := @run_makeMap Try.prog
  have HW := Lib.hid hW
  have HG := Lib.hid h
  have HL := Lib.hid hL
  obtain ⟨p, rfl⟩ := h.ptr
  subst hn
  clear h hL hW
  go_enter Try.func32, Try.ntmps32
  go_wp2_with fail
  refine (cloneI B la lc L.length LA (nums .i64 L) w HL.out hB (fun _ _ _ _ => rfl) (by omega)).mono ?_
  rintro e w1 ⟨a2, cap2, A2, rfl, S2, b2, hrow⟩
  have hb3 : Below w1.heap.size w1 ((w1.alloc (.map #[] 0)).alloc (.cells #[.pointer p, .slice a2 L.length cap2, .int .i64 0, .map (some w1.heap.size)] 72)) := ((Below.refl _ _).alloc (Nat.le_refl _) _).alloc (by simp) _
  have hbel := stepB0 b2 hb3
  have hst : StAt ((w1.alloc (.map #[] 0)).alloc (.cells #[.pointer p, .slice a2 L.length cap2, .int .i64 0, .map (some w1.heap.size)] 72)) w.heap.size (w1.heap.size + 1) (.pointer p) L (pre E 0 : Nat) 0 (fun x => dTo E L x 0) := by
    have hs1 := b2.size
    refine ⟨by omega, a2, cap2, w1.heap.size, .map [], ?_, ?_, hs1, ?_, DegM.nil⟩
    · have := Row.lit (n := 4) (f := stC (.pointer p) a2 L.length cap2 0 w1.heap.size) (w1.alloc (.map #[] 0)) #[.pointer p, .slice a2 L.length cap2, .int .i64 0, .map (some w1.heap.size)] 72 (by simp) (fun i hi => by
        match i, hi with
        | 0, _ => rfl
        | 1, _ => rfl
        | 2, _ => rfl
        | 3, _ => rfl)
      rw [World.size_alloc] at this
      exact this
    · rcases hrow with rfl | ⟨g, rfl, hg, hown⟩
      · left
        rcases Nat.eq_zero_or_pos L.length with h0 | h0
        · exact List.length_eq_zero_iff.1 h0
        · obtain ⟨_, h1, _⟩ := S2.view etI h0; cases h1
      · right
        have hr : Row w1 g L.length (fun i => .int .i64 (nth L i)) := (Row.owned hown).congr fun i hi => by
          rw [flat_nums]
          simp [nth, List.getD, hi]
        exact ⟨g, rfl, hg, by have := hr.lt; omega, hr.below hb3 hr.lt⟩
    · exact (World.ownsMap_made w1 Try.prog 3 (plainElem (H := Unit) Try.prog 2)).alloc _
  clear hrow S2 b2 hb3
  go_wp2_with fail
  obtain ⟨sb, hsb⟩ : ∃ sb, w1.heap.size + 1 = sb := ⟨_, rfl⟩
  rw [hsb] at hst ⊢
  generalize ((w1.alloc (.map #[] 0)).alloc (.cells #[.pointer p, .slice a2 L.length cap2, .int .i64 0, .map (some w1.heap.size)] 72)) = W2 at *
  clear hsb hmm
  go_loopw [17] (fun i wr => ∃ k : Nat, k ≤ L.length ∧ i = .int .i64 k ∧ StAt wr w.heap.size sb (.pointer p) L (pre E k : Nat) k (fun x => dTo E L x k) ∧ Below w.heap.size w wr) (fun i _ => L.length - (intOf i).toNat)
  case atStart => exact ⟨0, Nat.zero_le _, rfl, hst, hbel⟩
  case round =>
    clear hst hbel
    obtain ⟨k, hk, rfl, hst, bel⟩ := hrel
    have hpk := G.pre_le hk
    by_cases hlt : k < L.length
    · have hL1 := HL.out.below (bel.mono hB)
      have ix := hL1.ix k hlt
      have l0 := Sl.at hL1 hlt
      have HD := Lib.hid (degree_in B (.pointer p) L.length E k wr (HG.out.below (bel.mono hB)) hlt)
      have hxw := HW.out.nth hlt
      obtain ⟨x, hx⟩ : ∃ x, nth L k = x := ⟨_, rfl⟩
      rw [hx] at l0 hxw
      have HX := Lib.hid hx
      have hdl := deg_le E k
      have HP := Lib.hid (show pre E (k + 1) = pre E k + deg E k from rfl)
      have HT := Lib.hid (fun y => dTo_succ E L y k)
      have hdb := dTo_bd G L x hk
      clear hx hL1
      go_wp2_with fail
      refine HD.out.mono ?_
      rintro e w3 ⟨rfl, q, rfl⟩
      have hst3 := hst.below (below_drewN (Below.refl _ wr) q)
      have bel3 := below_drewN bel q
      clear hst bel HD ix l0
      generalize wr.drewN q = W3 at *
      by_cases hd : 0 < deg E k
      · obtain ⟨la2, lc2, mb, D, hR, hLR, hmb, hown, hD⟩ := hst3.mem
        have c2 : W3.cell? ⟨sb, 2, none⟩ = some (.int .i64 (pre E k : Nat)) := hR.cell (i := 2) (by omega)
        have c3 : W3.cell? ⟨sb, 3, none⟩ = some (.map (some mb)) := hR.cell (i := 3) (by omega)
        have hlk := look_eq hown hD.a hxw
        have hdi : (0 : Int) < (deg E k : Nat) := by omega
        have hlo := hst3.lo
        have hbz := bel3.size
        have HDM := Lib.hid (show DegM (D.put (ky x) (i64D (dTo E L x k + (deg E k : Nat)))) (fun y => dTo E L y (k + 1)) from hD.put x _ (by omega) fun y => by
          rw [HT.out, HX.out]
          by_cases e : y = x
          · subst e; rw [if_pos rfl, if_pos rfl]; rfl
          · rw [if_neg e, if_neg (fun h => e h.symm)]; omega)
        clear hst3 hD
        generalize dTo E L x k = dx at *
        go_wp2_with (at_mapUpdate; refine wpList_mapUpdate_own _ rfl _ _ _ 70 rfl 3 2 lawI Try.underlying70 _ mb k D rfl hown (by unfold maxLen; omega) _ _ _ rfl rfl (keyOf_int_mk Try.underlying3 hxw) _ [] (plainElem_int Try.underlying2 (WalkArith.wf_i64 (by omega))) ?_; intro w4 hown4 hg4; have hR4 := row_other hown hR hg4; have hLR4 := labR_other hown hLR hg4; have c2' : w4.cell? ⟨sb, 2, none⟩ = some (.int .i64 (pre E k : Nat)) := hR4.cell (i := 2) (by omega); have z2' := hR4.frozen 2)
        have hst4 : StAt w4 w.heap.size sb (.pointer p) L (pre E k : Nat) (k + 1) (fun y => dTo E L y (k + 1)) := ⟨hlo, la2, lc2, mb, _, hR4, hLR4, hmb, hown4, HDM.out⟩
        have hst5 := hst4.setEd ((pre E k : Nat) + (deg E k : Nat))
        have bel5 : Below w.heap.size w (w4.setCell ⟨sb, 2, none⟩ (.int .i64 ((pre E k : Nat) + (deg E k : Nat)))) := (bel3.grown hg4 hbz (fun j e => by cases e; exact hmb)).setCell hlo _
        go_roundw
        case rel => exact ⟨k + 1, by omega, by go_num, by rw [HP.out, Int.natCast_add]; exact hst5, bel5⟩
        case measure => simp only [intOf]; omega
      · have hd0 : deg E k = 0 := by omega
        have hst4 : StAt W3 w.heap.size sb (.pointer p) L (pre E (k + 1) : Nat) (k + 1) (fun y => dTo E L y (k + 1)) := by
          obtain ⟨la2, lc2, mb, D, hR, hLR, hmb, hown, hD⟩ := hst3.mem
          refine ⟨hst3.lo, la2, lc2, mb, D, by rw [HP.out, hd0]; exact hR, hLR, hmb, hown.mono (by omega), hD.congr fun y => ?_⟩
          have e0 : dgZ E k = 0 := by unfold dgZ; omega
          rw [HT.out, e0]; simp
        have hdi : ((deg E k : Nat) : Int) ≤ 0 := by omega
        clear hd0 hd hst3
        go_wp2_with fail
        go_roundw
        case rel => exact ⟨k + 1, by omega, by go_num, hst4, bel3⟩
        case measure => simp only [intOf]; omega
    · obtain rfl : k = L.length := by omega
      have HP := Lib.hid (show ((pre E L.length : Nat) : Int) / 2 = (E.length : Int) by rw [G.pre_n]; omega)
      obtain ⟨la2, lc2, mb, D, hR, -⟩ := hst.mem
      have c2 : wr.cell? ⟨sb, 2, none⟩ = some (.int .i64 (pre E L.length : Nat)) := hR.cell (i := 2) (by omega)
      have z2 := hR.frozen 2
      have hlo := hst.lo
      clear hR
      go_wp2_with fail
      go_ret
      have hst5 := hst.setEd (((pre E L.length : Nat) : Int) / 2)
      refine ⟨sb, rfl, ?_, bel.setCell hlo _⟩
      rw [HP.out] at hst5 ⊢
      exact hst5
end Go.Proofs.Ytemcilmefknbbaa
