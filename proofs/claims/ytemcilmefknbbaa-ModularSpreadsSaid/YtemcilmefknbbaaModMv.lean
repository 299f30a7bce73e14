/- The walk of move of package modular. Conditions: the state was made by begin; the vertex has edges and gets another label. -/
import Derived.Test.YtemcilmefknbbaaModA
namespace Go.Proofs.Ytemcilmefknbbaa
open Go.RowKit Go.Shelf Go.Maps Go.Sort

theorem dTo_mem {E : List Ed} {L : List Int} {x : Int} {k : Nat} (hk : k ≤ L.length) (h : dTo E L x k ≠ 0) : x ∈ L := by
  induction k with
  | zero => exact absurd rfl h
  | succ k ih =>
    rw [dTo_succ] at h
    by_cases e : nth L k = x
    · rw [← e, nth_eq (by omega)]; exact List.getElem_mem _
    · rw [if_neg e] at h; exact ih (by omega) (by omega)
theorem dTo_ge {E : List Ed} {L : List Int} {v k : Nat} (hv : v < k) : dgZ E v ≤ dTo E L (nth L v) k := by
  induction k with
  | zero => omega
  | succ k ih =>
    rw [dTo_succ]
    have h0 := dgZ_nonneg E k
    by_cases e : v = k
    · subst e; rw [if_pos rfl]; have := dTo_nonneg E L (nth L v) v; omega
    · have := ih (by omega); split <;> omega
theorem DegM.size {D : DataW Unit} {E : List Ed} {L : List Int} (h : DegM D (dC E L)) : Maps.size D ≤ L.length :=
  size_of_has h.a.tidy h.a.ints fun x hx => dTo_mem (Nat.le_refl _) (h.has x hx)
/-- the marks of deferred calls stay -/
def KeepD (w w' : World) : Prop := ∀ (k : Nat) (d : Option (List Deferred)), w.heap[k]? = some (.deferred d) → w'.heap[k]? = some (.deferred d)
theorem KeepD.refl (w : World) : KeepD w w := fun _ _ h => h
theorem KeepD.trans {a b c : World} (h : KeepD a b) (k : KeepD b c) : KeepD a c := fun i d hi => k i d (h i d hi)
theorem KeepD.of_below {w w' : World} (hb : Below w.heap.size w w') : KeepD w w' := fun k _ h => (hb.block k (Array.getElem?_eq_some_iff.1 h).1).trans h
theorem KeepD.grown {w w' : World} {mb N : Nat} {D : DataW Unit} (hown : OwnM w mb N D) (hg : w.grownBy w' (some mb)) : KeepD w w' := fun k d h => (hg.block k (Array.getElem?_eq_some_iff.1 h).1 (fun e => by
  have e : k = mb := by simpa using e
  subst e
  obtain ⟨es, ck, h1, _⟩ := hown
  rw [h] at h1; simp at h1)).trans h
theorem KeepD.set {w : World} {g n : Nat} {f : Nat → Value} (hr : Row w g n f) (i : Nat) (v : Value) : KeepD w (w.setCell ⟨g, i, none⟩ v) := fun k d h => (Below.heap_setCell _ _ _ _ (fun e => by
  have e : k = g := e
  subst e
  obtain ⟨c, t, h1, _⟩ := hr
  rw [h] at h1; simp at h1)).trans h
/-- what a move leaves -/
def Moved1 (base sb : Nat) (gv : Value) (E : List Ed) (L : List Int) (v : Nat) (t : Int) (w : World) (e : Ending) (w' : World) : Prop :=
  (∃ x, e = .returned x) ∧ StAt w' base sb gv (L.set v t) E.length L.length (dC E (L.set v t)) ∧ Below base w w' ∧ KeepD w w'

set_option maxRecDepth 100000 in
set_option maxHeartbeats 4000000 in
theorem move_any (base sb : Nat) (g : Option Addr) (n : Nat) (E : List Ed) (L : List Int) (v : Nat) (t : Int) (w : World) (hst : StAt w base sb (.pointer g) L E.length L.length (dC E L)) (hg : GV w w.heap.size (.pointer g) (some (n, E))) (hn : L.length = n) (hW : LWf L) (ht : (Lit.int .i64 t).wf = true) (hv : v < n) (hto : t ≠ nth L v) (hd : 0 < deg E v) :
    Calls Try.prog 62 #[.pointer (some ⟨sb, 0, none⟩), .int .i64 (v : Nat), .int .i64 t] w (Moved1 base sb (.pointer g) E L v t w) := by
  have G : GOk n E := hg.good
  have hml := G.m_le
  have hnl := G.n_le
  have hvl : v < L.length := by omega
  have how := hW.nth hvl
  have HD := Lib.hid (degree_in _ (.pointer g) n E v w hg hv)
  have hlo := hst.lo
  obtain ⟨la, lc, mb, D, hR, hLR, hmb, hown, hDM⟩ := hst.mem
  obtain ⟨lb, rfl, hlb, hls, hLb⟩ : ∃ lb, la = some ⟨lb, 0, none⟩ ∧ base ≤ lb ∧ lb ≠ sb ∧ Row w lb L.length (fun i => .int .i64 (nth L i)) := by
    rcases hLR with h | h
    · rw [h] at hvl; exact absurd hvl (Nat.not_lt_zero _)
    · exact h
  have c0 : w.cell? ⟨sb, 0, none⟩ = some (.pointer g) := hR.cell (i := 0) (by omega)
  obtain ⟨x, hx⟩ : ∃ x, nth L v = x := ⟨_, rfl⟩
  have hge : dgZ E v ≤ dC E L x := by rw [← hx]; exact dTo_ge hvl
  have b1 : 0 ≤ dC E L x ∧ dC E L x ≤ 32768 := dTo_bd G L x (Nat.le_of_eq hn)
  have b2 : 0 ≤ dC E L t ∧ dC E L t ≤ 32768 := dTo_bd G L t (Nat.le_of_eq hn)
  have hdl := deg_le E v
  rw [hx] at hto how
  have HF := Lib.hid (fun y => dC_set (E := E) hvl (show t ≠ nth L v by rw [hx]; exact hto) y)
  have HX := Lib.hid hx
  have hge' : (deg E v : Int) ≤ dC E L x := hge
  have HSZ := Lib.hid (fun (D : DataW Unit) (h : DegM D (dC E (L.set v t))) => h.size)
  have HL := Lib.hid hLb
  have HN := Lib.hid hn
  have hvi : (v : Int) < (L.length : Int) := by omega
  have hLn : L.length ≤ 4096 := by omega
  clear hst hg hW hLR hx hge hn hLb
  go_enter Try.func62, Try.ntmps62
  go_wp2_with fail
  refine HD.out.mono ?_
  rintro e w1 ⟨rfl, q, rfl⟩
  have hbq : Below base w (w.drewN q) := below_drewN (Below.refl _ _) q
  have kq : KeepD w (w.drewN q) := fun _ _ h => h
  have hR1 := hR.drewN q
  have hL1 := HL.out.drewN q
  have hown1 : OwnM (w.drewN q) mb L.length D := ownM_of hown rfl
  clear hR hown HD c0 HL
  generalize w.drewN q = W1 at *
  have d1 : W1.cell? ⟨sb, 1, none⟩ = some (.slice (some ⟨lb, 0, none⟩) L.length lc) := hR1.cell (i := 1) (by omega)
  have d3 : W1.cell? ⟨sb, 3, none⟩ = some (.map (some mb)) := hR1.cell (i := 3) (by omega)
  have l0 : W1.cell? ⟨lb, v, none⟩ = some (.int .i64 x) := by have := hL1.cell hvl; rwa [HX.out] at this
  have k1 := look_eq hown1 hDM.a how
  go_upto_region 3 with (at_mapUpdate; refine wpList_mapUpdate_own _ rfl _ _ _ 70 rfl 3 2 lawI Try.underlying70 _ mb L.length D rfl hown1 (by unfold maxLen; omega) _ _ _ rfl rfl (keyOf_int_mk Try.underlying3 how) _ [] (plainElem_int Try.underlying2 (WalkArith.wf_i64 (by omega))) ?_; intro w2 hown2 hg2)
  have hR2 := row_other hown1 hR1 hg2
  have hL2 := row_other hown1 hL1 hg2
  have kd2 : KeepD w w2 := kq.trans (KeepD.grown hown1 hg2)
  have bel2 : Below base w w2 := hbq.grown hg2 (Nat.le_trans hlo (Nat.le_of_lt hR1.lt)) (fun j e => by cases e; exact hmb)
  obtain ⟨f1, hf1⟩ : ∃ f1 : Int → Int, ∀ y, f1 y = if y = x then dC E L x - (deg E v : Int) else dC E L y := ⟨fun y => if y = x then dC E L x - (deg E v : Int) else dC E L y, fun _ => rfl⟩
  have hA1 : MapA (D.put (ky x) (i64D (dC E L x - (deg E v : Int)))) f1 := hDM.a.put x _ hf1
  have e1 : f1 x = dC E L x - (deg E v : Int) := by rw [hf1, if_pos rfl]
  have e2 : f1 t = dC E L t := by rw [hf1, if_neg hto]
  have hs2 := bel2.size
  have k2 := look_eq hown2 hA1 how
  rw [e1] at k2
  have d3' : w2.cell? ⟨sb, 3, none⟩ = some (.map (some mb)) := hR2.cell (i := 3) (by omega)
  have HD2 : ∀ (D2 : DataW Unit), DegM D2 f1 → DegM (D2.put (ky t) (i64D (dC E L t + (deg E v : Int)))) (dC E (L.set v t)) := fun D2 h2 => h2.put t _ (by omega) fun y => by
    rw [HF.out, HX.out, hf1]
    by_cases c1 : y = t
    · subst c1; rw [if_pos rfl, if_pos rfl, if_neg hto]; show _ + dgZ E v - 0 = _; unfold dgZ; omega
    · rw [if_neg c1, if_neg c1]
      by_cases c2 : y = x
      · subst c2; rw [if_pos rfl, if_pos rfl]; show _ + 0 - dgZ E v = _; unfold dgZ; omega
      · rw [if_neg c2, if_neg c2]; omega
  have HD2 := Lib.hid HD2
  have FIN := Lib.hid (fun (D3 : DataW Unit) (hD3 : DegM D3 (dC E (L.set v t))) (W : World) (N : Nat) (hR : Row W sb 4 (stC (.pointer g) (some ⟨lb, 0, none⟩) L.length lc (E.length : Nat) mb)) (hL : Row W lb L.length fun i => .int .i64 (nth L i)) (hown : OwnM W mb N D3) (bel : Below base w W) (kd : KeepD w W) =>
    show StAt (W.setCell ⟨lb, v, none⟩ (.int .i64 t)) base sb (.pointer g) (L.set v t) E.length L.length (dC E (L.set v t)) ∧ Below base w (W.setCell ⟨lb, v, none⟩ (.int .i64 t)) ∧ KeepD w (W.setCell ⟨lb, v, none⟩ (.int .i64 t)) from by
      have hsz := hD3.size
      rw [List.length_set] at hsz
      refine ⟨⟨hlo, some ⟨lb, 0, none⟩, lc, mb, D3, ?_, .inr ⟨lb, rfl, hlb, hls, ?_⟩, hmb, ownM_of (ownsMap_tight hown hsz) (Below.heap_setCell _ _ _ _ (ownM_ne hown hL)), hD3⟩, bel.setCell (p := ⟨lb, v, none⟩) hlb _, kd.trans (KeepD.set hL v _)⟩
      · rw [List.length_set]
        exact hR.setOther (a := ⟨lb, v, none⟩) (fun e => hls e.symm) _
      · rw [List.length_set]
        refine (hL.set v _).congr fun i _ => ?_
        rw [nth_set t hvl]
        by_cases c : i = v
        · rw [if_pos c, if_pos c]
        · rw [if_neg c, if_neg c])
  by_cases hz : dC E L x = deg E v
  · have hz' : dC E L x - (deg E v : Int) = 0 := by omega
    have hDm2 : DegM ((D.put (ky x) (i64D 0)).del (ky x)) f1 := hDM.putDel x fun y => by rw [hf1, hz']
    rw [hz'] at k2 hown2
    have HDD := Lib.hid hDm2
    clear hDM hDm2 hA1 hf1 e1 k1 hbq hR1 hL1 hown1 hg2 hz'
    go_upto_region 5 with (at_delete; refine wpList_delete_own _ rfl _ _ 70 3 rfl 2 lawI Try.underlying70 _ mb (L.length + 1) _ rfl hown2 _ _ rfl (keyOf_int_mk Try.underlying3 how) ?_; intro w3 hown3 hturn3)
    have hg3 := hturn3.grown
    have hR3 := row_other hown2 hR2 hg3
    have hL3 := row_other hown2 hL2 hg3
    have kd3 := kd2.trans (KeepD.grown hown2 hg3)
    have bel3 : Below base w w3 := bel2.grown hg3 (Nat.le_trans hlo (Nat.le_of_lt hR2.lt)) (fun j e => by cases e; exact hmb)
    have k3 := look_eq hown3 HDD.out.a ht
    rw [e2] at k3
    have d3'' : w3.cell? ⟨sb, 3, none⟩ = some (.map (some mb)) := hR3.cell (i := 3) (by omega)
    clear hturn3 hown2 hR2 hL2 bel2 k2 d3' hg3
    go_upto_region 6 with (at_mapUpdate; refine wpList_mapUpdate_own _ rfl _ _ _ 70 rfl 3 2 lawI Try.underlying70 _ mb (L.length + 1) _ rfl hown3 (by unfold maxLen; omega) _ _ _ rfl rfl (keyOf_int_mk Try.underlying3 ht) _ [] (plainElem_int Try.underlying2 (WalkArith.wf_i64 (by omega))) ?_; intro w4 hown4 hg4)
    have hR4 := row_other hown3 hR3 hg4
    have hL4 := row_other hown3 hL3 hg4
    have kd4 := kd3.trans (KeepD.grown hown3 hg4)
    have bel4 : Below base w w4 := bel3.grown hg4 (Nat.le_trans hlo (Nat.le_of_lt hR3.lt)) (fun j e => by cases e; exact hmb)
    have d1' : w4.cell? ⟨sb, 1, none⟩ = some (.slice (some ⟨lb, 0, none⟩) L.length lc) := hR4.cell (i := 1) (by omega)
    have l4 : w4.cell? ⟨lb, v, none⟩ = some (.int .i64 (nth L v)) := hL4.cell hvl
    have z4 := hL4.frozen v
    have FF := Lib.hid (FIN.out _ (HD2.out _ HDD.out) w4 _ hR4 hL4 hown4 bel4 kd4)
    clear hown3 hR3 hL3 bel3 k3 d3'' hg4 hR4 hL4 hown4 bel4
    go_wp2_with fail
    go_end0
    exact ⟨⟨_, rfl⟩, FF.out⟩
  · have hb : (dC E L x - (deg E v : Int) == 0) = false := by simp; omega
    have hDm2 : DegM (D.put (ky x) (i64D (dC E L x - (deg E v : Int)))) f1 := hDM.put x _ (by omega) hf1
    have HDD := Lib.hid hDm2
    have k3 := look_eq hown2 hDm2.a ht
    rw [e2] at k3
    clear hDM hDm2 hA1 hf1 e1 k1 hbq hR1 hL1 hown1 hg2
    go_upto_region 6 with (at_mapUpdate; refine wpList_mapUpdate_own _ rfl _ _ _ 70 rfl 3 2 lawI Try.underlying70 _ mb (L.length + 1) _ rfl hown2 (by unfold maxLen; omega) _ _ _ rfl rfl (keyOf_int_mk Try.underlying3 ht) _ [] (plainElem_int Try.underlying2 (WalkArith.wf_i64 (by omega))) ?_; intro w4 hown4 hg4)
    have hR4 := row_other hown2 hR2 hg4
    have hL4 := row_other hown2 hL2 hg4
    have kd4 := kd2.trans (KeepD.grown hown2 hg4)
    have bel4 : Below base w w4 := bel2.grown hg4 (Nat.le_trans hlo (Nat.le_of_lt hR2.lt)) (fun j e => by cases e; exact hmb)
    have d1' : w4.cell? ⟨sb, 1, none⟩ = some (.slice (some ⟨lb, 0, none⟩) L.length lc) := hR4.cell (i := 1) (by omega)
    have l4 : w4.cell? ⟨lb, v, none⟩ = some (.int .i64 (nth L v)) := hL4.cell hvl
    have z4 := hL4.frozen v
    have FF := Lib.hid (FIN.out _ (HD2.out _ HDD.out) w4 _ hR4 hL4 hown4 bel4 kd4)
    clear hown2 hR2 hL2 bel2 k3 k2 d3' hg4 hR4 hL4 hown4 bel4
    go_wp2_with fail
    go_end0
    exact ⟨⟨_, rfl⟩, FF.out⟩
end Go.Proofs.Ytemcilmefknbbaa
