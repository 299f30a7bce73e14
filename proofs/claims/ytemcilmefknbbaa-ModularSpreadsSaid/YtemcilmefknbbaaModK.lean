/- The walks of worth and Gain of package modular. Conditions: the state was made by begin; labels are numbers of Go's int. -/
import Derived.Test.YtemcilmefknbbaaModC
namespace Go.Proofs.Ytemcilmefknbbaa
open Go.RowKit Go.Shelf Go.Maps Go.Sort

theorem cN_count (E : List Ed) (L : List Int) (v : Nat) (x : Int) : cN E L v x = (nl E L v).count x := by
  unfold cN cTo nl
  rw [List.take_length, List.count_eq_countP, List.countP_map, List.countP_eq_length_filter]
  rfl
theorem new_cell (w : World) (q : Nat) (v : Value) (t : TypeId) : ((w.drewN q).alloc (.cells #[v] t)).cell? ⟨w.heap.size, 0, none⟩ = some v := by
  have h : ∀ W : World, (W.alloc (.cells #[v] t)).cell? ⟨W.heap.size, 0, none⟩ = some v := fun W => by go_simp
  exact h (w.drewN q)
/-- a function that worth has made -/
def WClo (w : World) (base sb : Nat) (E : List Ed) (L : List Int) (v : Nat) (fv : Value) : Prop :=
  ∃ b1 b2 b3 b4 mb D, fv = .func (.func 65) #[] #[.pointer (some ⟨b1, 0, none⟩), .pointer (some ⟨b2, 0, none⟩), .pointer (some ⟨b3, 0, none⟩), .pointer (some ⟨b4, 0, none⟩)] ∧
    w.cell? ⟨b1, 0, none⟩ = some (.int .i64 (nth L v)) ∧ w.cell? ⟨b2, 0, none⟩ = some (.map (some mb)) ∧ w.cell? ⟨b3, 0, none⟩ = some (.int .i64 (deg E v : Nat)) ∧ w.cell? ⟨b4, 0, none⟩ = some (.pointer (some ⟨sb, 0, none⟩)) ∧
    OwnM w mb (nl E L v).length D ∧ CntM D (nl E L v) ∧ base ≤ b1 ∧ base ≤ b2 ∧ base ≤ b3 ∧ base ≤ b4 ∧ base ≤ mb
theorem cell_lt {w : World} {a : Addr} {v : Value} (h : w.cell? a = some v) : a.block < w.heap.size := World.block_lt_of_cell? w a h
theorem WClo.below {w w' : World} {base sb : Nat} {E : List Ed} {L : List Int} {v : Nat} {fv : Value} (h : WClo w base sb E L v fv) (hb : Below w.heap.size w w') : WClo w' base sb E L v fv := by
  obtain ⟨b1, b2, b3, b4, mb, D, e, h1, h2, h3, h4, h5, h6, r⟩ := h
  exact ⟨b1, b2, b3, b4, mb, D, e, (hb.cell (cell_lt h1)).trans h1, (hb.cell (cell_lt h2)).trans h2, (hb.cell (cell_lt h3)).trans h3, (hb.cell (cell_lt h4)).trans h4, ownsMap_below h5 hb, h6, r⟩
def Worth (sb : Nat) (E : List Ed) (L : List Int) (v : Nat) (w : World) (e : Ending) (w' : World) : Prop := ∃ fv, e = .returned fv ∧ WClo w' w.heap.size sb E L v fv ∧ Below w.heap.size w w'

set_option maxRecDepth 100000 in
set_option maxHeartbeats 2000000 in
theorem worth_any (base sb : Nat) (g : Option Addr) (n : Nat) (E : List Ed) (L : List Int) (ed : Int) (N : Nat) (f : Int → Int) (v : Nat) (w : World) (hst : StAt w base sb (.pointer g) L ed N f) (hg : GV w w.heap.size (.pointer g) (some (n, E))) (hn : L.length = n) (hW : LWf L) (hv : v < n) :
    Calls Try.prog 44 #[.pointer (some ⟨sb, 0, none⟩), .int .i64 (v : Nat)] w (Worth sb E L v w) := by
  have hb0 : Below w.heap.size w (w.alloc (.cells #[.pointer (some ⟨sb, 0, none⟩)] 68)) := (Below.refl _ _).alloc (Nat.le_refl _) _
  have hs0 : (w.alloc (.cells #[.pointer (some ⟨sb, 0, none⟩)] 68)).heap.size = w.heap.size + 1 := by simp
  have k4 : (w.alloc (.cells #[.pointer (some ⟨sb, 0, none⟩)] 68)).cell? ⟨w.heap.size, 0, none⟩ = some (.pointer (some ⟨sb, 0, none⟩)) := by go_simp
  have hst0 := Lib.hid (hst.below hb0)
  have hg0 := Lib.hid (hg.below hb0)
  have HN := Lib.hid hn
  have HW := Lib.hid hW
  have hvl : v < L.length := by omega
  clear hst hg hn hW
  go_enter Try.func44, Try.ntmps44
  go_wp2_with fail
  generalize w.alloc (.cells #[.pointer (some ⟨sb, 0, none⟩)] 68) = W0 at *
  refine (counts_any base sb g n E L ed N f v W0 hst0.out (hg0.out.mono (by omega)) HN.out HW.out hv).mono ?_
  rintro e w1 ⟨mb, D, rfl, hmb, hown, hD, hb1⟩
  -- the box of the map
  have hb2 : Below w1.heap.size w1 (w1.alloc (.cells #[.map (some mb)] 70)) := (Below.refl _ _).alloc (Nat.le_refl _) _
  have k2 : (w1.alloc (.cells #[.map (some mb)] 70)).cell? ⟨w1.heap.size, 0, none⟩ = some (.map (some mb)) := by go_simp
  have hs2 : (w1.alloc (.cells #[.map (some mb)] 70)).heap.size = w1.heap.size + 1 := by simp
  have hst2 := hst0.out.below (stepB0 hb1 hb2)
  have hg2 := hg0.out.below ((stepB0 hb1 hb2).mono (by omega))
  have k4a := ((stepB0 hb1 hb2).cell (p := ⟨w.heap.size, 0, none⟩) (by show w.heap.size < _; omega)).trans k4
  have hown2 := ownsMap_below hown hb2
  have hs1 := hb1.size
  have bel2 : Below w.heap.size w _ := stepB0 hb0 (stepB0 hb1 hb2)
  obtain ⟨la, lc, mb0, D0, hR, hLR, -⟩ := hst2.mem
  have d0 : (w1.alloc (.cells #[.map (some mb)] 70)).cell? ⟨sb, 0, none⟩ = some (.pointer g) := hR.cell (i := 0) (by omega)
  have d1 : (w1.alloc (.cells #[.map (some mb)] 70)).cell? ⟨sb, 1, none⟩ = some (.slice la L.length lc) := hR.cell (i := 1) (by omega)
  obtain ⟨LA, hLS⟩ := hLR.rd lc
  have ix := hLS.ix v hvl
  have l0 := Sl.at hLS hvl
  have hlt2 := hst2.lt
  clear hR hLR hLS hown hb1 hst0 k4 hst2 hb2
  go_upto_region 2 with fail
  generalize w1.alloc (.cells #[.map (some mb)] 70) = W2 at *
  have hb3 : Below W2.heap.size W2 (W2.alloc (.cells #[.int .i64 (nth L v)] 3)) := (Below.refl _ _).alloc (Nat.le_refl _) _
  have k1 : (W2.alloc (.cells #[.int .i64 (nth L v)] 3)).cell? ⟨W2.heap.size, 0, none⟩ = some (.int .i64 (nth L v)) := by go_simp
  have hs3 : (W2.alloc (.cells #[.int .i64 (nth L v)] 3)).heap.size = W2.heap.size + 1 := by simp
  have k4b := (hb3.cell (p := ⟨w.heap.size, 0, none⟩) (by show w.heap.size < _; omega)).trans k4a
  have k2b := (hb3.cell (p := ⟨w1.heap.size, 0, none⟩) (by show w1.heap.size < _; omega)).trans k2
  have d0b := (hb3.cell (p := ⟨sb, 0, none⟩) hlt2).trans d0
  have hown3 := ownsMap_below hown2 hb3
  have hg3 := hg2.below (hb3.mono (by omega))
  have bel3 := stepB0 bel2 hb3
  go_upto_region 3 with fail
  generalize W2.alloc (.cells #[.int .i64 (nth L v)] 3) = W3 at *
  clear hown2 hg2 d0 d1 ix l0 k4a k2 hb3
  go_wp2_with fail
  refine (degree_in _ (.pointer g) n E v W3 hg3 hv).mono ?_
  rintro e w4 ⟨rfl, q, rfl⟩
  have hb4 : Below W3.heap.size W3 (W3.drewN q) := below_drewN (Below.refl _ _) q
  have hb5 : Below W3.heap.size W3 ((W3.drewN q).alloc (.cells #[.int .i64 (deg E v : Nat)] 2)) := hb4.alloc (Nat.le_refl _) _
  have k3 : ((W3.drewN q).alloc (.cells #[.int .i64 (deg E v : Nat)] 2)).cell? ⟨W3.heap.size, 0, none⟩ = some (.int .i64 (deg E v : Nat)) := new_cell W3 q _ _
  rw [hs3, hs2] at k3
  rw [hs2] at k1
  clear hb4
  go_wp2_with fail
  go_ret
  have e3 : W3.heap.size = w1.heap.size + 1 + 1 := by omega
  exact ⟨_, rfl, ⟨w1.heap.size + 1, w1.heap.size, w1.heap.size + 1 + 1, w.heap.size, mb, D, rfl,
    (hb5.cell (p := ⟨w1.heap.size + 1, 0, none⟩) (by show w1.heap.size + 1 < _; omega)).trans k1,
    (hb5.cell (p := ⟨w1.heap.size, 0, none⟩) (by show w1.heap.size < _; omega)).trans k2b, k3,
    (hb5.cell (p := ⟨w.heap.size, 0, none⟩) (by show w.heap.size < _; omega)).trans k4b, ownsMap_below hown3 hb5, hD, by omega, by omega, by omega, Nat.le_refl _, by omega⟩, stepB0 bel3 hb5⟩

theorem count_le_nl (E : List Ed) (L : List Int) (v : Nat) (x : Int) : (nl E L v).count x ≤ deg E v := by
  have := List.count_le_length (a := x) (l := nl E L v)
  unfold nl at this ⊢
  rw [List.length_map] at this
  exact this
set_option maxRecDepth 100000 in
set_option maxHeartbeats 2000000 in
/-- what it is worth to move a vertex -/
theorem worth1_any (base base2 sb : Nat) (gv : Value) (n : Nat) (E : List Ed) (L : List Int) (N : Nat) (v : Nat) (t : Int) (fv : Value) (w : World) (hst : StAt w base2 sb gv L E.length N (dC E L)) (hc : WClo w base sb E L v fv) (G : GOk n E) (hn : L.length = n) (hW : LWf L) (ht : (Lit.int .i64 t).wf = true) (hv : v < n) :
    ∃ caps, fv = .func (.func 65) #[] caps ∧ Calls Try.prog 65 (#[.int .i64 t] ++ caps) w fun e w' => e = .returned (.int .i64 (worthZ E L v t)) ∧ ∃ q, w' = w.drewN q := by
  obtain ⟨b1, b2, b3, b4, mb, D, rfl, h1, h2, h3, h4, hown, hD, -⟩ := hc
  refine ⟨_, rfl, ?_⟩
  show Calls Try.prog 65 #[.int .i64 t, .pointer (some ⟨b1, 0, none⟩), .pointer (some ⟨b2, 0, none⟩), .pointer (some ⟨b3, 0, none⟩), .pointer (some ⟨b4, 0, none⟩)] w _
  have hml := G.m_le
  have hvl : v < L.length := by omega
  have how := hW.nth hvl
  obtain ⟨la, lc, mb2, D2, hR, -, -, hown2, hD2⟩ := hst.mem
  have c2 : w.cell? ⟨sb, 2, none⟩ = some (.int .i64 (E.length : Nat)) := hR.cell (i := 2) (by omega)
  have c3 : w.cell? ⟨sb, 3, none⟩ = some (.map (some mb2)) := hR.cell (i := 3) (by omega)
  by_cases ho : t = nth L v
  · have HZ := Lib.hid (show worthZ E L v t = 0 by rw [worthZ, if_pos ho])
    have hb : (t == nth L v) = true := beq_iff_eq.2 ho
    clear ho hR hst
    go_enter Try.func65, Try.ntmps65
    go_wp2_with fail
    go_ret
    exact ⟨by rw [HZ.out]; rfl, 0, rfl⟩
  · have HZ := Lib.hid (show worthZ E L v t = 4 * (E.length : Int) * (((nl E L v).count t : Nat) - ((nl E L v).count (nth L v) : Nat)) - 2 * (deg E v : Nat) * (dC E L t - dC E L (nth L v) + (deg E v : Nat)) by rw [worthZ, if_neg ho, cN_count, cN_count]; rfl)
    have hb : (t == nth L v) = false := by simpa using ho
    have k1 := look_eq hown hD.a ht
    have k2 := look_eq hown hD.a how
    have k3 : ∀ q, (Instr.lookup 70 (.map (some mb2)) (.int .i64 t) false).run Try.prog (w.drewN q) = .ok (.int .i64 (dC E L t)) (w.drewN q) := fun q => look_eq (ownM_of (w' := w.drewN q) hown2 rfl) hD2.a ht
    have k4 : ∀ q, (Instr.lookup 70 (.map (some mb2)) (.int .i64 (nth L v)) false).run Try.prog (w.drewN q) = .ok (.int .i64 (dC E L (nth L v))) (w.drewN q) := fun q => look_eq (ownM_of (w' := w.drewN q) hown2 rfl) hD2.a how
    have f1 : ∀ q, (w.drewN q).cell? ⟨b1, 0, none⟩ = some (.int .i64 (nth L v)) := fun q => h1
    have f3 : ∀ q, (w.drewN q).cell? ⟨b3, 0, none⟩ = some (.int .i64 (deg E v : Nat)) := fun q => h3
    have f4 : ∀ q, (w.drewN q).cell? ⟨b4, 0, none⟩ = some (.pointer (some ⟨sb, 0, none⟩)) := fun q => h4
    have f5 : ∀ q, (w.drewN q).cell? ⟨sb, 3, none⟩ = some (.map (some mb2)) := fun q => c3
    have a1 := count_le_nl E L v t
    have a2 := count_le_nl E L v (nth L v)
    have a3 := deg_le E v
    have a4 := dTo_bd G L t (Nat.le_of_eq hn)
    have a5 := dTo_bd G L (nth L v) (Nat.le_of_eq hn)
    have a4' : 0 ≤ dC E L t ∧ dC E L t ≤ 32768 := a4
    have a5' : 0 ≤ dC E L (nth L v) ∧ dC E L (nth L v) ≤ 32768 := a5
    clear a4 a5 ho hR hst hown hown2 hD hD2
    generalize dC E L t = x1 at *
    generalize dC E L (nth L v) = x2 at *
    generalize (nl E L v).count t = y1 at *
    generalize (nl E L v).count (nth L v) = y2 at *
    generalize deg E v = d at *
    have b1' : -32768 ≤ x1 - x2 + (d : Int) ∧ x1 - x2 + (d : Int) ≤ 65536 := by omega
    have b2' : -2147483648 ≤ 2 * (d : Int) * (x1 - x2 + (d : Int)) ∧ 2 * (d : Int) * (x1 - x2 + (d : Int)) ≤ 2147483648 := by
      have e1 : 2 * (d : Int) * (x1 - x2 + (d : Int)) ≤ 2 * (d : Int) * 65536 := Int.mul_le_mul_of_nonneg_left b1'.2 (by omega)
      have e2 : 2 * (d : Int) * (-65536) ≤ 2 * (d : Int) * (x1 - x2 + (d : Int)) := Int.mul_le_mul_of_nonneg_left (by omega) (by omega)
      omega
    have b3' : -1073741824 ≤ 4 * (E.length : Int) * ((y1 : Int) - (y2 : Int)) ∧ 4 * (E.length : Int) * ((y1 : Int) - (y2 : Int)) ≤ 1073741824 := by
      have e1 : 4 * (E.length : Int) * ((y1 : Int) - (y2 : Int)) ≤ 4 * (E.length : Int) * 16384 := Int.mul_le_mul_of_nonneg_left (by omega) (by omega)
      have e2 : 4 * (E.length : Int) * (-16384) ≤ 4 * (E.length : Int) * ((y1 : Int) - (y2 : Int)) := Int.mul_le_mul_of_nonneg_left (by omega) (by omega)
      omega
    have w1' : IntKind.i64.wrap (2 * (d : Int)) = 2 * (d : Int) := IntWalk.i64_in _ (by omega)
    have w2' : IntKind.i64.wrap (x1 - x2) = x1 - x2 := IntWalk.i64_in _ (by omega)
    have w3' : IntKind.i64.wrap (x1 - x2 + (d : Int)) = x1 - x2 + (d : Int) := IntWalk.i64_in _ (by omega)
    have w4' : IntKind.i64.wrap (2 * (d : Int) * (x1 - x2 + (d : Int))) = 2 * (d : Int) * (x1 - x2 + (d : Int)) := IntWalk.i64_in _ (by omega)
    go_enter Try.func65, Try.ntmps65
    go_wp2_with fail
    go_quiet (fail)
    have c2q : ∀ q, (w.drewN q).cell? ⟨sb, 2, none⟩ = some (.int .i64 (E.length : Nat)) := fun q => c2
    clear w1' w2' w3' w4'
    go_wp2_with fail
    go_ret
    exact ⟨by rw [HZ.out]; rfl, _, rfl⟩
end Go.Proofs.Ytemcilmefknbbaa
