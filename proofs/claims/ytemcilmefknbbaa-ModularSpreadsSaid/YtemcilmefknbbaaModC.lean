/- The walk of counts of package modular. Conditions: the state was made by begin. -/
import Derived.Test.YtemcilmefknbbaaModQ
import Derived.BigRegionIn
namespace Go.Proofs.Ytemcilmefknbbaa
open Go.RowKit Go.Shelf Go.Maps Go.Sort
attribute [local go_sem] Oper.semAt_some

theorem map_ptr : Try.prog.underlying 70 = some (.map 3 2) := Try.underlying70
/-- the labels of the neighbours that have come -/
def labP (L : List Int) (pre : List (Nat × Int)) : List Int := pre.map fun p => nth L p.2.toNat
theorem labP_snoc (L : List Int) (pre : List (Nat × Int)) (x : Nat × Int) : labP L (pre ++ [x]) = labP L pre ++ [nth L x.2.toNat] := by simp [labP]
theorem labP_all {n : Nat} {E : List Ed} (L : List Int) {v : Nat} (hv : v < n) : labP L (around (some (n, E)) (v : Int)) = nl E L v := by
  unfold labP around nl
  rw [gAdj, if_pos (gHas_yes (show 0 ≤ (v : Int) ∧ (v : Int) < (n : Int) by omega)), List.map_map]
  rfl
/-- the map that counts has made -/
def Cnts (l : List Int) (w : World) (e : Ending) (w' : World) : Prop := ∃ mb D, e = .returned (.map (some mb)) ∧ w.heap.size ≤ mb ∧ OwnM w' mb l.length D ∧ CntM D l ∧ Below w.heap.size w w'
theorem ownM_putObj {w : World} {mb N D' : Nat} {D : DataW Unit} (h : OwnM w mb N D) (o : Obj) (hne : mb ≠ D') : OwnM (w.putObj D' o) mb N D := ownM_of h (World.putObj_heap_other hne)

set_option maxRecDepth 100000 in
set_option maxHeartbeats 2000000 in
theorem counts_any (base sb : Nat) (g : Option Addr) (n : Nat) (E : List Ed) (L : List Int) (ed : Int) (N : Nat) (f : Int → Int) (v : Nat) (w : World) (hst : StAt w base sb (.pointer g) L ed N f) (hg : GV w w.heap.size (.pointer g) (some (n, E))) (hn : L.length = n) (hW : LWf L) (hv : v < n) :
    Calls Try.prog 64 #[.pointer (some ⟨sb, 0, none⟩), .int .i64 (v : Nat)] w (Cnts (nl E L v) w) := by
  refine (callsIn_wide (n := 8)).1 ?_
  have hG : GoG (some (n, E)) := hg.good
  have hmm := @run_makeMap Try.prog
  have hW' := Lib.hid hW
  have hsl := hst.lt
  obtain ⟨la, lc, mb0, D0, hR, hLR, -⟩ := hst.mem
  have c0 : w.cell? ⟨sb, 0, none⟩ = some (.pointer g) := hR.cell (i := 0) (by omega)
  have c1 : w.cell? ⟨sb, 1, none⟩ = some (.slice la L.length lc) := hR.cell (i := 1) (by omega)
  obtain ⟨LA, hLS⟩ := hLR.rd lc
  have HL := Lib.hid hLS
  have hB3 : Below w.heap.size w (((w.alloc (.cells #[.pointer (some ⟨sb, 0, none⟩)] 68)).alloc (.map #[] 0)).alloc (.cells #[.map (some (w.heap.size + 1))] 70)) := (((Below.refl _ w).alloc (Nat.le_refl _) _).alloc (by simp) _).alloc (by simp; omega) _
  have c0' := (hB3.cell (p := ⟨sb, 0, none⟩) hsl).trans c0
  have HNl := Lib.hid hn
  clear hR hLR hst hLS hW hB3 hn
  refine callsIn_of_wp_marks Try.func64 rfl trivial ?_ rfl
  simp only [Try.ntmps64, List.size_toArray, List.length_cons, List.length_nil, Nat.reduceAdd, Nat.reduceSub, Array.replicate_succ, Array.replicate_zero, List.push_toArray, List.append_toArray, List.nil_append, List.cons_append]
  gi_wp2_with (refine ⟨trivial, ?_⟩; gi_at_call 46; refine (callsIn_wide.2 (around_call _ _ _)).mono ?_; rintro e w' ⟨rfl, rfl⟩)
  have hm0 := World.ownsMap_made (w.alloc (.cells #[.pointer (some ⟨sb, 0, none⟩)] 68)) Try.prog 3 (plainElem (H := Unit) Try.prog 2)
  rw [World.size_alloc] at hm0
  obtain ⟨W0, hW0⟩ : ∃ W0, (((((w.alloc (.cells #[.pointer (some ⟨sb, 0, none⟩)] 68)).alloc (.map #[] 0)).alloc (.cells #[.map (some (w.heap.size + 1))] 70)).alloc (.cells #[.pointer g] 28)).alloc (.cells #[.int .i64 (v : Nat)] 3)) = W0 := ⟨_, rfl⟩
  have hB0 : Below w.heap.size w W0 := by rw [← hW0]; exact (((((Below.refl _ w).alloc (Nat.le_refl _) _).alloc (by simp) _).alloc (by simp; omega) _).alloc (by simp; omega) _).alloc (by simp; omega) _
  have hs0 : W0.heap.size = w.heap.size + 5 := by rw [← hW0]; simp
  have h1 : W0.heap[w.heap.size + 1 + 1 + 1]? = some (.cells #[.pointer g] 28 (0, 0)) := by
    rw [← hW0, Below.heap_alloc _ _ _ (by simp)]
    have := heap_alloc_new (((w.alloc (.cells #[.pointer (some ⟨sb, 0, none⟩)] 68)).alloc (.map #[] 0)).alloc (.cells #[.map (some (w.heap.size + 1))] 70)) (.cells #[.pointer g] 28)
    rwa [World.size_alloc, World.size_alloc, World.size_alloc] at this
  have h2 : W0.heap[w.heap.size + 1 + 1 + 1 + 1]? = some (.cells #[.int .i64 (v : Nat)] 3 (0, 0)) := by
    rw [← hW0]
    have := heap_alloc_new ((((w.alloc (.cells #[.pointer (some ⟨sb, 0, none⟩)] 68)).alloc (.map #[] 0)).alloc (.cells #[.map (some (w.heap.size + 1))] 70)).alloc (.cells #[.pointer g] 28)) (.cells #[.int .i64 (v : Nat)] 3)
    rwa [World.size_alloc, World.size_alloc, World.size_alloc, World.size_alloc] at this
  have h3' : W0.heap[w.heap.size + 1 + 1]? = some (.cells #[.map (some (w.heap.size + 1))] 70 (0, 0)) := by
    rw [← hW0, Below.heap_alloc _ _ _ (by simp), Below.heap_alloc _ _ _ (by simp)]
    have := heap_alloc_new ((w.alloc (.cells #[.pointer (some ⟨sb, 0, none⟩)] 68)).alloc (.map #[] 0)) (.cells #[.map (some (w.heap.size + 1))] 70)
    rwa [World.size_alloc, World.size_alloc] at this
  have h4' : W0.heap[w.heap.size]? = some (.cells #[.pointer (some ⟨sb, 0, none⟩)] 68 (0, 0)) := by
    rw [← hW0, Below.heap_alloc _ _ _ (by simp only [World.size_alloc]; omega), Below.heap_alloc _ _ _ (by simp only [World.size_alloc]; omega), Below.heap_alloc _ _ _ (by simp only [World.size_alloc]; omega), Below.heap_alloc _ _ _ (by simp only [World.size_alloc]; omega)]
    exact heap_alloc_new w _
  have h3 : W0.cell? ⟨w.heap.size + 1 + 1, 0, none⟩ = some (.map (some (w.heap.size + 1))) := by simp [World.cell?, h3']
  have h4 : W0.cell? ⟨w.heap.size, 0, none⟩ = some (.pointer (some ⟨sb, 0, none⟩)) := by simp [World.cell?, h4']
  have hm1 : OwnM W0 (w.heap.size + 1) 0 (.map []) := by rw [← hW0]; exact ((hm0.alloc _).alloc _).alloc _
  have hg0 : GV W0 w.heap.size (.pointer g) (some (n, E)) := hg.below hB0
  rw [hW0]
  clear hW0 hm0 hmm h3' h4'
  refine rangeR (F := Fence.wide) rfl (by omega) (gf := 66) (lb := #[.pointer (some ⟨w.heap.size + 1 + 1 + 1, 0, none⟩), .pointer (some ⟨w.heap.size + 1 + 1 + 1 + 1, 0, none⟩)]) rfl trivial (enters_of Try.func66 (by kernel_rfl) rfl)
    (around_stops 7 (by omega) (w.heap.size + 1 + 1 + 1) (w.heap.size + 1 + 1 + 1 + 1) w.heap.size g v (some (n, E)) W0 hg0 h1 h2 (by omega)) keepB_t (keepB_b (by omega) (by omega) (by omega)) (Below.refl _ _) (fun _ => rfl)
    (fun pre W => (W.cell? ⟨w.heap.size + 1 + 1, 0, none⟩ = some (.map (some (w.heap.size + 1))) ∧ W.cell? ⟨w.heap.size, 0, none⟩ = some (.pointer (some ⟨sb, 0, none⟩)) ∧ (∃ D, OwnM W (w.heap.size + 1) (labP L pre).length D ∧ CntM D (labP L pre)) ∧ W0.heap.size ≤ W.heap.size) ∧ Below w.heap.size w W)
    (fun _ _ _ => False)
    (OwnFrom.and (fun s A B row hs hg hr => ⟨cell_kept hs.1 hg (fun r e => (hr r e).2), cell_kept hs.2.1 hg (fun r e => (hr r e).2), by obtain ⟨D, hd1, hd2⟩ := hs.2.2.1; exact ⟨D, hd1.kept hg (fun e => by have := (hr _ e.symm).1; omega), hd2⟩, Nat.le_trans hs.2.2.2 hg.size⟩) (ownFrom_below (Nat.le_refl _) (by omega)))
    (fun _ _ _ _ _ hs _ _ => hs)
    ⟨⟨h3, h4, ⟨_, hm1, CntM.nil⟩, Nat.le_refl _⟩, hB0⟩
    (fun _ x a' _ => a' = { tmps := #[.pointer (some ⟨sb, 0, none⟩), .int .i64 (v : Nat), .pointer (some ⟨w.heap.size, 0, none⟩), undef, .map none, .pointer (some ⟨w.heap.size + 1 + 1, 0, none⟩), undef, .int .i64 x.2, .map (some (w.heap.size + 1)), .pointer (some ⟨sb, 0, none⟩), .pointer (some ⟨sb, 0, none⟩), .pointer (some ⟨sb, 0, none⟩), .pointer g, .int .i64 (v : Nat), .func (.func 66) #[] #[.pointer (some ⟨w.heap.size + 1 + 1 + 1, 0, none⟩), .pointer (some ⟨w.heap.size + 1 + 1 + 1 + 1, 0, none⟩)], .int .i64 (x.1 : Nat), .int .i64 x.2, undef, undef, undef, undef, undef, undef, undef, undef, undef, undef, undef], defers := [] })
    (fun _ _ _ _ _ _ _ hs _ _ => hs) ?assign ?body ?done ?stop
  case assign =>
    intro l pre x W K hI hR hK
    gi_wp2
    exact hK _ _ (KeepsFrom.refl _ _) ⟨Below.refl _ _, rfl, rfl⟩ hI rfl
  case body =>
    rintro l pre x a' W hl - ⟨⟨hc, hc4, ⟨D, hown, hD⟩, hsW⟩, hB⟩ rfl hR
    have hx : x ∈ around (some (n, E)) v := hR.subset (by simp)
    have hb := around_wf hG hx
    obtain ⟨x1, x2⟩ := x
    simp only at hb
    obtain ⟨y, rfl⟩ : ∃ y : Nat, x2 = y := ⟨x2.toNat, by omega⟩
    have hy : y < L.length := by rw [HNl.out]; have : (y : Int) < (n : Int) := hb.2; omega
    have hwf := hW'.out.nth hy
    have hpl : (labP L pre).length < 20000 := by
      have h5 := hR.length_le
      have h6 := gAdj_len hg v
      simp [around] at h5
      simp [labP]; omega
    have hL1 := HL.out.below hB
    have ix := hL1.ix y hy
    have l0 := Sl.at hL1 hy
    have d1 : W.cell? ⟨sb, 1, none⟩ = some (.slice la L.length lc) := (hB.cell hsl).trans c1
    obtain ⟨z, hz⟩ : ∃ z, nth L y = z := ⟨_, rfl⟩
    rw [hz] at hwf l0
    have hlk := look_eq hown.drew hD.a hwf
    have hcnt : (labP L pre).count z ≤ (labP L pre).length := List.count_le_length
    obtain ⟨w1, hrun, hown1, hgrow1⟩ := hown.drew.update lawI map_ptr (val := .int .i64 (((labP L pre).count z : Nat) + 1)) (by unfold maxLen; omega) (keyOf_int_mk Try.underlying3 hwf) (plainElem_int Try.underlying2 (WalkArith.wf_i64 (by omega)))
    have hwr : IntKind.i64.wrap (((labP L pre).count z : Nat) + 1) = ((labP L pre).count z : Nat) + 1 := IntWalk.i64_in _ (by omega)
    have HDn : CntM (D.put (ky z) (i64D (((labP L pre).count z : Nat) + 1))) (labP L (pre ++ [(x1, (y : Int))])) := by
      rw [labP_snoc]
      have e : nth L ((x1, (y : Int)).2).toNat = z := hz
      rw [e]; exact hD.snoc z rfl
    have HE := Lib.hid HDn
    have hlen : (labP L (pre ++ [(x1, (y : Int))])).length = (labP L pre).length + 1 := by rw [labP_snoc]; simp
    have HLn := Lib.hid hlen
    obtain ⟨es, ck, hh, -⟩ := hown
    have hBd : Below w.heap.size w W.drew := hB.drew
    have hh' : W.drew.heap[w.heap.size + 1]? = some (.map es ck) := hh
    have hcd : W.drew.cell? ⟨w.heap.size + 1 + 1, 0, none⟩ = some (.map (some (w.heap.size + 1))) := hc
    have hcd4 : W.drew.cell? ⟨w.heap.size, 0, none⟩ = some (.pointer (some ⟨sb, 0, none⟩)) := hc4
    have hsz1 : W.drew.heap.size = W.heap.size := rfl
    have hKF : KeepsFrom W0.heap.size W.drew w1 := KeepsFrom.of_grownBy hgrow1 (fun j e => by cases e; omega)
    have FIN := Lib.hid (show KeepsFrom W0.heap.size W w1 ∧ KeepB w.heap.size (w.heap.size + 1 + 1 + 1) (w.heap.size + 1 + 1 + 1 + 1) W w1 ∧ (w1.cell? ⟨w.heap.size + 1 + 1, 0, none⟩ = some (.map (some (w.heap.size + 1))) ∧ w1.cell? ⟨w.heap.size, 0, none⟩ = some (.pointer (some ⟨sb, 0, none⟩)) ∧ (∃ D, OwnM w1 (w.heap.size + 1) (labP L (pre ++ [(x1, (y : Int))])).length D ∧ CntM D (labP L (pre ++ [(x1, (y : Int))]))) ∧ W0.heap.size ≤ w1.heap.size) ∧ Below w.heap.size w w1 from
      ⟨⟨hKF.size, hKF.same⟩,
       ⟨(Below.refl _ W).drew.grown hgrow1 hBd.size (fun k e => by cases e; omega), hgrow1.block _ (by omega) (fun e => by have := Option.some.inj e; omega), hgrow1.block _ (by omega) (fun e => by have := Option.some.inj e; omega)⟩,
       ⟨cell_kept hcd hgrow1 (fun r e => by cases e; exact ⟨_, hh', rfl⟩), cell_kept hcd4 hgrow1 (fun r e => by cases e; exact ⟨_, hh', rfl⟩), ⟨_, by rw [HLn.out]; exact hown1, HE.out⟩, Nat.le_trans hsW hgrow1.size⟩,
       hBd.grown hgrow1 hBd.size (fun k e => by cases e; omega)⟩)
    clear hR hD HDn hlen hz hh hh' hcd hcd4 hown1 hgrow1 hKF
    gi_wp2
    gi_region
    all_goals (gi_wp2; exact FIN.out)
  case done =>
    rintro D xs W hD rfl ⟨⟨hc, hc4, ⟨Dm, hown, hDm⟩, hsW⟩, hB⟩ hK
    rw [labP_all L hv] at hown hDm
    have hBw := hB.size
    have hne : w.heap.size + 1 ≠ D := by omega
    gi_wp2
    refine ⟨by simp, .inl ⟨_, _, rfl, run_takeDeferred hK, ?_⟩⟩
    exact ⟨_, results_tmp rfl _ _ _, w.heap.size + 1, Dm, rfl, by omega, ownM_putObj hown _ hne, hDm, hB.trans (belowK_b (w := w) (Nat.le_refl _) W D _ _ (by omega) hK rfl rfl)⟩
  case stop =>
    rintro D c pre W _ h _
    exact h.elim
end Go.Proofs.Ytemcilmefknbbaa
