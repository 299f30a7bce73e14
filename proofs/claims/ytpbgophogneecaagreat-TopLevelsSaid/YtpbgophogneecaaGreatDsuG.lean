/- The walk of Groups of package dsu: how many groups there are, and how long each is. Conditions: the sets were made by New. -/
import Derived.Test.YtpbgophogneecaaGreatDsa
import Derived.Test.YtpbgophogneecaaGreatMe
import Derived.Laws.MakeOwn
namespace Go.Proofs.YtpbgophogneecaaGreat
open Go.RowKit

theorem Tryz.infoSl : (Tryz.prog.info? 46).map (fun i => (i.zero, i.size, i.bytes)) = some (some (.slice none 0 0), 1, 24) := by kernel_rfl
theorem etII : ET 68 46 1 24 := ET.of Tryz.underlying68 Tryz.infoSl rfl (by decide)
/-- what lies in memory while the groups are made -/
structure GSt (w0 w : World) (z : Zone) (b ub lb sb n : Nat) (u ls sz : Nat → Nat) (cnt : Nat) (f nx : Nat → Nat) : Prop where
  l : Row w w0.heap.size n (natC f)
  nx : Row w (w0.heap.size + 1) n (natC nx)
  ds : DsM w z b ub lb sb n u ls sz cnt
  bel : Below z.low w0 w
section
variable {w0 w w' : World} {z : Zone} {b ub lb sb n cnt : Nat} {u ls sz f nx : Nat → Nat}
theorem GSt.setNx (h : GSt w0 w z b ub lb sb n u ls sz cnt f nx) (hz : z.high ≤ w0.heap.size) (i v : Nat) : GSt w0 (w.setCell ⟨w0.heap.size + 1, i, none⟩ (.int .i64 (v : Nat))) z b ub lb sb n u ls sz cnt f (fun k => if k = i then v else nx k) := by
  have h1 := h.ds.lo
  refine ⟨h.l.setOther (by show w0.heap.size ≠ w0.heap.size + 1; omega) _, (h.nx.set i _).congr fun j _ => natC_set nx i v j, ⟨h.ds.st.setOther ?_ _, h.ds.rup.setOther ?_ _, h.ds.rls.setOther ?_ _, h.ds.rsz.setOther ?_ _, h.ds.ne, h1⟩, h.bel.setCell (p := ⟨w0.heap.size + 1, i, none⟩) ?_ _⟩
  · have := h1.1.2; show b ≠ w0.heap.size + 1; omega
  · have := h1.2.1.2; show ub ≠ w0.heap.size + 1; omega
  · have := h1.2.2.1.2; show lb ≠ w0.heap.size + 1; omega
  · have := h1.2.2.2.2; show sb ≠ w0.heap.size + 1; omega
  · have := h1.1.2; have := h1.1.1; show z.low ≤ w0.heap.size + 1; omega
theorem GSt.setL (h : GSt w0 w z b ub lb sb n u ls sz cnt f nx) (hz : z.high ≤ w0.heap.size) (i v : Nat) : GSt w0 (w.setCell ⟨w0.heap.size, i, none⟩ (.int .i64 (v : Nat))) z b ub lb sb n u ls sz cnt (fun k => if k = i then v else f k) nx := by
  have h1 := h.ds.lo
  refine ⟨(h.l.set i _).congr fun j _ => natC_set f i v j, h.nx.setOther (by show w0.heap.size + 1 ≠ w0.heap.size; omega) _, ⟨h.ds.st.setOther ?_ _, h.ds.rup.setOther ?_ _, h.ds.rls.setOther ?_ _, h.ds.rsz.setOther ?_ _, h.ds.ne, h1⟩, h.bel.setCell (p := ⟨w0.heap.size, i, none⟩) ?_ _⟩
  · have := h1.1.2; show b ≠ w0.heap.size; omega
  · have := h1.2.1.2; show ub ≠ w0.heap.size; omega
  · have := h1.2.2.1.2; show lb ≠ w0.heap.size; omega
  · have := h1.2.2.2.2; show sb ≠ w0.heap.size; omega
  · have := h1.1.2; have := h1.1.1; show z.low ≤ w0.heap.size; omega
theorem GSt.grown (h : GSt w0 w z b ub lb sb n u ls sz cnt f nx) (hz : z.high ≤ w0.heap.size) (hb : Below (w0.heap.size + 1 + 1) w w') : GSt w0 w' z b ub lb sb n u ls sz cnt f nx := by
  have h1 := h.ds.lo
  have c1 := h1.1.2; have c2 := h1.2.1.2; have c3 := h1.2.2.1.2; have c4 := h1.2.2.2.2; have c5 := h1.1.1
  exact ⟨h.l.below hb (by omega), h.nx.below hb (by omega), ⟨h.ds.st.below hb (by omega), h.ds.rup.below hb (by omega), h.ds.rls.below hb (by omega), h.ds.rsz.below hb (by omega), h.ds.ne, h1⟩, h.bel.trans (hb.mono (by omega))⟩
end
/-- the groups as slice values -/
def gvl (g n : Nat) (lab : Nat → Nat) (j : Nat) : Value := .slice (some ⟨g, stG n lab j, none⟩) (clsN n lab j) (clsN n lab j)
/-- what Groups answers -/
def DGrpRes (z : Zone) (n : Nat) (lab : Nat → Nat) (w : World) (e : Ending) (w' : World) : Prop :=
  ∃ v, e = .returned v ∧ w'.ownsRow (w.heap.size + 1 + 1) 46 1 v (lbL lab n).length ((lbL lab n).map (gvl w.heap.size n lab)) ∧ Below z.low w w'
set_option maxRecDepth 100000 in
set_option maxHeartbeats 4000000 in
theorem dgroups_any (z : Zone) (b n : Nat) (lab : Nat → Nat) (w : World) (hD : DS w z b n lab) (hz : z.high ≤ w.heap.size) (hn : n ≤ 65536) :
    Calls Tryz.prog 44 #[.pointer (some ⟨b, 0, none⟩)] w (DGrpRes z n lab w) := by
  obtain ⟨ub, lb, sb, up, ls, sz, h, H, hM, hU, hK, hls⟩ := hD
  have hcl := cntN_le n lab
  obtain ⟨cnt, hcnt⟩ : ∃ c, cntN n lab = c := ⟨_, rfl⟩
  rw [hcnt] at hM hcl
  have hmk : ∀ w, (Instr.makeSlice 46 (.int .i64 (n : Nat)) (.int .i64 (n : Nat))).run Tryz.prog w = .ok (.slice (some ⟨w.heap.size, 0, none⟩) n n) (w.alloc (.cells (madeCells #[.int .i64 0] n) 3)) := fun w =>
    run_make_row' (P := Tryz.prog) 46 3 (.int .i64 0) 8 Tryz.underlying46 Tryz.infoI rfl .i64 .i64 n (by omega) (by omega) w
  have HCnt := Lib.hid hcnt
  have c0 : w.cell? ⟨b, 0, none⟩ = some (.pointer (some ⟨b, 0, none⟩)) := hM.st.cell (i := 0) (by omega)
  have c1 : w.cell? ⟨b, 1, none⟩ = some (.slice (some ⟨ub, 0, none⟩) n n) := hM.st.cell (i := 1) (by omega)
  have HV := Lib.hid (dvalid_is b w c0)
  have hMa := hM.below ((Below.refl _ _).alloc (Nat.le_refl _) (.cells (madeCells #[.int .i64 0] n) 3))
  have c2 : (w.alloc (.cells (madeCells #[.int .i64 0] n) 3)).cell? ⟨b, 1, none⟩ = some (.slice (some ⟨ub, 0, none⟩) n n) := hMa.st.cell (i := 1) (by omega)
  have hMb := hMa.below ((Below.refl _ _).alloc (Nat.le_refl _) (.cells (madeCells #[.int .i64 0] n) 3))
  have c3 : ((w.alloc (.cells (madeCells #[.int .i64 0] n) 3)).alloc (.cells (madeCells #[.int .i64 0] n) 3)).cell? ⟨b, 4, none⟩ = some (.int .i64 (cnt : Nat)) := hMb.st.cell (i := 4) (by omega)
  obtain ⟨ti, tz, hti, htz, h2, h3, h4⟩ := etII.info
  obtain ⟨wC, hmk2, hown, hg1⟩ := run_make_own (P := Tryz.prog) ((w.alloc (.cells (madeCells #[.int .i64 0] n) 3)).alloc (.cells (madeCells #[.int .i64 0] n) 3)) (w.heap.size + 1 + 1) 68 46 ti tz 1 etII.ht hti htz h2 .i64 .i64 cnt (by rw [h3]; omega) (by unfold maxLen; omega) (by simp)
  have hr1 := Row.made w (.int .i64 0) n 3
  have hr2 := Row.made (w.alloc (.cells (madeCells #[.int .i64 0] n) 3)) (.int .i64 0) n 3
  simp only [World.size_alloc] at hr2 hmk2 hown
  have hbC : Below (w.heap.size + 1 + 1) ((w.alloc (.cells (madeCells #[.int .i64 0] n) 3)).alloc (.cells (madeCells #[.int .i64 0] n) 3)) wC := (Below.refl _ _).grown hg1 (by simp) (fun j e => by cases e)
  have hG0 : GSt w ((w.alloc (.cells (madeCells #[.int .i64 0] n) 3)).alloc (.cells (madeCells #[.int .i64 0] n) 3)) z b ub lb sb n up ls sz cnt (fun _ => 0) (fun _ => 0) :=
    ⟨(hr1.alloc _).congr fun _ _ => rfl, hr2.congr fun _ _ => rfl, hMb, ((Below.refl _ w).alloc (by have := hM.lo.1.1; have := hM.lo.1.2; omega) _).alloc (by have := hM.lo.1.1; have := hM.lo.1.2; simp; omega) _⟩
  have HG := Lib.hid (hG0.grown hz hbC)
  have HO := Lib.hid hown
  have HU := Lib.hid hU; have HK := Lib.hid hK; have HLS := Lib.hid hls
  have hsC : w.heap.size + 1 + 1 ≤ wC.heap.size := by have := hbC.size; simp at this; omega
  have HSC := Lib.hid hsC
  clear hM hU hK hls c0 hMa hMb hown hg1 hr1 hr2 hbC hG0 hcnt hti htz h2 h3 h4 hsC
  go_enter Tryz.func44, Tryz.ntmps44
  go_wp2_with fail
  refine HV.out.mono ?_
  rintro e wx ⟨rfl, rfl⟩
  clear HV
  go_wp2_with fail
  clear c1 c2 c3 hmk hmk2
  go_loopw [5, 6, 32] (fun gv ev iv wr => ∃ (i : Nat) (u f nx : Nat → Nat), i ≤ n ∧ iv = .int .i64 (i : Nat) ∧ ev = .int .i64 (stG n lab i : Nat) ∧ Hid (GSt w wr z b ub lb sb n u ls sz cnt f nx) ∧ Hid (UF n u lab h H) ∧ Hid (∀ j, j < n → (u j = j ↔ up j = j)) ∧ Hid (∀ j, j < i → lab j = j → nx j = stG n lab j + rkG lab j i) ∧
    Hid (wr.ownsRow (w.heap.size + 1 + 1) 46 1 gv (lbL lab i).length ((lbL lab i).map (gvl w.heap.size n lab))) ∧ Hid (w.heap.size + 1 + 1 ≤ wr.heap.size)) (fun _ _ iv _ => n - (intOf iv).toNat)
  case atStart => exact ⟨0, up, fun _ => 0, fun _ => 0, Nat.zero_le _, rfl, by rw [stG_zero]; rfl, HG, HU, Lib.hid (fun _ _ => Iff.rfl), Lib.hid (fun j hj => absurd hj (by omega)), HO, HSC⟩
  case round =>
    clear HG HU HO HSC
    obtain ⟨i, u, f, nx, hi, rfl, rfl, HG, HU, HI, HN, HO, HSz⟩ := hrel
    by_cases hlt : i < n
    · have HRt := Lib.hid (droot_any z b ub lb sb n cnt u ls sz lab h H i wr HG.out.ds HU.out hlt)
      go_wp2_with fail
      refine HRt.out.mono ?_
      rintro e w4 ⟨r, u4, rfl, hr, hrr, hrl, hM4, hU4, hI4, hin⟩
      have hzz := hz
      have G4 : GSt w w4 z b ub lb sb n u4 ls sz cnt f nx := ⟨HG.out.l.inner hin (fun c => by have := c.2; omega), HG.out.nx.inner hin (fun c => by have := c.2; omega), hM4, HG.out.bel.trans hin.bel⟩
      have O4 := own_inner HO.out hin (by omega)
      have hs4 : w.heap.size + 1 + 1 ≤ w4.heap.size := Nat.le_trans HSz.out hin.bel.size
      have hri : (0 : Int) ≤ r ∧ (r : Int) < n := by omega
      have hls4 := HLS.out r hr ((HI.out r hr).1 ((hI4 r hr).1 hrr))
      have b2 : w4.cell? ⟨b, 2, none⟩ = some (.slice (some ⟨lb, 0, none⟩) n n) := hM4.st.cell (i := 2) (by omega)
      have b3 : w4.cell? ⟨lb, r, none⟩ = some (.int .i64 (lab i : Nat)) := by rw [hM4.rls.cell hr, natC, hls4.1, hrl]
      have hcs : clsN n lab r = clsN n lab i := by unfold clsN; rw [hrl]
      have hroom := room HK.out hlt
      have hll := HK.out.le i
      have HU5 := Lib.hid hU4
      have HI5 := Lib.hid (fun j hj => (hI4 j hj).trans (HI.out j hj))
      have HIdem := Lib.hid (HK.out.idem i)
      have hcp := clsN_posG (lab := lab) hlt
      have hst1 := stG_le n lab (i + 1)
      have hst0 := stG_le n lab i
      have hiv : (0 : Int) ≤ i ∧ (i : Int) < n := by omega
      by_cases hl : lab i = i
      · have k1 : (((lab i : Nat) : Int) == (i : Int)) = true := by simp [hl]
        have hsl := stG_label (n := n) hl
        have hrk := rkG_none HK.out (Nat.le_refl i)
        obtain ⟨s0, hs0⟩ : ∃ s, stG n lab i = s := ⟨_, rfl⟩
        obtain ⟨cl, hcl2⟩ : ∃ s, clsN n lab i = s := ⟨_, rfl⟩
        have hsz : sz r = cl := by rw [hls4.2, hcs, hcl2]
        rw [hl, hs0, hrk] at hroom
        rw [hs0, hcl2] at hsl
        rw [hcl2] at hcp
        rw [hs0] at hst0 ⊢
        rw [hl] at b3
        have G5 := G4.setNx hzz i s0
        have b4 : (w4.setCell ⟨w.heap.size + 1, i, none⟩ (.int .i64 (s0 : Nat))).cell? ⟨b, 3, none⟩ = some (.slice (some ⟨sb, 0, none⟩) n n) := G5.ds.st.cell (i := 3) (by omega)
        have b5 : (w4.setCell ⟨w.heap.size + 1, i, none⟩ (.int .i64 (s0 : Nat))).cell? ⟨sb, r, none⟩ = some (.int .i64 (cl : Nat)) := by rw [G5.ds.rsz.cell hr, natC, hsz]
        have b6 : (w4.setCell ⟨w.heap.size + 1, i, none⟩ (.int .i64 (s0 : Nat))).cell? ⟨w.heap.size + 1, i, none⟩ = some (.int .i64 (s0 : Nat)) := by rw [G5.nx.cell hlt, natC, if_pos rfl]
        have n1 : w4.cell? ⟨w.heap.size + 1, i, none⟩ = some (natC nx i) := G4.nx.cell hlt
        have f1 := G4.nx.frozen i
        have HO5 := Lib.hid (ownsRow_setCell_below O4 (a := ⟨w.heap.size + 1, i, none⟩) (by show w.heap.size + 1 < w.heap.size + 1 + 1; omega) (.int .i64 (s0 : Nat)))
        have hsum : IntKind.i64.wrap ((s0 : Int) + (cl : Int)) = ((s0 + cl : Nat) : Int) := by rw [IntWalk.i64_in _ (by omega)]; omega
        have hs0v : (0 : Int) ≤ s0 ∧ (s0 : Int) < n := by omega
        have hlbl : (lbL lab i).length ≤ 65536 := by rw [lbL_len]; have := cntN_le i lab; omega
        have HG5 := Lib.hid G5
        have HL := Lib.hid hl; have HS0 := Lib.hid hs0; have HCl := Lib.hid hcl2; have HSL := Lib.hid hsl
        have hsz5 : w.heap.size + 1 + 1 ≤ (w4.setCell ⟨w.heap.size + 1, i, none⟩ (.int .i64 (s0 : Nat))).heap.size := by simp [World.setCell]; omega
        have hsum2 : s0 + cl ≤ n := by omega
        unfold natC at n1
        clear hl hs0 hcl2 hsz G4 O4 G5 hrk hsl hM4 hU4 hI4 hin hrr hrl hls4 hcs HG HU HI HO HRt hst1
        go_wp2_with (at_builtin; go_loud (refine push etII rfl _ _ rfl (w.heap.size + 1 + 1) _ _ _ HO5.out rfl #[.slice (some ⟨w.heap.size, s0, none⟩) cl cl] _ rfl (by simp [World.setCell]) rfl (by simp [Value.oneCell']) (by omega) (by omega) hsz5 ?_; intro g cp w5 hown5 hg5 hv5; refine Hid.out ?_))
        have hb5 : Below (w.heap.size + 1 + 1) (w4.setCell ⟨w.heap.size + 1, i, none⟩ (.int .i64 (s0 : Nat))) w5 := (Below.refl _ _).grown hg5 hsz5 (fun j e => (HO5.out.lt j e).1)
        have G6 := HG5.out.grown hzz hb5
        have e1 : w5.cell? ⟨w.heap.size + 1, i, none⟩ = some (.int .i64 (s0 : Nat)) := by rw [G6.nx.cell hlt, natC, if_pos rfl]
        have e2 : w5.cell? ⟨w.heap.size, s0, none⟩ = some (.int .i64 (f s0 : Nat)) := G6.l.cell (by omega)
        have f2 := G6.l.frozen s0
        have G7 := G6.setL hzz s0 i
        have e3 : (w5.setCell ⟨w.heap.size, s0, none⟩ (.int .i64 (i : Nat))).cell? ⟨w.heap.size + 1, i, none⟩ = some (.int .i64 (s0 : Nat)) := by rw [G7.nx.cell hlt, natC, if_pos rfl]
        have f3 := G7.nx.frozen i
        have G8 := G7.setNx hzz i (s0 + 1)
        have ho8 := ownsRow_setCell_below (ownsRow_setCell_below hown5 (a := ⟨w.heap.size, s0, none⟩) (by show w.heap.size < w.heap.size + 1 + 1; omega) (.int .i64 (i : Nat))) (a := ⟨w.heap.size + 1, i, none⟩) (by show w.heap.size + 1 < w.heap.size + 1 + 1; omega) (.int .i64 (s0 + 1 : Nat))
        have HO8 := Lib.hid (show ((w5.setCell ⟨w.heap.size, s0, none⟩ (.int .i64 (i : Nat))).setCell ⟨w.heap.size + 1, i, none⟩ (.int .i64 (s0 + 1 : Nat))).ownsRow (w.heap.size + 1 + 1) 46 1 (.slice (some ⟨g, 0, none⟩) ((lbL lab i).length + 1 : Nat) cp) (lbL lab (i + 1)).length ((lbL lab (i + 1)).map (gvl w.heap.size n lab)) by
          rw [lbL_succ, if_pos HL.out, List.length_append, List.map_append]
          have hg : gvl w.heap.size n lab i = .slice (some ⟨w.heap.size, s0, none⟩) cl cl := by unfold gvl; rw [HS0.out, HCl.out]
          simp only [List.map_cons, List.map_nil, hg]
          exact ho8)
        have HG8 := Lib.hid G8
        have HN8 := Lib.hid (show ∀ j, j < i + 1 → lab j = j → (fun k => if k = i then s0 + 1 else if k = i then s0 else nx k) j = stG n lab j + rkG lab j (i + 1) from fun j hj hlj => by
          show (if j = i then s0 + 1 else if j = i then s0 else nx j) = _
          by_cases e : j = i
          · subst e
            rw [if_pos rfl, rkG_succ, if_pos HL.out, rkG_none HK.out (Nat.le_refl j), HS0.out]
          · rw [if_neg e, if_neg e, HN.out j (by omega) hlj, rkG_succ, HL.out, if_neg (fun c => e c.symm)]; rfl)
        have HSz8 := Lib.hid (show w.heap.size + 1 + 1 ≤ ((w5.setCell ⟨w.heap.size, s0, none⟩ (.int .i64 (i : Nat))).setCell ⟨w.heap.size + 1, i, none⟩ (.int .i64 (s0 + 1 : Nat))).heap.size by
          have h9 := hb5.size
          have h10 : w.heap.size + 1 + 1 ≤ w5.heap.size := Nat.le_trans hsz5 h9
          simp [World.setCell]; omega)
        have hsn : IntKind.i64.wrap ((s0 : Int) + 1) = ((s0 + 1 : Nat) : Int) := by rw [IntWalk.i64_in _ (by omega)]; omega
        have hsl2 : s0 + cl = stG n lab (i + 1) := HSL.out.symm
        have HSL2 := Lib.hid hsl2
        refine Lib.hid ?_
        clear hown5 hg5 hv5 hb5 G6 G7 G8 ho8 HO5 HG5 HN b2 b3 b4 b5 b6 n1 f1 hsl2
        go_wp2_with fail
        go_roundw
        case rel => exact ⟨i + 1, u4, _, _, by omega, by go_num, by rw [← HSL2.out]; go_num, HG8, HU5, HI5, HN8, HO8, HSz8⟩
        case measure => simp only [intOf]; omega
      · have k1 : (((lab i : Nat) : Int) == (i : Int)) = false := by simp; omega
        have hji : lab i < i := by omega
        have hnj := HN.out (lab i) hji (HK.out.idem i)
        obtain ⟨j, hj⟩ : ∃ j, lab i = j := ⟨_, rfl⟩
        obtain ⟨s0, hs0⟩ : ∃ s, stG n lab j + rkG lab j i = s := ⟨_, rfl⟩
        rw [hj] at hji hnj hroom b3 k1
        rw [hs0] at hroom hnj
        have HJ := Lib.hid hj; have HS0 := Lib.hid hs0
        have hoth := stG_other (n := n) HK.out hl
        have e1 : w4.cell? ⟨w.heap.size + 1, j, none⟩ = some (.int .i64 (s0 : Nat)) := by rw [G4.nx.cell (by omega), natC, hnj]
        have e2 : w4.cell? ⟨w.heap.size, s0, none⟩ = some (.int .i64 (f s0 : Nat)) := G4.l.cell (by omega)
        have f2 := G4.l.frozen s0
        have G7 := G4.setL hzz s0 i
        have e3 : (w4.setCell ⟨w.heap.size, s0, none⟩ (.int .i64 (i : Nat))).cell? ⟨w.heap.size + 1, j, none⟩ = some (.int .i64 (s0 : Nat)) := by rw [G7.nx.cell (by omega), natC, hnj]
        have f3 := G7.nx.frozen j
        have G8 := G7.setNx hzz j (s0 + 1)
        have ho8 := ownsRow_setCell_below (ownsRow_setCell_below O4 (a := ⟨w.heap.size, s0, none⟩) (by show w.heap.size < w.heap.size + 1 + 1; omega) (.int .i64 (i : Nat))) (a := ⟨w.heap.size + 1, j, none⟩) (by show w.heap.size + 1 < w.heap.size + 1 + 1; omega) (.int .i64 (s0 + 1 : Nat))
        have HO8 := Lib.hid (show ((w4.setCell ⟨w.heap.size, s0, none⟩ (.int .i64 (i : Nat))).setCell ⟨w.heap.size + 1, j, none⟩ (.int .i64 (s0 + 1 : Nat))).ownsRow (w.heap.size + 1 + 1) 46 1 u5 (lbL lab (i + 1)).length ((lbL lab (i + 1)).map (gvl w.heap.size n lab)) by
          rw [lbL_succ, if_neg hl]; exact ho8)
        have HG8 := Lib.hid G8
        have HN8 := Lib.hid (show ∀ k, k < i + 1 → lab k = k → (fun k => if k = j then s0 + 1 else nx k) k = stG n lab k + rkG lab k (i + 1) from fun k hk hlk => by
          show (if k = j then s0 + 1 else nx k) = _
          have hki : k ≠ i := fun e => hl (by rw [← e]; exact hlk)
          by_cases e : k = j
          · subst e
            rw [if_pos rfl, rkG_succ, if_pos HJ.out, ← HS0.out]; omega
          · rw [if_neg e, HN.out k (by omega) hlk, rkG_succ, HJ.out, if_neg (fun c => e c.symm)]; rfl)
        have HSz8 := Lib.hid (show w.heap.size + 1 + 1 ≤ ((w4.setCell ⟨w.heap.size, s0, none⟩ (.int .i64 (i : Nat))).setCell ⟨w.heap.size + 1, j, none⟩ (.int .i64 (s0 + 1 : Nat))).heap.size by simp [World.setCell]; omega)
        have hsn : IntKind.i64.wrap ((s0 : Int) + 1) = ((s0 + 1 : Nat) : Int) := by rw [IntWalk.i64_in _ (by omega)]; omega
        have hjv : (0 : Int) ≤ j ∧ (j : Int) < n := by omega
        have hs0v : (0 : Int) ≤ s0 ∧ (s0 : Int) < n := by omega
        have HOth := Lib.hid hoth
        clear hl hj hs0 hnj hoth hls4 hcs hrr hrl hM4 hU4 hI4 hin G4 O4 G7 G8 ho8 HG HU HI HO HRt HN hcp hst1 hst0
        go_wp2_with fail
        go_roundw
        case rel => exact ⟨i + 1, u4, _, _, by omega, by go_num, by rw [HOth.out], HG8, HU5, HI5, HN8, HO8, HSz8⟩
        case measure => simp only [intOf]; omega
    · obtain rfl : i = n := by omega
      go_wp2_with fail
      go_ret
      exact ⟨_, rfl, HO.out, HG.out.bel⟩
end Go.Proofs.YtpbgophogneecaaGreat
