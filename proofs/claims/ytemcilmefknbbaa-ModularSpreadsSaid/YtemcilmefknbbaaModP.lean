/- The walk of pass of package modular. Conditions: the state was made by begin. -/
import Derived.Test.YtemcilmefknbbaaModD
import Derived.Laws.EntriesVeiled
namespace Go.Proofs.Ytemcilmefknbbaa
open Go.RowKit Go.Shelf Go.Maps Go.Sort
attribute [local go_sem] Oper.semAt_some

theorem WClo.form {w : World} {base sb : Nat} {E : List Ed} {L : List Int} {v : Nat} {fv : Value} (h : WClo w base sb E L v fv) : ∃ caps, fv = .func (.func 65) #[] caps := by
  obtain ⟨b1, b2, b3, b4, mb, D, e, _⟩ := h
  exact ⟨_, e⟩
theorem kx_set {n₀ bb bg B : Nat} {W : World} (h : B = bb ∨ B = bg) (h0 : n₀ ≤ B) (v : Value) : KX n₀ bb bg W (W.setCell ⟨B, 0, none⟩ v) :=
  ⟨(Below.refl _ _).setCell (p := ⟨B, 0, none⟩) h0 _, fun k _ _ h1 h2 _ => Below.heap_setCell _ _ _ _ (fun e => by have e : k = B := e; rcases h with h | h <;> omega)⟩
/-- where pass stands between two vertices -/
def PSt (base sb : Nat) (gv : Value) (E : List Ed) (L : List Int) (la : Option Addr) (lc : Nat) (w : World) (a : Act) (wr : World) : Prop :=
  ∃ (k : Nat) (Ds : List Nat) (u4 u5 u6 u7 u8 u9 u16 u17 u18 u19 u20 u21 u22 u23 u24 u25 u26 u27 u28 u29 u30 u31 u32 u33 u34 u35 u36 u37 u38 u39 : Value), k ≤ L.length ∧ StAt wr base sb gv (pTo E L k).1 E.length L.length (dC E (pTo E L k).1) ∧ Below base w wr ∧ Marks base Ds wr ∧ a = { tmps := #[.pointer (some ⟨sb, 0, none⟩), undef, .bool false, .bool (pTo E L k).2, u4, u5, u6, u7, u8, u9, .pointer (some ⟨sb, 0, none⟩), .pointer (some ⟨sb, 0, none⟩), .pointer (some ⟨sb, 1, none⟩), .slice la L.length lc, .int .i64 (L.length : Nat), .int .i64 (k : Nat), u16, u17, u18, u19, u20, u21, u22, u23, u24, u25, u26, u27, u28, u29, u30, u31, u32, u33, u34, u35, u36, u37, u38, u39, undef], defers := colD Ds }
def Passed (base sb : Nat) (gv : Value) (E : List Ed) (L : List Int) (w : World) (e : Ending) (w' : World) : Prop :=
  e = .returned (.bool (pass E L).2) ∧ StAt w' base sb gv (pass E L).1 E.length L.length (dC E (pass E L).1) ∧ Below base w w'
set_option maxRecDepth 100000 in
set_option maxHeartbeats 4000000 in
theorem pass_any (B base sb : Nat) (g : Option Addr) (n : Nat) (E : List Ed) (L : List Int) (w : World) (hst : StAt w base sb (.pointer g) L E.length L.length (dC E L)) (hg : GV w B (.pointer g) (some (n, E))) (hB : B ≤ base) (hn : L.length = n) (hW : LWf L) :
    Calls Try.prog 40 #[.pointer (some ⟨sb, 0, none⟩)] w (Passed base sb (.pointer g) E L w) := by
  refine (callsIn_wide (n := 12)).1 ?_
  have G : GOk n E := hg.good
  have hml := G.m_le
  have hnl := G.n_le
  have HN := Lib.hid hn
  have HW := Lib.hid hW
  have hLn : L.length ≤ 4096 := by omega
  have HG := Lib.hid hg
  obtain ⟨la, lc, mb0, D0, hR, -⟩ := hst.mem
  have c1 : w.cell? ⟨sb, 1, none⟩ = some (.slice la L.length lc) := hR.cell (i := 1) (by omega)
  have hst0 : StAt w base sb (.pointer g) (pTo E L 0).1 E.length L.length (dC E (pTo E L 0).1) := hst
  clear hR hst hg hn hW
  refine callsIn_of_wp_marks Try.func40 rfl trivial ?_ rfl
  simp only [Try.ntmps40, List.size_toArray, List.length_cons, List.length_nil, Nat.reduceAdd, Nat.reduceSub, Array.replicate_succ, Array.replicate_zero, List.push_toArray, List.append_toArray, List.nil_append, List.cons_append]
  gi_wp2_with fail
  refine wpIn_loop (fun a wr => PSt base sb (.pointer g) E L la lc w a wr) (fun a _ => L.length - (intOf (a.tmps.getD 15 undef)).toNat) ?_ ?_
  · exact ⟨0, [], _, _, _, _, _, _, _, _, _, _, _, _, _, _, _, _, _, _, _, _, _, _, _, _, _, _, _, _, _, _, Nat.zero_le _, hst0, Below.refl _ _, Marks.nil _ _, rfl⟩
  rintro a wr ⟨k, Ds, u4, u5, u6, u7, u8, u9, u16, u17, u18, u19, u20, u21, u22, u23, u24, u25, u26, u27, u28, u29, u30, u31, u32, u33, u34, u35, u36, u37, u38, u39, hk, hst, bel, hM, rfl⟩
  clear hst0 c1
  by_cases hlt : k < L.length
  · have hkn : k < n := by have := HN.out; omega
    have hLk := Lib.hid (pTo_len E L k)
    have HWk := Lib.hid (pTo_wf G HN.out HW.out (k := k) (by have := HN.out; omega))
    have hP1 := Lib.hid (show (pTo E L (k + 1)).1 = step1 E (pTo E L k).1 k from rfl)
    have hP2 := Lib.hid (show (pTo E L (k + 1)).2 = ((pTo E L k).2 || moves E (pTo E L k).1 k) from rfl)
    have hgr := HG.out.below (bel.mono hB)
    have hbr : base ≤ wr.heap.size := Nat.le_of_lt (Nat.lt_of_le_of_lt hst.lo hst.lt)
    have HL := Lib.hid (show (pTo E L k).1.length = n by rw [hLk.out, HN.out])
    have hkl : k < (pTo E L k).1.length := by rw [hLk.out]; exact hlt
    have HS := Lib.hid (show StAt wr base sb (.pointer g) (pTo E L k).1 E.length L.length (dC E (pTo E L k).1) from hst)
    generalize (pTo E L k).1 = M at *
    have HWo := Lib.hid (worth_any base sb g n E M E.length L.length (dC E M) k wr HS.out (hgr.mono (by omega)) HL.out HWk.out hkn)
    clear hst
    gi_wp2_with fail
    refine ⟨trivial, ?_⟩
    refine (callsIn_wide.2 HWo.out).mono ?_
    rintro e w1 ⟨fv, rfl, hc, hb1⟩
    obtain ⟨caps, rfl⟩ := hc.form
    have hs1 := hb1.size
    have bel1 : Below base w w1 := bel.trans (hb1.mono hbr)
    have hM1 := hM.keep (KeepD.of_below hb1)
    have hst1 := Lib.hid (HS.out.below hb1)
    have hg1 := hgr.below (hb1.mono (by omega))
    have hgr0 := Lib.hid hg1
    have hsl1 := hst1.out.lt
    clear hM bel hgr HWo HS
    gi_wp2_with fail
    refine ⟨trivial, ?_⟩
    refine (callsIn_wide.2 (lab_call _ _ sb rfl _)).mono ?_
    rintro e w' ⟨rfl, rfl⟩
    gi_wp2_with fail
    obtain ⟨W0, hW0⟩ : ∃ W0, (((((w1.alloc (.cells #[.func (.func 65) #[] caps] 84)).alloc (.cells #[.int .i64 0] 3)).alloc (.cells #[.int .i64 0] 2)).alloc (.cells #[.pointer (some ⟨sb, 0, none⟩)] 68)).alloc (.cells #[.int .i64 (k : Nat)] 3)) = W0 := ⟨_, rfl⟩
    have hs0 : W0.heap.size = w1.heap.size + 5 := by rw [← hW0]; simp
    have hB0 : Below w1.heap.size w1 W0 := by rw [← hW0]; exact (((((Below.refl _ w1).alloc (Nat.le_refl _) _).alloc (by simp) _).alloc (by simp; omega) _).alloc (by simp; omega) _).alloc (by simp; omega) _
    have q0 : W0.heap[w1.heap.size]? = some (.cells #[.func (.func 65) #[] caps] 84 (0, 0)) := by
      rw [← hW0, Below.heap_alloc _ _ _ (by simp only [World.size_alloc]; omega), Below.heap_alloc _ _ _ (by simp only [World.size_alloc]; omega), Below.heap_alloc _ _ _ (by simp only [World.size_alloc]; omega), Below.heap_alloc _ _ _ (by simp only [World.size_alloc]; omega)]
      exact heap_alloc_new w1 _
    have q1 : Boxed W0 (w1.heap.size + 1) 3 (.int .i64 0) := by
      rw [← hW0]
      have := Boxed.new (w1.alloc (.cells #[.func (.func 65) #[] caps] 84)) 3 (.int .i64 0)
      rw [World.size_alloc] at this
      exact ((this.alloc _).alloc _).alloc _
    have q2 : Boxed W0 (w1.heap.size + 1 + 1) 2 (.int .i64 0) := by
      rw [← hW0]
      have := Boxed.new ((w1.alloc (.cells #[.func (.func 65) #[] caps] 84)).alloc (.cells #[.int .i64 0] 3)) 2 (.int .i64 0)
      rw [World.size_alloc, World.size_alloc] at this
      exact (this.alloc _).alloc _
    have q3 : W0.heap[w1.heap.size + 1 + 1 + 1]? = some (.cells #[.pointer (some ⟨sb, 0, none⟩)] 68 (0, 0)) := by
      rw [← hW0, Below.heap_alloc _ _ _ (by simp only [World.size_alloc]; omega)]
      have := heap_alloc_new (((w1.alloc (.cells #[.func (.func 65) #[] caps] 84)).alloc (.cells #[.int .i64 0] 3)).alloc (.cells #[.int .i64 0] 2)) (.cells #[.pointer (some ⟨sb, 0, none⟩)] 68)
      rwa [World.size_alloc, World.size_alloc, World.size_alloc] at this
    have q4 : W0.heap[w1.heap.size + 1 + 1 + 1 + 1]? = some (.cells #[.int .i64 (k : Nat)] 3 (0, 0)) := by
      rw [← hW0]
      have := heap_alloc_new ((((w1.alloc (.cells #[.func (.func 65) #[] caps] 84)).alloc (.cells #[.int .i64 0] 3)).alloc (.cells #[.int .i64 0] 2)).alloc (.cells #[.pointer (some ⟨sb, 0, none⟩)] 68)) (.cells #[.int .i64 (k : Nat)] 3)
      rwa [World.size_alloc, World.size_alloc, World.size_alloc, World.size_alloc] at this
    have hstW := Lib.hid (hst1.out.below hB0)
    have hgW : GV W0 W0.heap.size (.pointer g) (some (n, E)) := (hg1.below (hB0.mono (by omega))).mono (by omega)
    have hHD : ∀ D, D ∈ Ds → D < w1.heap.size := fun D hD => hM1.lt hD
    have HM1 := Lib.hid hM1
    have HHD := Lib.hid hHD
    have Hc := Lib.hid hc
    clear hM1 hHD hc
    rw [hW0]
    clear hW0
    refine rangeR (F := Fence.wide) rfl (by omega) (gf := 75) (lb := #[.pointer (some ⟨w1.heap.size + 1 + 1 + 1, 0, none⟩), .pointer (some ⟨w1.heap.size + 1 + 1 + 1 + 1, 0, none⟩)]) rfl trivial (enters_of Try.func75 (by kernel_rfl) rfl)
      (lab_stops 11 (by omega) (w1.heap.size + 1 + 1 + 1) (w1.heap.size + 1 + 1 + 1 + 1) (w1.heap.size + 1) (w1.heap.size + 1) (w1.heap.size + 1 + 1) base sb g n E M E.length L.length (dC E M) k W0 hstW.out hgW HL.out HWk.out hkn q3 q4 (by omega) (by omega)) KX.trans (kx_b (by omega)) (Below.refl _ _) (fun _ => rfl)
      (fun pre W => (∃ p : Int × Int, Best (gainZ E M k) pre p ∧ Boxed W (w1.heap.size + 1) 3 (.int .i64 p.1) ∧ Boxed W (w1.heap.size + 1 + 1) 2 (.int .i64 p.2)) ∧ Below (w1.heap.size + 1) W0 W)
      (fun _ _ _ => False)
      (OwnFrom.and (fun s A B row hs hg hr => by
        obtain ⟨p, h1, h2, h3⟩ := hs
        exact ⟨p, h1, boxed_own _ _ (fun _ : Unit => .int .i64 p.1) () A B row h2 hg (fun r e => (hr r e).2), boxed_own _ _ (fun _ : Unit => .int .i64 p.2) () A B row h3 hg (fun r e => (hr r e).2)⟩)
        (fun s A B row hs hg hr => hs.grown hg (Nat.le_trans (show w1.heap.size + 1 ≤ W0.heap.size by omega) hs.size) (fun j e => by have := (hr j e).1; omega)))
      (fun _ _ _ _ _ hs _ _ => hs)
      ⟨⟨(0, 0), Best.start _ _, q1, q2⟩, Below.refl _ _⟩
      (fun _ x a' _ => a' = { tmps := #[.pointer (some ⟨sb, 0, none⟩), undef, .bool false, .bool (pTo E L k).2, .int .i64 (k : Nat), .pointer (some ⟨w1.heap.size, 0, none⟩), .pointer (some ⟨w1.heap.size + 1, 0, none⟩), .pointer (some ⟨w1.heap.size + 1 + 1, 0, none⟩), .int .i64 x, u9, .pointer (some ⟨sb, 0, none⟩), .pointer (some ⟨sb, 0, none⟩), .pointer (some ⟨sb, 1, none⟩), .slice la L.length lc, .int .i64 (L.length : Nat), .int .i64 (k : Nat), .bool true, .int .i64 (k : Nat), .pointer (some ⟨sb, 0, none⟩), .int .i64 (k : Nat), .func (.func 65) #[] caps, .pointer (some ⟨sb, 0, none⟩), .int .i64 (k : Nat), .func (.func 75) #[] #[.pointer (some ⟨w1.heap.size + 1 + 1 + 1, 0, none⟩), .pointer (some ⟨w1.heap.size + 1 + 1 + 1 + 1, 0, none⟩)], .int .i64 x, u25, u26, u27, u28, u29, u30, u31, u32, u33, u34, u35, u36, u37, u38, u39, undef], defers := [] })
      (fun _ _ _ _ _ _ _ hs _ _ => hs) ?assign ?body ?done ?stop
    case assign =>
      intro l pre x W K hI hR hK
      gi_wp2
      exact hK _ _ (KeepsFrom.refl _ _) (KX.refl _ _ _ _) hI rfl
    case body =>
      rintro l pre x a' W hl - ⟨⟨p, hb, h6, h7⟩, hB2⟩ rfl hR
      have belW : Below w1.heap.size w1 W := hB0.trans (hB2.mono (by omega))
      have hcW := Hc.out.below belW
      have hstB := hst1.out.below belW
      have hxw := HWk.out _ (nl_mem G HL.out hR.1)
      obtain ⟨caps', ec, hcl⟩ := worth1_any _ base sb _ n E M L.length k x _ W hstB hcW G HL.out HWk.out hxw hkn
      cases ec
      have hcl := Lib.hid hcl
      have hgn := Lib.hid (worth_gain G x hkl)
      have c5 : W.cell? ⟨w1.heap.size, 0, none⟩ = some (.func (.func 65) #[] caps) := by
        have : W.heap[w1.heap.size]? = _ := (hB2.block _ (by omega)).trans q0
        simp [World.cell?, this]
      have c6 := h6.cell; have c7 := h7.cell
      have z6 := h6.frozen; have z7 := h7.frozen
      have HB := Lib.hid hb
      have H6 := Lib.hid h6
      have H7 := Lib.hid h7
      clear hb h6 h7 hcW hstB
      gi_wp2_with fail
      refine ⟨trivial, ?_⟩
      refine (CallsIn.inRound l (callsIn_wide.2 hcl.out)).mono ?_
      rintro e W3 ⟨rfl, q, rfl⟩
      rw [hgn.out]
      have hgb := gain_bd G HL.out k x
      have hBq : Below (w1.heap.size + 1) W0 (W.drewN q) := below_drewN hB2 q
      have H6q : Boxed (W.drewN q) (w1.heap.size + 1) 3 (.int .i64 p.1) := H6.out
      have H7q : Boxed (W.drewN q) (w1.heap.size + 1 + 1) 2 (.int .i64 p.2) := H7.out
      have HKq : KX (w1.heap.size + 1) (w1.heap.size + 1) (w1.heap.size + 1 + 1) W (W.drewN q) := KX.of_below (below_drewN (Below.refl _ _) q) (by have := hB2.size; omega)
      have HKF : KeepsFrom W0.heap.size W (W.drewN q) := ⟨Nat.le_refl _, fun _ _ _ h _ => h⟩
      have HS := Lib.hid (HB.out.stepS (x := x) hR.2)
      have HKq := Lib.hid HKq
      have HKF := Lib.hid HKF
      have H6q := Lib.hid H6q
      have H7q := Lib.hid H7q
      have hBq := Lib.hid hBq
      clear H6 H7 c5 c6 c7 z6 z7 hB2 hR HB hcl
      generalize W.drewN q = Wq at *
      have c6 := H6q.out.cell; have c7 := H7q.out.cell
      have z6 := H6q.out.frozen; have z7 := H7q.out.frozen
      obtain ⟨p1, p2⟩ := p
      simp only at c6 c7
      by_cases hgt : p2 < gainZ E M k x
      · have HS2 := Lib.hid (show stpS (gainZ E M k) (p1, p2) x = (x, gainZ E M k x) from if_pos hgt)
        generalize hGG : gainZ E M k x = GG at *
        gi_wp2_with fail
        have r6 := (H6q.out.set (.int .i64 x)).other (B' := w1.heap.size + 1 + 1) (by omega) (.int .i64 GG)
        have r7 := (H7q.out.other (B' := w1.heap.size + 1) (by omega) (.int .i64 x)).set (.int .i64 GG)
        refine ⟨?_, ?_, ⟨(x, GG), ?_, r6, r7⟩, ?_⟩
        · exact HKF.out.trans (((KeepsOthers.setCell _ _ _).from _).trans ((KeepsOthers.setCell _ _ _).from _))
        · exact HKq.out.trans ((kx_set (.inl rfl) (Nat.le_refl _) _).trans (kx_set (.inr rfl) (by omega) _))
        · have := HS.out; rw [HS2.out] at this; exact this
        · exact (hBq.out.setCell (p := ⟨w1.heap.size + 1, 0, none⟩) (Nat.le_refl _) _).setCell (p := ⟨w1.heap.size + 1 + 1, 0, none⟩) (Nat.le_succ _) _
      · have HS2 := Lib.hid (show stpS (gainZ E M k) (p1, p2) x = (p1, p2) from if_neg hgt)
        have hgt' : gainZ E M k x ≤ p2 := by omega
        generalize hGG : gainZ E M k x = GG at *
        gi_wp2_with fail
        exact ⟨HKF.out, HKq.out, ⟨(p1, p2), by have := HS.out; rw [HS2.out] at this; exact this, H6q.out, H7q.out⟩, hBq.out⟩
    case done =>
      rintro D xs W hD hS ⟨⟨p, hb, h6, h7⟩, hB2⟩ hK
      obtain ⟨e1, e2⟩ := hb.same (bv_best E M k) hS
      obtain ⟨p1, p2⟩ := p
      simp only at e1 e2
      have c6 : W.cell? ⟨w1.heap.size + 1, 0, none⟩ = some (.int .i64 p1) := h6.cell
      have c7 : W.cell? ⟨w1.heap.size + 1 + 1, 0, none⟩ = some (.int .i64 p2) := h7.cell
      have belW : Below w1.heap.size w1 W := hB0.trans (hB2.mono (by omega))
      have hstB := Lib.hid (hst1.out.below belW)
      have hMW : Marks base (D :: Ds) W := (HM1.out.keep (KeepD.of_below belW)).cons hK (by omega) (fun h => by have := HHD.out D h; omega)
      have HMW := Lib.hid hMW
      have bel2 : Below base w W := bel1.trans (belW.mono (by omega))
      clear hb h6 h7 hK hS hMW
      by_cases hp : 0 < p2
      · have hbv : 0 < (bv E M k).2 := by omega
        obtain ⟨m1, m2, m3, m4⟩ := bv_mem G HL.out hkn hbv
        have e3 := e2 hp
        have hmv := Lib.hid (show moves E M k = true from decide_eq_true hbv)
        have hse := Lib.hid (show step1 E M k = M.set k p1 by rw [e3]; exact if_pos hbv)
        rw [← e3] at m2 m4
        have hpw := HWk.out _ m4
        have hgW2 : GV W W.heap.size (.pointer g) (some (n, E)) := (hgr0.out.below (belW.mono (by omega))).mono (by have := belW.size; omega)
        have hsM : StAt W base sb (.pointer g) M E.length M.length (dC E M) := by rw [hLk.out]; exact hstB.out
        have HV := Lib.hid (move_any base sb g n E M k p1 W hsM hgW2 HL.out HWk.out hpw hkn m2 m3)
        clear e1 e2 e3 m1 m2 m4 hgW2 hsM hbv belW
        gi_wp2_with fail
        refine ⟨trivial, ?_⟩
        refine (callsIn_wide.2 HV.out).mono ?_
        rintro e W3 ⟨⟨xv, rfl⟩, hst3, bel3, kd3⟩
        have hst4 : StAt W3 base sb (.pointer g) (pTo E L (k + 1)).1 E.length L.length (dC E (pTo E L (k + 1)).1) := by
          rw [hP1.out, hse.out, ← hLk.out]; exact hst3
        have hbt : (pTo E L (k + 1)).2 = true := by rw [hP2.out, hmv.out]; simp
        have HS4 := Lib.hid hst4
        have HBT := Lib.hid hbt
        have hM4 := Lib.hid (HMW.out.keep kd3)
        have bel4 := bel2.trans bel3
        clear hst3 hst4 hbt kd3 bel3 HV
        gi_wp2_with fail
        refine ⟨⟨k + 1, D :: Ds, _, _, _, _, _, _, _, _, _, _, _, _, _, _, _, _, _, _, _, _, _, _, _, _, _, _, _, _, _, _, by omega, HS4.out, bel4, hM4.out, by rw [HBT.out]; rfl⟩, ?_⟩
        simp [intOf]; omega
      · have hbv : ¬ 0 < (bv E M k).2 := by omega
        have hmv := Lib.hid (show moves E M k = false from decide_eq_false hbv)
        have hse := Lib.hid (show step1 E M k = M from if_neg hbv)
        have hst4 : StAt W base sb (.pointer g) (pTo E L (k + 1)).1 E.length L.length (dC E (pTo E L (k + 1)).1) := by
          rw [hP1.out, hse.out]; exact hstB.out
        have hbt : (pTo E L (k + 1)).2 = (pTo E L k).2 := by rw [hP2.out, hmv.out]; simp
        have HS4 := Lib.hid hst4
        have HBT := Lib.hid hbt
        have hp' : p2 ≤ 0 := by omega
        clear hst4 hbt hbv e1 e2 belW hp
        gi_wp2_with fail
        refine ⟨⟨k + 1, D :: Ds, _, _, _, _, _, _, _, _, _, _, _, _, _, _, _, _, _, _, _, _, _, _, _, _, _, _, _, _, _, _, by omega, HS4.out, bel2, HMW.out, by rw [HBT.out]; rfl⟩, ?_⟩
        simp [intOf]; omega
    case stop =>
      rintro D c pre W _ h _
      exact h.elim
  · obtain rfl : k = L.length := by omega
    gi_wp2_with fail
    refine leaves_col base (fun w => results_tmp rfl _ _ _) Ds wr hM fun w' hw' => ?_
    exact ⟨rfl, hst.took hw', bel.trans hw'.below⟩
end Go.Proofs.Ytemcilmefknbbaa
