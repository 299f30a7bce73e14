/- The walks of Components and Row of package graph. Conditions: the graph was made by New. -/
import Derived.Test.YtpbgophogneecaaGreatDsuG
import Derived.Test.YtpbgophogneecaaGreatGrL
import Derived.Test.YtpbgophogneecaaGreatDsa
namespace Go.Proofs.YtpbgophogneecaaGreat
open Go.RowKit

/-- what Components answers -/
def CompRes (n : Nat) (E : List Ed) (w : World) (e : Ending) (w' : World) : Prop :=
  ∃ v base g, e = .returned v ∧ w'.ownsRow base 46 1 v (lbL (labO E (List.range E.length)) n).length ((lbL (labO E (List.range E.length)) n).map (gvl g n (labO E (List.range E.length)))) ∧ w.heap.size ≤ base ∧ Below w.heap.size w w'
set_option maxRecDepth 100000 in
theorem gcomps_any (B b n : Nat) (E : List Ed) (w : World) (h : GraphAt w B b n E) (hB : B ≤ w.heap.size) :
    Calls Tryz.prog 20 #[.pointer (some ⟨b, 0, none⟩)] w (CompRes n E w) := by
  have HP := Lib.hid (gparts_any B b n E w h hB)
  have hn := h.ok.n_le
  clear h
  go_enter Tryz.func20, Tryz.ntmps20
  go_wp2_with fail
  refine HP.out.mono ?_
  clear HP
  rintro e w1 ⟨db, z, rfl, hD, hzh, hzl, hb1⟩
  have HL := Lib.hid (dgroups_any z db n _ w1 hD hzh (by omega))
  have hs1 := hb1.size
  clear hD
  go_wp2_with fail
  refine HL.out.mono ?_
  clear HL
  rintro e w2 ⟨v, rfl, hR, hb2⟩
  go_wp2_with fail
  go_ret
  exact ⟨v, _, _, rfl, hR, by omega, hb1.trans (hb2.mono hzl)⟩
set_option maxRecDepth 100000 in
set_option maxHeartbeats 4000000 in
theorem grow_any (B b n : Nat) (E : List Ed) (w : World) (h : GraphAt w B b n E) (hB : B ≤ w.heap.size) :
    Calls Tryz.prog 8 #[.pointer (some ⟨b, 0, none⟩)] w (RowRes n (labO E (List.range E.length)) w) := by
  have hn := h.ok.n_le
  have hwA : Below w.heap.size w ((w.alloc (.cells #[.int .i64 0, .int .i64 0, .int .i64 0] 35)).alloc (.cells #[.int .i64 0, .int .i64 0, .int .i64 0] 35)) := ((Below.refl _ w).alloc (Nat.le_refl _) _).alloc (by simp) _
  have HC := Lib.hid (gcomps_any w.heap.size b n E _ ((h.mono hB).below hwA) hwA.size)
  have z1 := row3 w (.int .i64 0) (.int .i64 0) (.int .i64 0) 35
  have z2 := row3 (w.alloc (.cells #[.int .i64 0, .int .i64 0, .int .i64 0] 35)) (.int .i64 0) (.int .i64 0) (.int .i64 0) 35
  simp only [World.size_alloc] at z2
  have HZ := Lib.hid (z1.alloc (.cells #[.int .i64 0, .int .i64 0, .int .i64 0] 35))
  have HD := Lib.hid z2
  have HA := Lib.hid hwA
  have HSz := Lib.hid (show w.heap.size + 1 < ((w.alloc (.cells #[.int .i64 0, .int .i64 0, .int .i64 0] 35)).alloc (.cells #[.int .i64 0, .int .i64 0, .int .i64 0] 35)).heap.size by simp)
  obtain ⟨lab, hlab⟩ : ∃ l, labO E (List.range E.length) = l := ⟨_, rfl⟩
  unfold CompRes at HC
  rw [hlab] at HC ⊢
  clear h hwA z1 z2 hlab
  go_enter Tryz.func8, Tryz.ntmps8
  go_upto_region 2 with (fail)
  generalize (w.alloc (.cells #[.int .i64 0, .int .i64 0, .int .i64 0] 35)).alloc (.cells #[.int .i64 0, .int .i64 0, .int .i64 0] 35) = wa at *
  go_wp2_with fail
  refine HC.out.mono ?_
  clear HC
  rintro e w1 ⟨v, base, g, rfl, hv, hbase, hb1⟩
  have hsa := HSz.out
  have HZ1 := Lib.hid (HZ.out.below hb1 (by omega)); have HD1 := Lib.hid (HD.out.below hb1 (by omega))
  have HA1 := Lib.hid (HA.out.trans (hb1.mono HA.out.size))
  have hs1 := hb1.size
  obtain ⟨l, hl⟩ : ∃ l, lbL lab n = l := ⟨_, rfl⟩
  have hcnt := lbL_len lab n
  have hcl := cntN_le n lab
  rw [hl] at hv hcnt
  have hln : l.length ≤ n := by omega
  have HV := Lib.hid (show w1.ownsRow base 46 1 v l.length (flat (fun i _ => gvl g n lab (l.getD i 0)) l.length 1) by
    have : flat (fun i _ => gvl g n lab (l.getD i 0)) l.length 1 = l.map (gvl g n lab) := by
      rw [flat_one]
      apply List.ext_getElem
      · simp
      · intro i h1 h2
        simp at h1
        simp [List.getD, h1]
    rw [this]; exact hv)
  obtain ⟨va, vc, VA, rfl, _⟩ := Rd.own etII HV.out
  have HCnt := Lib.hid hcnt; have HLl := Lib.hid hl
  have hbs : w.heap.size + 1 < base := by omega
  have HD0 := Lib.hid (HD1.out.congr (f' := fun i => (#[Value.int .i64 (lgN n lab (l.take 0) : Nat), .int .i64 (0 : Nat), .int .i64 (sqN n lab (l.take 0) : Nat)] : Array Value).getD i undef) fun i hi => by
    match i, hi with
    | 0, _ => rfl
    | 1, _ => rfl
    | 2, _ => rfl
    | k + 3, h => omega)
  clear hv hb1 hl hcnt HZ HD HA HSz hsa HD1 hbase hs1
  go_wp2_with fail
  go_loopw [9] (fun iv wr => ∃ q : Nat, q ≤ l.length ∧ iv = .int .i64 (q : Nat) ∧ Hid (Row wr (w.heap.size + 1) 3 (fun i => (#[Value.int .i64 (lgN n lab (l.take q) : Nat), .int .i64 (q : Nat), .int .i64 (sqN n lab (l.take q) : Nat)] : Array Value).getD i undef)) ∧ Hid (Row wr w.heap.size 3 (fun i => (#[Value.int .i64 0, .int .i64 0, .int .i64 0] : Array Value).getD i undef)) ∧ Hid (wr.ownsRow base 46 1 (.slice va l.length vc) l.length (flat (fun i _ => gvl g n lab (l.getD i 0)) l.length 1)) ∧ Hid (Below w.heap.size w wr)) (fun iv _ => l.length - (intOf iv).toNat)
  case atStart => exact ⟨0, Nat.zero_le _, rfl, HD0, HZ1, HV, HA1⟩
  case round =>
    clear HD0 HZ1 HV HA1
    obtain ⟨q, hq, rfl, HD, HZ, HV, HB⟩ := hrel
    by_cases hlt : q < l.length
    · obtain ⟨va', vc', VA', e', hVr⟩ := Rd.own etII HV.out
      cases e'
      have ix := hVr.ix q hlt
      have cv := hVr.cell q hlt 0 (by omega)
      rw [add_zero] at cv
      unfold gvl at cv
      obtain ⟨j, hj⟩ : ∃ j, l.getD q 0 = j := ⟨_, rfl⟩
      have HT1 := Lib.hid (show lgN n lab (l.take (q + 1)) = max (lgN n lab (l.take q)) (clsN n lab j) by rw [take_snocN hlt, hj, lgN_snoc])
      have HT2 := Lib.hid (show sqN n lab (l.take (q + 1)) = sqN n lab (l.take q) + clsN n lab j * clsN n lab j by rw [take_snocN hlt, hj, sqN_snoc])
      have hc1 := clsN_le n lab j
      have hl1 := lgN_le n lab (l.take q)
      have hq1 : sqN n lab (l.take q) ≤ 4096 * (4096 * 4096) := by
        have h1 := sqN_le n lab (l.take q)
        have h2 : (l.take q).length ≤ 4096 := by rw [List.length_take]; omega
        exact Nat.le_trans h1 (Nat.mul_le_mul h2 (Nat.mul_le_mul hn hn))
      rw [hj] at cv
      obtain ⟨s0, hs0⟩ : ∃ s, stG n lab j = s := ⟨_, rfl⟩
      obtain ⟨cl, hcl2⟩ : ∃ s, clsN n lab j = s := ⟨_, rfl⟩
      obtain ⟨lg, hlg⟩ : ∃ s, lgN n lab (l.take q) = s := ⟨_, rfl⟩
      obtain ⟨sq, hsq⟩ : ∃ s, sqN n lab (l.take q) = s := ⟨_, rfl⟩
      rw [hs0, hcl2] at cv
      rw [hcl2] at hc1 HT1 HT2
      rw [hlg] at HD HT1 hl1
      rw [hsq] at HD HT2 hq1
      have c0 : wr.cell? ⟨w.heap.size + 1, 0, none⟩ = some (.int .i64 (lg : Nat)) := HD.out.cell (i := 0) (by omega)
      have fz := fun i => HD.out.frozen i
      have hcc : cl * cl ≤ 4096 * 4096 := Nat.mul_le_mul (Nat.le_trans hc1 hn) (Nat.le_trans hc1 hn)
      obtain ⟨m, hmm⟩ : ∃ m, cl * cl = m := ⟨_, rfl⟩
      have hmm2 : (cl : Int) * (cl : Int) = (m : Int) := by rw [← hmm, Int.natCast_mul]
      rw [hmm] at hcc HT2
      have hmul : IntKind.i64.wrap ((cl : Int) * (cl : Int)) = (m : Int) := by
        rw [hmm2, IntWalk.i64_in _ (by omega)]
      have hsum : IntKind.i64.wrap ((sq : Int) + (m : Int)) = (sq : Int) + (m : Int) := IntWalk.i64_in _ (by omega)
      have hqv : (0 : Int) ≤ q ∧ (q : Int) < l.length := by omega
      clear hVr hj hs0 hcl2 hlg hsq hmm
      rcases Nat.lt_trichotomy lg cl with hm | hm | hm
      · have m1 : (lg : Int) < (cl : Int) := by omega
        have D1 := HD.out.set 0 (.int .i64 (cl : Nat))
        have D2 := D1.set 1 (.int .i64 ((q : Int) + 1))
        have D3 := D2.set 2 (.int .i64 ((sq : Int) + (m : Int)))
        have c1 : (wr.setCell ⟨w.heap.size + 1, 0, none⟩ (.int .i64 (cl : Nat))).cell? ⟨w.heap.size + 1, 1, none⟩ = some (.int .i64 (q : Nat)) := D1.cell (i := 1) (by omega)
        have c2 : ((wr.setCell ⟨w.heap.size + 1, 0, none⟩ (.int .i64 (cl : Nat))).setCell ⟨w.heap.size + 1, 1, none⟩ (.int .i64 ((q : Int) + 1))).cell? ⟨w.heap.size + 1, 2, none⟩ = some (.int .i64 (sq : Nat)) := D2.cell (i := 2) (by omega)
        have HD3 := Lib.hid (Row.congr (f' := fun i => (#[Value.int .i64 (lgN n lab (l.take (q + 1)) : Nat), .int .i64 (q + 1 : Nat), .int .i64 (sqN n lab (l.take (q + 1)) : Nat)] : Array Value).getD i undef) D3 (fun i hi => by
          rw [HT1.out, HT2.out]
          have hmx : max lg cl = cl := by omega
          rw [hmx]
          match i, hi with
          | 0, _ => rfl
          | 1, _ => rfl
          | 2, _ => rfl
          | k + 3, h => omega))
        have HZ3 := Lib.hid (((HZ.out.setOther (a := ⟨w.heap.size + 1, 0, none⟩) (by show w.heap.size ≠ w.heap.size + 1; omega) (.int .i64 (cl : Nat))).setOther (a := ⟨w.heap.size + 1, 1, none⟩) (by show w.heap.size ≠ w.heap.size + 1; omega) (.int .i64 ((q : Int) + 1))).setOther (a := ⟨w.heap.size + 1, 2, none⟩) (by show w.heap.size ≠ w.heap.size + 1; omega) (.int .i64 ((sq : Int) + (m : Int))))
        have HV3 := Lib.hid (ownsRow_setCell_below (ownsRow_setCell_below (ownsRow_setCell_below HV.out (a := ⟨w.heap.size + 1, 0, none⟩) (by show w.heap.size + 1 < base; omega) (.int .i64 (cl : Nat))) (a := ⟨w.heap.size + 1, 1, none⟩) (by show w.heap.size + 1 < base; omega) (.int .i64 ((q : Int) + 1))) (a := ⟨w.heap.size + 1, 2, none⟩) (by show w.heap.size + 1 < base; omega) (.int .i64 ((sq : Int) + (m : Int))))
        have HB3 := Lib.hid (((HB.out.setCell (p := ⟨w.heap.size + 1, 0, none⟩) (by show w.heap.size ≤ w.heap.size + 1; omega) (.int .i64 (cl : Nat))).setCell (p := ⟨w.heap.size + 1, 1, none⟩) (by show w.heap.size ≤ w.heap.size + 1; omega) (.int .i64 ((q : Int) + 1))).setCell (p := ⟨w.heap.size + 1, 2, none⟩) (by show w.heap.size ≤ w.heap.size + 1; omega) (.int .i64 ((sq : Int) + (m : Int))))
        clear D1 D2 D3
        go_wp2_with fail
        go_roundw
        case rel => exact ⟨q + 1, by omega, by go_num, HD3, HZ3, HV3, HB3⟩
        case measure => simp only [intOf]; omega
      · obtain rfl : lg = cl := hm
        have D1 := HD.out.set 0 (.int .i64 (lg : Nat))
        have D2 := D1.set 1 (.int .i64 ((q : Int) + 1))
        have D3 := D2.set 2 (.int .i64 ((sq : Int) + (m : Int)))
        have c1 : (wr.setCell ⟨w.heap.size + 1, 0, none⟩ (.int .i64 (lg : Nat))).cell? ⟨w.heap.size + 1, 1, none⟩ = some (.int .i64 (q : Nat)) := D1.cell (i := 1) (by omega)
        have c2 : ((wr.setCell ⟨w.heap.size + 1, 0, none⟩ (.int .i64 (lg : Nat))).setCell ⟨w.heap.size + 1, 1, none⟩ (.int .i64 ((q : Int) + 1))).cell? ⟨w.heap.size + 1, 2, none⟩ = some (.int .i64 (sq : Nat)) := D2.cell (i := 2) (by omega)
        have HD3 := Lib.hid (Row.congr (f' := fun i => (#[Value.int .i64 (lgN n lab (l.take (q + 1)) : Nat), .int .i64 (q + 1 : Nat), .int .i64 (sqN n lab (l.take (q + 1)) : Nat)] : Array Value).getD i undef) D3 (fun i hi => by
          rw [HT1.out, HT2.out]
          rw [Nat.max_self]
          match i, hi with
          | 0, _ => rfl
          | 1, _ => rfl
          | 2, _ => rfl
          | k + 3, h => omega))
        have HZ3 := Lib.hid (((HZ.out.setOther (a := ⟨w.heap.size + 1, 0, none⟩) (by show w.heap.size ≠ w.heap.size + 1; omega) (.int .i64 (lg : Nat))).setOther (a := ⟨w.heap.size + 1, 1, none⟩) (by show w.heap.size ≠ w.heap.size + 1; omega) (.int .i64 ((q : Int) + 1))).setOther (a := ⟨w.heap.size + 1, 2, none⟩) (by show w.heap.size ≠ w.heap.size + 1; omega) (.int .i64 ((sq : Int) + (m : Int))))
        have HV3 := Lib.hid (ownsRow_setCell_below (ownsRow_setCell_below (ownsRow_setCell_below HV.out (a := ⟨w.heap.size + 1, 0, none⟩) (by show w.heap.size + 1 < base; omega) (.int .i64 (lg : Nat))) (a := ⟨w.heap.size + 1, 1, none⟩) (by show w.heap.size + 1 < base; omega) (.int .i64 ((q : Int) + 1))) (a := ⟨w.heap.size + 1, 2, none⟩) (by show w.heap.size + 1 < base; omega) (.int .i64 ((sq : Int) + (m : Int))))
        have HB3 := Lib.hid (((HB.out.setCell (p := ⟨w.heap.size + 1, 0, none⟩) (by show w.heap.size ≤ w.heap.size + 1; omega) (.int .i64 (lg : Nat))).setCell (p := ⟨w.heap.size + 1, 1, none⟩) (by show w.heap.size ≤ w.heap.size + 1; omega) (.int .i64 ((q : Int) + 1))).setCell (p := ⟨w.heap.size + 1, 2, none⟩) (by show w.heap.size ≤ w.heap.size + 1; omega) (.int .i64 ((sq : Int) + (m : Int))))
        clear D1 D2 D3
        go_wp2_with fail
        go_roundw
        case rel => exact ⟨q + 1, by omega, by go_num, HD3, HZ3, HV3, HB3⟩
        case measure => simp only [intOf]; omega
      · have m1 : (cl : Int) < (lg : Int) := by omega
        have D1 := HD.out.set 0 (.int .i64 (lg : Nat))
        have D2 := D1.set 1 (.int .i64 ((q : Int) + 1))
        have D3 := D2.set 2 (.int .i64 ((sq : Int) + (m : Int)))
        have c1 : (wr.setCell ⟨w.heap.size + 1, 0, none⟩ (.int .i64 (lg : Nat))).cell? ⟨w.heap.size + 1, 1, none⟩ = some (.int .i64 (q : Nat)) := D1.cell (i := 1) (by omega)
        have c2 : ((wr.setCell ⟨w.heap.size + 1, 0, none⟩ (.int .i64 (lg : Nat))).setCell ⟨w.heap.size + 1, 1, none⟩ (.int .i64 ((q : Int) + 1))).cell? ⟨w.heap.size + 1, 2, none⟩ = some (.int .i64 (sq : Nat)) := D2.cell (i := 2) (by omega)
        have HD3 := Lib.hid (Row.congr (f' := fun i => (#[Value.int .i64 (lgN n lab (l.take (q + 1)) : Nat), .int .i64 (q + 1 : Nat), .int .i64 (sqN n lab (l.take (q + 1)) : Nat)] : Array Value).getD i undef) D3 (fun i hi => by
          rw [HT1.out, HT2.out]
          have hmx : max lg cl = lg := by omega
          rw [hmx]
          match i, hi with
          | 0, _ => rfl
          | 1, _ => rfl
          | 2, _ => rfl
          | k + 3, h => omega))
        have HZ3 := Lib.hid (((HZ.out.setOther (a := ⟨w.heap.size + 1, 0, none⟩) (by show w.heap.size ≠ w.heap.size + 1; omega) (.int .i64 (lg : Nat))).setOther (a := ⟨w.heap.size + 1, 1, none⟩) (by show w.heap.size ≠ w.heap.size + 1; omega) (.int .i64 ((q : Int) + 1))).setOther (a := ⟨w.heap.size + 1, 2, none⟩) (by show w.heap.size ≠ w.heap.size + 1; omega) (.int .i64 ((sq : Int) + (m : Int))))
        have HV3 := Lib.hid (ownsRow_setCell_below (ownsRow_setCell_below (ownsRow_setCell_below HV.out (a := ⟨w.heap.size + 1, 0, none⟩) (by show w.heap.size + 1 < base; omega) (.int .i64 (lg : Nat))) (a := ⟨w.heap.size + 1, 1, none⟩) (by show w.heap.size + 1 < base; omega) (.int .i64 ((q : Int) + 1))) (a := ⟨w.heap.size + 1, 2, none⟩) (by show w.heap.size + 1 < base; omega) (.int .i64 ((sq : Int) + (m : Int))))
        have HB3 := Lib.hid (((HB.out.setCell (p := ⟨w.heap.size + 1, 0, none⟩) (by show w.heap.size ≤ w.heap.size + 1; omega) (.int .i64 (lg : Nat))).setCell (p := ⟨w.heap.size + 1, 1, none⟩) (by show w.heap.size ≤ w.heap.size + 1; omega) (.int .i64 ((q : Int) + 1))).setCell (p := ⟨w.heap.size + 1, 2, none⟩) (by show w.heap.size ≤ w.heap.size + 1; omega) (.int .i64 ((sq : Int) + (m : Int))))
        clear D1 D2 D3
        go_wp2_with fail
        go_roundw
        case rel => exact ⟨q + 1, by omega, by go_num, HD3, HZ3, HV3, HB3⟩
        case measure => simp only [intOf]; omega
    · obtain rfl : q = l.length := by omega
      have hD := HD.out
      rw [List.take_length] at hD
      have r0 : wr.cell? ⟨w.heap.size + 1, 0, none⟩ = some (.int .i64 (lgN n lab l : Nat)) := hD.cell (i := 0) (by omega)
      have r1 : wr.cell? ⟨w.heap.size + 1, 1, none⟩ = some (.int .i64 (l.length : Nat)) := hD.cell (i := 1) (by omega)
      have r2 : wr.cell? ⟨w.heap.size + 1, 2, none⟩ = some (.int .i64 (sqN n lab l : Nat)) := hD.cell (i := 2) (by omega)
      have z0 : wr.cell? ⟨w.heap.size, 0, none⟩ = some (.int .i64 0) := HZ.out.cell (i := 0) (by omega)
      have z1 : wr.cell? ⟨w.heap.size, 1, none⟩ = some (.int .i64 0) := HZ.out.cell (i := 1) (by omega)
      have z2 : wr.cell? ⟨w.heap.size, 2, none⟩ = some (.int .i64 0) := HZ.out.cell (i := 2) (by omega)
      have fz := fun i => HZ.out.frozen i
      have H3 := Lib.hid (((HZ.out.set 0 (.int .i64 (lgN n lab l : Nat))).set 1 (.int .i64 (l.length : Nat))).set 2 (.int .i64 (sqN n lab l : Nat)))
      have HB3 := Lib.hid (((HB.out.setCell (p := ⟨w.heap.size, 0, none⟩) (Nat.le_refl _) (.int .i64 (lgN n lab l : Nat))).setCell (p := ⟨w.heap.size, 1, none⟩) (Nat.le_refl _) (.int .i64 (l.length : Nat))).setCell (p := ⟨w.heap.size, 2, none⟩) (Nat.le_refl _) (.int .i64 (sqN n lab l : Nat)))
      clear hD
      go_wp2_with fail
      generalize ((wr.setCell ⟨w.heap.size, 0, none⟩ (.int .i64 (lgN n lab l : Nat))).setCell ⟨w.heap.size, 1, none⟩ (.int .i64 (l.length : Nat))).setCell ⟨w.heap.size, 2, none⟩ (.int .i64 (sqN n lab l : Nat)) = wz at *
      have s0 : wz.cell? ⟨w.heap.size, 0, none⟩ = some (.int .i64 (lgN n lab l : Nat)) := H3.out.cell (i := 0) (by omega)
      have s1 : wz.cell? ⟨w.heap.size, 1, none⟩ = some (.int .i64 (l.length : Nat)) := H3.out.cell (i := 1) (by omega)
      have s2 : wz.cell? ⟨w.heap.size, 2, none⟩ = some (.int .i64 (sqN n lab l : Nat)) := H3.out.cell (i := 2) (by omega)
      exact bodyPost_ret (v := .agg #[.int .i64 (lgN n lab l : Nat), .int .i64 (l.length : Nat), .int .i64 (sqN n lab l : Nat)]) (by simp [results, Tryz.results8, go_sem, s0, s1, s2]) rfl ⟨by rw [HLl.out, ← HCnt.out], HB3.out⟩
end Go.Proofs.YtpbgophogneecaaGreat
