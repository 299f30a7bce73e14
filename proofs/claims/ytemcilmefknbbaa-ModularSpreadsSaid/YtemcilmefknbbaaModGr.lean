/- The walk of Greedy of package modular. Conditions: the graph was made by New, or it is nil or zero; labels are given as cells, and are numbers of Go's int. -/
import Derived.Test.YtemcilmefknbbaaModP
import Derived.Deep.LoopGhost
namespace Go.Proofs.Ytemcilmefknbbaa
open Go.RowKit Go.Shelf Go.Maps Go.Sort

theorem iter_wf {n : Nat} {E : List Ed} (G : GOk n E) {L : List Int} (hL : L.length = n) (hW : LWf L) (k : Nat) : LWf (iter E L k) := by
  induction k with
  | zero => exact hW
  | succ k ih =>
    have hl := iter_len E L k
    exact pTo_wf G (by rw [hl, hL]) ih (by rw [hl, hL]; exact Nat.le_refl _)
/-- how much the numerator can still rise -/
def still (E : List Ed) (L : List Int) : Nat := (4 * (E.length : Int) * (E.length : Int) - num E L).toNat
theorem still_lt {E : List Ed} {L : List Int} (h : (pass E L).2 = true) : still E (pass E L).1 < still E L := by
  have h1 := pass_num h
  have h2 := num_hi E (pass E L).1
  unfold still; omega
theorem pass_same {E : List Ed} {L : List Int} (h : (pass E L).2 = false) : (pass E L).1 = L := (pTo_num E L _).2.2 h
/-- what Greedy answers -/
def GRes (o : Option (Nat × List Ed)) (L : List Int) (w : World) (e : Ending) (w' : World) : Prop :=
  Below w.heap.size w w' ∧ ((mErr o L.length ≠ 0 ∧ e = .returned (.tuple #[.slice none 0 0, .int .i64 (mErr o L.length)])) ∨
    (mErr o L.length = 0 ∧ ∃ R a cap A, Greed (gE o) L R ∧ e = .returned (.tuple #[.slice a R.length cap, .int .i64 0]) ∧ Sl 23 .i64 w' w'.heap.size (.slice a R.length cap) R A ∧ LWf R))

set_option maxRecDepth 100000 in
set_option maxHeartbeats 2000000 in
theorem greedy_any (B : Nat) (gv : Value) (o : Option (Nat × List Ed)) (la : Option Addr) (lc : Nat) (LA : Nat → Addr) (L : List Int) (w : World) (h : GV w B gv o) (hL : Sl 23 .i64 w B (.slice la L.length lc) L LA) (hB : B ≤ w.heap.size) (hW : LWf L) :
    Calls Try.prog 20 #[gv, .slice la L.length lc] w (GRes o L w) := by
  rcases mErr_cases o L.length with hz | hz
  · have HV := Lib.hid (mvalid_is (a := la) (cap := lc) hz h)
    have hg := h.good
    obtain ⟨⟨n, E⟩, rfl, hn⟩ := mErr_zero hz
    have G : GOk n E := hg
    have hn' : L.length = n := hn
    have HB := Lib.hid (begin_any B gv n E la lc LA L w h hL hB hn' hW)
    have HG := Lib.hid h
    obtain ⟨p, rfl⟩ := h.ptr
    have HN := Lib.hid hn'
    have HW := Lib.hid hW
    have HZ := Lib.hid hz
    clear h hL hz hg hn hn' hW
    go_enter Try.func20, Try.ntmps20
    go_wp2_with fail
    refine HV.out.mono ?_
    rintro e w' ⟨rfl, rfl⟩
    go_wp2_with fail
    refine HB.out.mono ?_
    rintro e w2 ⟨sb, rfl, hst, hb2⟩
    have hst0 : StAt w2 w.heap.size sb (.pointer p) (iter E L 0) E.length n (dC E (iter E L 0)) := hst
    have hs2 := hb2.size
    clear hst HB HV
    go_wp2_with fail
    go_loopg [17] (still E (iter E L 0)) (fun N _ wr => ∃ j : Nat, N = still E (iter E L j) ∧ (∀ i, i < j → (pass E (iter E L i)).2 = true) ∧ StAt wr w.heap.size sb (.pointer p) (iter E L j) E.length n (dC E (iter E L j)) ∧ Below w.heap.size w wr)
    case atStart => exact ⟨0, rfl, fun i hi => absurd hi (by omega), hst0, hb2⟩
    case round =>
      obtain ⟨j, hN, hmv, hst, bel⟩ := hrel
      have hjl : (iter E L j).length = n := by rw [iter_len]; exact HN.out
      have HJ := Lib.hid hjl
      have HMV := Lib.hid hmv
      have HIW := Lib.hid (iter_wf G HN.out HW.out j)
      have HI := Lib.hid (show iter E L (j + 1) = (pass E (iter E L j)).1 from rfl)
      have hst' : StAt wr w.heap.size sb (.pointer p) (iter E L j) E.length (iter E L j).length (dC E (iter E L j)) := by rw [hjl]; exact hst
      have HP := Lib.hid (pass_any B w.heap.size sb p n E (iter E L j) wr hst' (HG.out.below (bel.mono hB)) hB hjl (iter_wf G HN.out HW.out j))
      clear hst hst' hjl hmv
      subst hN
      go_wp2_with fail
      refine HP.out.mono ?_
      rintro e w3 ⟨rfl, hst3, hb3⟩
      have bel3 := bel.trans hb3
      cases hq : (pass E (iter E L j)).2 with
      | true =>
        have hlt := still_lt hq
        have HA := Lib.hid (show ∀ i, i < j + 1 → (pass E (iter E L i)).2 = true from fun i hi => by
          by_cases e : i = j
          · rw [e]; exact hq
          · exact HMV.out i (by omega))
        have hst4 : StAt w3 w.heap.size sb (.pointer p) (iter E L (j + 1)) E.length n (dC E (iter E L (j + 1))) := by
          rw [HI.out, ← HJ.out]; exact hst3
        have HS4 := Lib.hid hst4
        have HLt := Lib.hid (show still E (iter E L (j + 1)) < still E (iter E L j) by rw [HI.out]; exact hlt)
        clear hst3 hst4 hq hlt HP
        go_wp2_with fail
        go_roundg (still E (iter E L (j + 1)))
        case measure => exact HLt.out
        case rel => exact ⟨j + 1, rfl, HA.out, HS4.out, bel3⟩
      | false =>
        have hsame := pass_same hq
        rw [hsame] at hst3
        obtain ⟨la3, lc3, mb3, D3, hR, hLR, -⟩ := hst3.mem
        obtain ⟨A3, hA3⟩ := hLR.rd lc3
        have c1 : w3.cell? ⟨sb, 1, none⟩ = some (.slice la3 (iter E L j).length lc3) := hR.cell (i := 1) (by omega)
        have HGr := Lib.hid (show Greed E L (iter E L j) from ⟨j, HMV.out, hq, rfl⟩)
        have HA3 := Lib.hid hA3
        clear hst3 hR hLR hA3 hsame hq HP
        go_wp2_with fail
        go_ret2
        exact ⟨bel3, .inr ⟨HZ.out, iter E L j, la3, lc3, A3, HGr.out, rfl, HA3.out, HIW.out⟩⟩
  · have hzz : mErr o L.length ≠ 0 := by omega
    have HV := Lib.hid (mvalid_any B gv o la L.length lc _ h)
    have hb : (mErr o L.length != 0) = true := by simpa using hzz
    have HZ := Lib.hid hzz
    obtain ⟨ee, hee⟩ : ∃ ee, mErr o L.length = ee := ⟨_, rfl⟩
    rw [hee] at HV hb
    have HE := Lib.hid hee
    obtain ⟨p, rfl⟩ := h.ptr
    clear h hL hz hW hzz hee
    go_enter Try.func20, Try.ntmps20
    go_wp2_with fail
    refine HV.out.mono ?_
    rintro e w' ⟨rfl, rfl⟩
    go_wp2_with fail
    go_ret2
    exact ⟨Below.refl _ _, .inl ⟨HZ.out, by rw [HE.out]; rfl⟩⟩
end Go.Proofs.Ytemcilmefknbbaa
