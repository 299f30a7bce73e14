/- The document's modular: wrong, Inside, numerator. No conditions. -/
import Derived.Test.YtemcilmefknbbaaModR1
import Derived.Test.YtemcilmefknbbaaModF
namespace Go.Proofs.Ytemcilmefknbbaa
open Go.RowKit Go.Shelf

set_option maxHeartbeats 1000000 in
theorem wrong_any (B : Nat) (v : Value) (o : Option (Nat × List Ed)) (a : Option Addr) (k cap : Nat) (w : World) (h : RG w B v o) :
    Calls Try.prog 34 #[v, .slice a k cap] w fun e w' => e = .returned (.int .i64 (mErr o k)) ∧ w' = w := by
  have HC := Lib.hid (rcount_any B v o w h)
  cases o with
  | none =>
    obtain rfl : v = .pointer none := h
    go_enter Try.func34, Try.ntmps34
    go_wp2_with fail
    go_ret
    exact ⟨rfl, rfl⟩
  | some x =>
    obtain ⟨n, E⟩ := x
    obtain ⟨b, rfl, h1⟩ := h
    have c0 := h1.made
    clear h1
    by_cases hk : k = n
    · subst hk
      have HZ := Lib.hid (show mErr (some (k, E)) k = 0 by simp [mErr]; rfl)
      simp only [gN] at HC
      go_enter Try.func34, Try.ntmps34
      go_wp2_with fail
      refine HC.out.mono ?_
      rintro e w' ⟨rfl, rfl⟩
      go_wp2_with fail
      go_ret
      exact ⟨by rw [HZ.out]; rfl, rfl⟩
    · have HZ := Lib.hid (show mErr (some (n, E)) k = 2 by
        have : gN (some (n, E)) = n := rfl
        simp [mErr, this, hk])
      have hne : ((k : Int) != n) = true := by simp; omega
      simp only [gN] at HC
      go_enter Try.func34, Try.ntmps34
      go_wp2_with fail
      refine HC.out.mono ?_
      rintro e w' ⟨rfl, rfl⟩
      go_wp2_with fail
      go_ret
      exact ⟨by rw [HZ.out]; rfl, rfl⟩

set_option maxRecDepth 100000 in
set_option maxHeartbeats 2000000 in
theorem rinside_any (B : Nat) (v : Value) (o : Option (Nat × List Ed)) (la : Option Addr) (lc : Nat) (LA : Nat → Addr) (L : List Int) (w : World) (h : RG w B v o) (hL : Sl 23 .i64 w B (.slice la L.length lc) L LA) (hB : B ≤ w.heap.size) :
    Calls Try.prog 19 #[v, .slice la L.length lc] w fun e w' => e = .returned (.tuple #[.int .i64 (insN o L), .int .i64 (mErr o L.length)]) ∧ Below w.heap.size w w' := by
  have HW := Lib.hid (wrong_any B v o la L.length lc w h)
  have HE := Lib.hid (redges_any B v o w h hB)
  have HL := Lib.hid hL
  by_cases hz : mErr o L.length = 0
  · obtain ⟨⟨n, E⟩, rfl, hn⟩ := mErr_zero hz
    obtain ⟨b, rfl, h1⟩ := h
    have G := h1.ok
    have hml := G.m_le
    have HN := Lib.hid (show L.length = n from hn)
    have HI := Lib.hid (show insN (some (n, E)) L = (inN E L : Int) by rw [insN, if_pos hz]; rfl)
    have HZ := Lib.hid hz
    simp only [hz] at HW
    clear hz hn h1 hL
    go_enter Try.func19, Try.ntmps19
    go_wp2_with fail
    refine HW.out.mono ?_
    rintro e w1 ⟨rfl, rfl⟩
    go_wp2_with fail
    refine HE.out.mono ?_
    rintro e w2 ⟨ea, ec, EA, rfl, hS, hb2⟩
    have hS : ES w2 w2.heap.size (.slice ea E.length ec) E EA := hS
    have HS := Lib.hid hS
    have HL2 := Lib.hid ((HL.out.below (hb2.mono hB)).mono (Nat.le_trans hB hb2.size))
    simp only [gE]
    clear hS HW HE
    go_wp2_with fail
    go_loopw [7, 9] (fun s i wr => ∃ k : Nat, k ≤ E.length ∧ i = .int .i64 k ∧ s = .int .i64 (inTo E L k : Nat) ∧ Below w2.heap.size w2 wr) (fun _ i _ => E.length - (intOf i).toNat)
    case atStart => exact ⟨0, Nat.zero_le _, rfl, rfl, Below.refl _ _⟩
    case round =>
      obtain ⟨k, hk2, rfl, rfl, bel⟩ := hrel
      have hle := inTo_le E L k
      by_cases hlt : k < E.length
      · obtain ⟨x, y, hx, hy, hxn, hyn, -⟩ := G.nats hlt
        have h1 := HS.out.below bel
        have ix := h1.ix k hlt
        have e0 := ES.u h1 hlt
        have e1 := ES.v h1 hlt
        rw [hx] at e0; rw [hy] at e1
        have hL3 := HL2.out.below bel
        have hxl : x < L.length := by rw [HN.out]; exact hxn
        have hyl : y < L.length := by rw [HN.out]; exact hyn
        have i0 := hL3.ix x hxl
        have i1 := hL3.ix y hyl
        have l0 := Sl.at hL3 hxl
        have l1 := Sl.at hL3 hyl
        have hsc := inTo_succ E L k
        unfold inB at hsc
        rw [hx, hy, Int.toNat_natCast, Int.toNat_natCast] at hsc
        clear hL3 hx hy h1
        cases hq : (nth L x == nth L y) with
        | true =>
          rw [hq] at hsc
          have HC := Lib.hid (show inTo E L (k + 1) = inTo E L k + 1 from hsc)
          clear hsc
          go_wp2_with fail
          go_quiet (fail)
          go_wp2_with fail
          go_roundw
          case rel => exact ⟨k + 1, by omega, by go_num, by rw [HC.out]; go_num, below_drewN bel _⟩
          case measure => simp only [intOf]; omega
        | false =>
          rw [hq] at hsc
          have HC := Lib.hid (show inTo E L (k + 1) = inTo E L k from hsc)
          clear hsc
          go_wp2_with fail
          go_quiet (fail)
          go_wp2_with fail
          go_roundw
          case rel => exact ⟨k + 1, by omega, by go_num, by rw [HC.out], below_drewN bel _⟩
          case measure => simp only [intOf]; omega
      · obtain rfl : k = E.length := by omega
        go_wp2_with fail
        go_ret2
        exact ⟨by rw [HI.out, HZ.out]; rfl, stepB0 hb2 bel⟩
  · have HI := Lib.hid (show insN o L = 0 by rw [insN, if_neg hz])
    obtain ⟨ee, hee⟩ : ∃ ee, mErr o L.length = ee := ⟨_, rfl⟩
    rw [hee] at HW hz
    have hb : (ee != 0) = true := by simpa using hz
    have HE2 := Lib.hid hee
    clear hz hee h hL HE
    go_enter Try.func19, Try.ntmps19
    go_wp2_with fail
    refine HW.out.mono ?_
    rintro e w1 ⟨rfl, rfl⟩
    go_wp2_with fail
    go_ret2
    exact ⟨by rw [HI.out, HE2.out]; rfl, Below.refl _ _⟩
end Go.Proofs.Ytemcilmefknbbaa
