/- The walk of the law BridgeBlocks. Conditions: the edges are given as cells. -/
import Derived.Test.YtcpikabhcjkkmaaBgB
import Derived.Test.YtcpikabhcjkkmaaBlZ
import Derived.Test.YtcpikabhcjkkmaaBdZ
namespace Go.Proofs.Ytcpikabhcjkkmaa
open Go.RowKit

theorem bkL_lenE (E : List Ed) : (bkL E).length ≤ E.length := bkR_end E ▸ bkR_len E E.length
theorem bkL_rowE (E : List Ed) (i : Nat) : ((bkL E).getD i []).length ≤ E.length := by
  by_cases h : i < (bkL E).length
  · have h1 : (bkL E).getD i [] = (bkL E)[i] := by simp [List.getD, h]
    obtain ⟨a, -, h2⟩ := List.mem_map.1 (List.getElem_mem h)
    rw [h1, ← h2]
    exact Nat.le_trans (List.length_filter_le _ _) (by simp)
  · simp [List.getD, List.getElem?_eq_none (Nat.le_of_not_lt h)]
set_option maxRecDepth 100000 in
set_option maxHeartbeats 2000000 in
theorem blklaw_walk (n : Int) (a : Option Addr) (cap : Nat) (A : Nat → Addr) (E : List Ed) (w : World) (hS : ES w w.heap.size (.slice a E.length cap) E A) (hl : E.length ≤ 9223372036854775807) :
    Calls Try.prog 4 #[.int .i64 n, .slice a E.length cap] w fun e w' => e = .returned (.bool true) ∧ Below w.heap.size w w' := by
  have HM := Lib.hid (both_any w.heap.size a cap A n E w hS (Nat.le_refl _) hl)
  clear hS
  go_enter Try.func4, Try.ntmps4
  go_wp2_with fail
  refine HM.out.mono ?_
  clear HM
  rintro e w1 ⟨b1, ⟨v1, v2, rfl⟩ | ⟨k, b, r, rfl, hk, hm, hok, rfl, hg, hr⟩⟩
  · have HB := Lib.hid b1
    clear b1
    go_wp2_with fail
    refine (works_any _).mono ?_
    rintro e w2 ⟨rfl, b2⟩
    replace HB := Lib.hid (HB.out.trans (b2.mono HB.out.size))
    clear b2
    go_wp2_with fail
    go_ret
    exact ⟨rfl, HB.out⟩
  · have HB := Lib.hid b1
    have HG := Lib.hid (show GV w1 w1.heap.size (.pointer (some ⟨b, 0, none⟩)) (some (k, E)) from ⟨b, rfl, hg⟩)
    have HR := Lib.hid hr
    clear b1 hok hg hr
    have HC := Lib.hid (blocks_out w1.heap.size (some ⟨b, 0, none⟩) k E (some (k, E)) (.inl rfl) w1 HG.out (Nat.le_refl _))
    go_wp2_with fail
    refine HC.out.mono ?_
    clear HC
    rintro e w2 ⟨p2, rfl, hM2, b2⟩
    have HP := Lib.hid hM2
    have HW2 := Lib.hid b2
    have HC := Lib.hid (rblocks_any w1.heap.size r k E w2 (HR.out.below b2) b2.size)
    clear hM2 b2
    go_wp2_with fail
    refine HC.out.mono ?_
    clear HC
    rintro e w3 ⟨p3, rfl, hM3, b3⟩
    have hMa := (HP.out.below b3).mono b3.size
    obtain ⟨a2, c2, rfl⟩ := hMa.view
    obtain ⟨a3, c3, rfl⟩ := hM3.view
    have HA := Lib.hid hMa
    have HD := Lib.hid hM3
    have HW3 := Lib.hid (HW2.out.trans (b3.mono HW2.out.size))
    have hbl := bkL_lenE E
    have hrl := bkL_rowE E
    clear hMa hM3 b3 HW2 HP HG HR
    have HRl := Lib.hid hrl
    clear hrl
    generalize bkL E = X at *
    obtain ⟨m, hm2⟩ : ∃ m, X.length = m := ⟨_, rfl⟩
    have HM := Lib.hid hm2
    rw [hm2] at hbl ⊢
    clear hm2
    go_wp2_with fail
    go_loopw [10] (fun iv wr => ∃ i : Nat, i ≤ m ∧ iv = .int .i64 (i : Nat) ∧ Hid (Below w3.heap.size w3 wr)) (fun iv _ => m - (intOf iv).toNat)
    case atStart => exact ⟨0, Nat.zero_le _, rfl, Lib.hid (Below.refl _ _)⟩
    case round =>
      obtain ⟨i, hi, rfl, HQ⟩ := hrel
      have hwi : IntKind.i64.wrap ((i : Int) + 1) = (i : Int) + 1 := IntWalk.i64_in _ (by omega)
      by_cases hlt : i < m
      · obtain ⟨ad, ra, rc, ix, cx, rx, -, -⟩ := ((HA.out.below HQ.out).mono HQ.out.size).get (i := i) (by rw [HM.out]; exact hlt)
        obtain ⟨ad', ra', rc', iy, cy, ry, -, -⟩ := ((HD.out.below HQ.out).mono HQ.out.size).get (i := i) (by rw [HM.out]; exact hlt)
        rw [HM.out] at ix iy
        have hrw := HRl.out i
        generalize X.getD i [] = R at *
        have HSm := Lib.hid (fun q => by
          have := sameI_any wr.heap.size _ _ R R (wr.drewN q) (rx.below (below_drewN (Below.refl _ _) q)) (ry.below (below_drewN (Below.refl _ _) q)) (by omega)
          rw [decide_eq_true rfl] at this
          exact this)
        clear rx ry hrw
        go_wp2_with fail
        go_quiet ((go_at_call 15; exact Calls.quiet_of (HSm.out _)))
        have HQ2 := Lib.hid (below_drewN HQ.out nq)
        go_wp2_with fail
        go_roundw
        case rel => exact ⟨i + 1, by omega, by go_num, HQ2⟩
        case measure => simp only [intOf]; omega
      · obtain rfl : i = m := by omega
        go_wp2_with fail
        refine (works_any _).mono ?_
        rintro e w5 ⟨rfl, b5⟩
        have HF := Lib.hid (HB.out.trans ((HW3.out.trans ((HQ.out.trans (b5.mono HQ.out.size)).mono HW3.out.size)).mono HB.out.size))
        go_wp2_with fail
        go_ret
        exact ⟨rfl, HF.out⟩
end Go.Proofs.Ytcpikabhcjkkmaa
