/- The walk of the law BridgeCycles. Conditions: the edges are given as cells. -/
import Derived.Test.YtcpikabhcjkkmaaBeC
namespace Go.Proofs.Ytcpikabhcjkkmaa
open Go.RowKit

theorem CycL.uniq {n : Nat} {E : List Ed} {x : Int} {l l' : List Nat} (G : GOk n E) (h : CycL n E x l) (h' : CycL n E x l') : l = l' := by
  by_cases c : 0 ≤ x ∧ x < E.length
  · obtain ⟨d, h1, h2⟩ := h.2 x.toNat (by omega) (by omega)
    obtain ⟨d', h3, h4⟩ := h'.2 x.toNat (by omega) (by omega)
    rw [h2, h4]
    exact cyc_any G (by omega) h1 h3
  · rw [h.1 c, h'.1 c]
theorem CycL.len {n : Nat} {E : List Ed} {x : Int} {l : List Nat} (G : GOk n E) (h : CycL n E x l) : l.length ≤ n + 1 := by
  by_cases c : 0 ≤ x ∧ x < E.length
  · obtain ⟨d, h1, h2⟩ := h.2 x.toNat (by omega) (by omega)
    obtain ⟨u, v, hu, hv, hun, hvn, huv⟩ := G.nats (show x.toNat < E.length by omega)
    have hep : edP E x.toNat = (u, v) := by unfold edP; rw [hu, hv]; rfl
    rw [hep] at h1 h2
    have h1 : DistF E (NE E x.toNat) n v d := h1
    have h2 : l = cyc E x.toNat d u := h2
    rw [h2]
    unfold cyc
    split
    · simp
    · rename_i h0
      have := dist_lt G h1 hun (by omega)
      rw [List.length_cons, chn_len G h1 _ u hun (by omega)]
      omega
  · rw [h.1 c]; simp
/-- both cycles are the same -/
theorem cyc_same {n : Nat} {E : List Ed} {x : Int} {w : World} {v v' : Value} {l l' : List Nat} (G : GOk n E) (h : CycL n E x l) (h' : CycL n E x l') (hv : RdI w w.heap.size v l) (hv' : RdI w w.heap.size v' l') :
    Calls Try.prog 15 #[v, v'] w fun e w' => e = .returned (.bool true) ∧ ∃ q, w' = w.drewN q := by
  have hl := h.len G
  have hn := G.n_le
  have := sameI_any w.heap.size v v' l l' w hv hv' (by omega)
  rw [decide_eq_true (h.uniq G h')] at this
  exact this
set_option maxRecDepth 100000 in
set_option maxHeartbeats 2000000 in
theorem cyclaw_walk (n y : Int) (a : Option Addr) (cap : Nat) (A : Nat → Addr) (E : List Ed) (w : World) (hS : ES w w.heap.size (.slice a E.length cap) E A) (hl : E.length ≤ 9223372036854775807) :
    Calls Try.prog 5 #[.int .i64 n, .slice a E.length cap, .int .i64 y] w fun e w' => e = .returned (.bool true) ∧ Below w.heap.size w w' := by
  have HM := Lib.hid (both_any w.heap.size a cap A n E w hS (Nat.le_refl _) hl)
  clear hS
  go_enter Try.func5, Try.ntmps5
  go_wp2_with fail
  refine HM.out.mono ?_
  clear HM
  rintro e w1 ⟨b1, ⟨v1, v2, rfl⟩ | ⟨k, b, r, rfl, hk, hm, hok, rfl, hg, hr⟩⟩
  · have HB := Lib.hid b1
    clear b1
    go_wp2_with fail
    refine (works_any _).mono ?_
    rintro e w2 ⟨rfl, b2⟩
    replace HB := Lib.hid (HB.out.trans (b2.mono HB.out.size))
    clear b2
    go_wp2_with fail
    go_ret
    exact ⟨rfl, HB.out⟩
  · have HB1 := Lib.hid b1
    have HG := Lib.hid (show GV w1 w1.heap.size (.pointer (some ⟨b, 0, none⟩)) (some (k, E)) from ⟨b, rfl, hg⟩)
    have HR := Lib.hid hr
    have HOk := Lib.hid hok
    clear b1 hok hg hr
    go_wp2_with fail
    go_loopw [10] (fun iv wr => ∃ x : Int, (-1 ≤ x ∧ x ≤ E.length + 1) ∧ iv = .int .i64 x ∧ Hid (Below w1.heap.size w1 wr)) (fun iv _ => (E.length + 1 - intOf iv).toNat)
    case atStart => exact ⟨-1, by omega, rfl, Lib.hid (Below.refl _ _)⟩
    case round =>
      obtain ⟨x, hx, rfl, HW⟩ := hrel
      have hsr := HW.out.size
      by_cases hle : x ≤ E.length
      · have d1 : decide (x ≤ (E.length : Int)) = true := decide_eq_true hle
        have hwx : IntKind.i64.wrap (x + 1) = x + 1 := IntWalk.i64_in _ (by omega)
        have HC := Lib.hid (cycle_any w1.heap.size (some ⟨b, 0, none⟩) k E (some (k, E)) (.inl rfl) x wr (HG.out.below HW.out) hsr)
        go_wp2_with fail
        refine HC.out.mono ?_
        clear HC
        rintro e w2 ⟨p2, l2, rfl, hc2, hp2, b2⟩
        have HW2 := Lib.hid (HW.out.trans (b2.mono hsr))
        have hs2 := HW2.out.size
        have HP := Lib.hid hp2
        have HL := Lib.hid hc2
        have HC := Lib.hid (rcycle_any w1.heap.size r k E x w2 (HR.out.below HW2.out) hs2)
        clear b2 hp2 hc2 HW
        go_wp2_with fail
        refine HC.out.mono ?_
        clear HC
        rintro e w3 ⟨p3, l3, rfl, hc3, hp3, b3⟩
        have HW3 := Lib.hid (HW2.out.trans (b3.mono hs2))
        have HSm := Lib.hid (cyc_same HOk.out HL.out hc3 ((HP.out.below b3).mono b3.size) hp3)
        clear b3 hp3 hc3 HW2 HP HL
        go_wp2_with fail
        refine HSm.out.mono ?_
        clear HSm
        rintro e w4 ⟨rfl, m4, rfl⟩
        have HW4 := Lib.hid (below_drewN HW3.out m4)
        go_wp2_with fail
        go_roundw
        case rel => exact ⟨x + 1, by omega, by go_num, HW4⟩
        case measure => simp only [intOf]; omega
      · have d1 : decide (x ≤ (E.length : Int)) = false := decide_eq_false hle
        have HC := Lib.hid (cycle_any w1.heap.size (some ⟨b, 0, none⟩) k E (some (k, E)) (.inl rfl) y wr (HG.out.below HW.out) hsr)
        go_wp2_with fail
        refine HC.out.mono ?_
        clear HC
        rintro e w2 ⟨p2, l2, rfl, hc2, hp2, b2⟩
        have HW2 := Lib.hid (HW.out.trans (b2.mono hsr))
        have hs2 := HW2.out.size
        have HP := Lib.hid hp2
        have HL := Lib.hid hc2
        have HC := Lib.hid (rcycle_any w1.heap.size r k E y w2 (HR.out.below HW2.out) hs2)
        clear b2 hp2 hc2 HW
        go_wp2_with fail
        refine HC.out.mono ?_
        clear HC
        rintro e w3 ⟨p3, l3, rfl, hc3, hp3, b3⟩
        have HW3 := Lib.hid (HW2.out.trans (b3.mono hs2))
        have HSm := Lib.hid (cyc_same HOk.out HL.out hc3 ((HP.out.below b3).mono b3.size) hp3)
        clear b3 hp3 hc3 HW2 HP HL
        go_wp2_with fail
        refine HSm.out.mono ?_
        clear HSm
        rintro e w4 ⟨rfl, m4, rfl⟩
        have HW4 := Lib.hid (below_drewN HW3.out m4)
        go_wp2_with fail
        refine (works_any _).mono ?_
        rintro e w5 ⟨rfl, b5⟩
        have HF := Lib.hid (HB1.out.trans ((HW4.out.trans (b5.mono HW4.out.size)).mono HB1.out.size))
        go_wp2_with fail
        go_ret
        exact ⟨rfl, HF.out⟩
end Go.Proofs.Ytcpikabhcjkkmaa
