/- The walk of the law TriadLists. No conditions. -/
import Derived.Test.YtjdpkjjlcbgnbaaCntW
namespace Go.Proofs.Ytjdpkjjlcbgnbaa
open Go.RowKit Go.Shelf

set_option maxRecDepth 100000 in
set_option maxHeartbeats 2000000 in
theorem lists_walk (n : Int) (a : Option Addr) (cap : Nat) (E : List Ed) (A : Nat → Addr) (m : Int) (w : World) (hS : ES w w.heap.size (.slice a E.length cap) E A) (hl : E.length ≤ 9223372036854775807) :
    Calls Try.prog 8 #[.int .i64 n, .slice a E.length cap, .int .i64 m] w fun e w' => e = .returned (.bool true) ∧ Below w.heap.size w w' := by
  have HS := Lib.hid hS
  clear hS
  go_enter Try.func8, Try.ntmps8
  go_wp2_with fail
  by_cases hsm : n ≤ 40 ∧ E.length ≤ 150
  · have hx := decide_eq_true hsm
    clear hsm
    refine (small_is hx hl).mono ?_
    rintro e w1 ⟨rfl, rfl⟩
    clear hx
    go_wp2_with fail
    refine (both_new a cap A n E w1 HS.out hl).mono ?_
    rintro e w2 ⟨p, r, rfl, hG, hR, hb2⟩
    have htl := tri_len hG.good
    have HL := Lib.hid (list_any w2.heap.size p (gO n E) m w2 hG (Nat.le_refl _))
    have HR := Lib.hid (fun W (hW : Below w2.heap.size w2 W) => rtlist_any w2.heap.size r (gO n E) m W (hR.below hW) hW.size)
    obtain ⟨T, hT⟩ : ∃ T, (tri (gO n E)).take m.toNat = T := ⟨_, rfl⟩
    rw [hT] at HL HR
    have hTl : T.length ≤ 68719476736 := by rw [← hT, List.length_take]; omega
    clear hG hR HS hT htl
    go_wp2_with fail
    refine HL.out.mono ?_
    rintro e w3 ⟨v3, rfl, hv3, hb3⟩
    obtain ⟨la, lc, LA, rfl, hRL⟩ := Rd.own etT hv3
    have hs3 := hb3.size
    clear hv3
    go_wp2_with fail
    refine (HR.out _ hb3).mono ?_
    rintro e w4 ⟨fa, fc, FA, rfl, hRF, hb4⟩
    have bel4 := stepB0 hb3 hb4
    have hs4 := hb4.size
    have HRL := Lib.hid ((hRL.below hb4).mono hs4)
    have HRF := Lib.hid hRF
    clear hRL hRF hb3 hb4
    have hq : ((T.length : Int) != (T.length : Int)) = false := by simp
    go_wp2_with fail
    clear hq
    go_loopw [11] (fun i wr => ∃ q : Nat, q ≤ T.length ∧ i = .int .i64 q ∧ Below w4.heap.size w4 wr) (fun i _ => T.length - (intOf i).toNat)
    case atStart => exact ⟨0, Nat.zero_le _, rfl, Below.refl _ _⟩
    case round =>
      obtain ⟨q, hq, rfl, bel⟩ := hrel
      have hsr := bel.size
      by_cases hlt : q < T.length
      · have h1 := HRL.out.below bel
        have h2 := HRF.out.below bel
        have hix := h1.ix q hlt
        have hix2 := h2.ix q hlt
        obtain ⟨x0, x1, x2, hxe⟩ : ∃ x0 x1 x2, tAt T q = (x0, x1, x2) := ⟨_, _, _, rfl⟩
        have e0 := h1.cell q hlt 0 (by omega)
        have e1 : wr.cell? ⟨(LA q).block, (LA q).off + 1, none⟩ = _ := h1.cell q hlt 1 (by omega)
        have e2 : wr.cell? ⟨(LA q).block, (LA q).off + 2, none⟩ = _ := h1.cell q hlt 2 (by omega)
        have f0 := h2.cell q hlt 0 (by omega)
        have f1 : wr.cell? ⟨(FA q).block, (FA q).off + 1, none⟩ = _ := h2.cell q hlt 1 (by omega)
        have f2 : wr.cell? ⟨(FA q).block, (FA q).off + 2, none⟩ = _ := h2.cell q hlt 2 (by omega)
        rw [add_zero] at e0 f0
        rw [show tC T q 0 = .int .i64 (tAt T q).1 from rfl, hxe] at e0 f0
        rw [show tC T q 1 = .int .i64 (tAt T q).2.1 from rfl, hxe] at e1 f1
        rw [show tC T q 2 = .int .i64 (tAt T q).2.2 from rfl, hxe] at e2 f2
        simp only at e0 e1 e2 f0 f1 f2
        have qn : ∀ w, (binOp .neq 56 (.agg #[.int .i64 x0, .int .i64 x1, .int .i64 x2]) (.agg #[.int .i64 x0, .int .i64 x1, .int .i64 x2])).run Try.prog w = .ok (.bool false) w := fun w => by simpa using arr_neq x0 x1 x2 x0 x1 x2 w
        clear h1 h2 hxe
        go_wp2_with fail
        go_quiet (fail)
        go_wp2_with fail
        go_roundw
        case rel => exact ⟨q + 1, by omega, by go_num, below_drewN bel _⟩
        case measure => simp only [intOf]; omega
      · obtain rfl : q = T.length := by omega
        go_wp2_with fail
        refine (works_any wr).mono ?_
        rintro e w7 ⟨rfl, hb7⟩
        go_wp2_with fail
        go_ret
        exact ⟨rfl, stepB0 hb2 (bel4.trans ((stepB0 bel hb7).mono bel4.size))⟩
  · have hx := decide_eq_false hsm
    clear hsm
    refine (small_is hx hl).mono ?_
    rintro e w1' ⟨rfl, rfl⟩
    go_wp2_with fail
    refine (works_any w1').mono ?_
    rintro e w2 ⟨rfl, hb2⟩
    go_wp2_with fail
    go_ret
    exact ⟨rfl, hb2⟩
end Go.Proofs.Ytjdpkjjlcbgnbaa
