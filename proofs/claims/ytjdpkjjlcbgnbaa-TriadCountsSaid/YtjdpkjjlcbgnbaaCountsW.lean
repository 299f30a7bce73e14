/- The walk of the law TriadCounts. No conditions. -/
import Derived.Test.YtjdpkjjlcbgnbaaCntW
namespace Go.Proofs.Ytjdpkjjlcbgnbaa
open Go.RowKit Go.Shelf

set_option maxRecDepth 100000 in
set_option maxHeartbeats 2000000 in
theorem counts_walk (n : Int) (a : Option Addr) (cap : Nat) (E : List Ed) (A : Nat → Addr) (v : Int) (w : World) (hS : ES w w.heap.size (.slice a E.length cap) E A) (hl : E.length ≤ 9223372036854775807) :
    Calls Try.prog 3 #[.int .i64 n, .slice a E.length cap, .int .i64 v] w fun e w' => e = .returned (.bool true) ∧ Below w.heap.size w w' := by
  have HS := Lib.hid hS
  clear hS
  go_enter Try.func3, Try.ntmps3
  go_wp2_with fail
  by_cases hsm : n ≤ 40 ∧ E.length ≤ 150
  · have hx := decide_eq_true hsm
    clear hsm
    refine (small_is hx hl).mono ?_
    rintro e w1 ⟨rfl, rfl⟩
    clear hx
    go_wp2_with fail
    refine (both_new a cap A n E w1 HS.out hl).mono ?_
    rintro e w2 ⟨p, r, rfl, hG, hR, hb2⟩
    have htl := tri_len hG.good
    have HA := Lib.hid (at_cnt hG.good v)
    have HG := Lib.hid (fun W (hW : Below w2.heap.size w2 W) => hG.below hW)
    have HR := Lib.hid (fun W (hW : Below w2.heap.size w2 W) => hR.below hW)
    have hle := cntTo_le (tri (gO n E)) v (tri (gO n E)).length
    clear hG hR HS
    go_wp2_with fail
    refine (count_any w2.heap.size p (gO n E) w2 (HG.out _ (Below.refl _ _)) (Nat.le_refl _)).mono ?_
    rintro e w3 ⟨rfl, hb3⟩
    have hs3 := hb3.size
    go_wp2_with fail
    refine (rtcount_any w2.heap.size r (gO n E) w3 (HR.out _ hb3) hs3).mono ?_
    rintro e w4 ⟨rfl, hb4⟩
    have bel4 := stepB0 hb3 hb4
    have hs4 := bel4.size
    clear hb3 hb4
    have hq : (((tri (gO n E)).length : Int) == ((tri (gO n E)).length : Int)) = true := beq_self_eq_true _
    go_wp2_with fail
    refine (at_count w2.heap.size p (gO n E) v w4 (HG.out _ bel4) hs4).mono ?_
    rintro e w5 ⟨rfl, hb5⟩
    rw [HA.out]
    have bel5 := stepB0 bel4 hb5
    have hs5 := bel5.size
    clear bel4 hb5
    go_wp2_with fail
    refine (rat_any w2.heap.size r (gO n E) v w5 (HR.out _ bel5) hs5).mono ?_
    rintro e w6 ⟨rfl, hb6⟩
    have bel6 := stepB0 bel5 hb6
    clear bel5 hb6
    have hq2 : ((cntTo (tri (gO n E)) v (tri (gO n E)).length : Int) == (cntTo (tri (gO n E)) v (tri (gO n E)).length : Int)) = true := beq_self_eq_true _
    go_wp2_with fail
    refine (works_any w6).mono ?_
    rintro e w7 ⟨rfl, hb7⟩
    go_wp2_with fail
    go_ret
    exact ⟨rfl, stepB0 hb2 (stepB0 bel6 hb7)⟩
  · have hx := decide_eq_false hsm
    clear hsm
    refine (small_is hx hl).mono ?_
    rintro e w1' ⟨rfl, rfl⟩
    go_wp2_with fail
    refine (works_any w1').mono ?_
    rintro e w2 ⟨rfl, hb2⟩
    go_wp2_with fail
    go_ret
    exact ⟨rfl, hb2⟩
end Go.Proofs.Ytjdpkjjlcbgnbaa
