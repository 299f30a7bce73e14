/- The walk of the law TriadRatios. No conditions. -/
import Derived.Test.YtjdpkjjlcbgnbaaRLoc
namespace Go.Proofs.Ytjdpkjjlcbgnbaa
open Go.RowKit Go.Shelf

set_option maxRecDepth 100000 in
set_option maxHeartbeats 4000000 in
theorem ratios_walk (n : Int) (a : Option Addr) (cap : Nat) (E : List Ed) (A : Nat → Addr) (v : Int) (w : World) (hS : ES w w.heap.size (.slice a E.length cap) E A) (hl : E.length ≤ 9223372036854775807) :
    Calls Try.prog 4 #[.int .i64 n, .slice a E.length cap, .int .i64 v] w fun e w' => e = .returned (.bool true) ∧ Below w.heap.size w w' := by
  have HS := Lib.hid hS
  clear hS
  go_enter Try.func4, Try.ntmps4
  go_wp2_with fail
  by_cases hsm : n ≤ 40 ∧ E.length ≤ 150
  · have hx := decide_eq_true hsm
    clear hsm
    refine (small_is hx hl).mono ?_
    rintro e w1 ⟨rfl, rfl⟩
    clear hx
    go_wp2_with fail
    refine (both_new a cap A n E w1 HS.out hl).mono ?_
    rintro e w2 ⟨p, r, rfl, hG, hR, hb2⟩
    have H1 := Lib.hid (fun W (hW : Below w2.heap.size w2 W) => local_any w2.heap.size p (gO n E) v W (hG.below hW) hW.size)
    have H2 := Lib.hid (fun W (hW : Below w2.heap.size w2 W) => rlocal_any w2.heap.size r (gO n E) v W (hR.below hW) hW.size)
    have H3 := Lib.hid (fun W (hW : Below w2.heap.size w2 W) => global_any w2.heap.size p (gO n E) W (hG.below hW) hW.size)
    have H4 := Lib.hid (fun W (hW : Below w2.heap.size w2 W) => rglobal_any w2.heap.size r (gO n E) W (hR.below hW) hW.size)
    generalize lcN (gO n E) v = x1 at *
    generalize lcD (gO n E) v = x2 at *
    generalize lcE (gO n E) v = x3 at *
    generalize glN (gO n E) = y1 at *
    generalize glD (gO n E) = y2 at *
    generalize glE (gO n E) = y3 at *
    clear hG hR HS
    go_wp2_with fail
    refine (H1.out _ (Below.refl _ _)).mono ?_
    rintro e w3 ⟨rfl, hb⟩
    have A0 := Two.new w3 x1 x2 35
    have hn : (w3.alloc (.cells #[.int .i64 x1, .int .i64 x2] 35)).heap.size = w3.heap.size + 1 := by simp
    have bl : Below w2.heap.size w2 (w3.alloc (.cells #[.int .i64 x1, .int .i64 x2] 35)) := hb.alloc hb.size _
    clear hb
    go_wp2_with fail
    generalize w3.alloc (.cells #[.int .i64 x1, .int .i64 x2] 35) = W3 at *
    refine (H2.out _ bl).mono ?_
    rintro e w4 ⟨rfl, hb⟩
    have B0 := Two.new w4 x1 x2 35
    have hn : (w4.alloc (.cells #[.int .i64 x1, .int .i64 x2] 35)).heap.size = w4.heap.size + 1 := by simp
    have hsz := hb.size
    have hbn : Below W3.heap.size W3 (w4.alloc (.cells #[.int .i64 x1, .int .i64 x2] 35)) := hb.alloc hb.size _
    have A1 := A0.below hbn (by omega)
    have bln := stepB0 bl hbn
    clear hb hbn A0 bl
    have bl := bln
    clear bln
    go_wp2_with fail
    generalize w4.alloc (.cells #[.int .i64 x1, .int .i64 x2] 35) = W4 at *
    refine (H3.out _ bl).mono ?_
    rintro e w5 ⟨rfl, hb⟩
    have C0 := Two.new w5 y1 y2 35
    have hn : (w5.alloc (.cells #[.int .i64 y1, .int .i64 y2] 35)).heap.size = w5.heap.size + 1 := by simp
    have hsz := hb.size
    have hbn : Below W4.heap.size W4 (w5.alloc (.cells #[.int .i64 y1, .int .i64 y2] 35)) := hb.alloc hb.size _
    have A2 := A1.below hbn (by omega)
    have B1 := B0.below hbn (by omega)
    have bln := stepB0 bl hbn
    clear hb hbn A1 B0 bl
    have bl := bln
    clear bln
    go_wp2_with fail
    generalize w5.alloc (.cells #[.int .i64 y1, .int .i64 y2] 35) = W5 at *
    refine (H4.out _ bl).mono ?_
    rintro e w6 ⟨rfl, hb⟩
    have D0 := Two.new w6 y1 y2 35
    have hn : (w6.alloc (.cells #[.int .i64 y1, .int .i64 y2] 35)).heap.size = w6.heap.size + 1 := by simp
    have hsz := hb.size
    have hbn : Below W5.heap.size W5 (w6.alloc (.cells #[.int .i64 y1, .int .i64 y2] 35)) := hb.alloc hb.size _
    have A3 := A2.below hbn (by omega)
    have B2 := B1.below hbn (by omega)
    have C1 := C0.below hbn (by omega)
    have bln := stepB0 bl hbn
    clear hb hbn A2 B1 C0 bl
    have bl := bln
    clear bln
    have c0A := A3.c0; have c1A := A3.c1
    have c0B := B2.c0; have c1B := B2.c1
    have c0C := C1.c0; have c1C := C1.c1
    have c0D := D0.c0; have c1D := D0.c1
    have q1 : ∀ w, (binOp .eql 35 (.agg #[.int .i64 x1, .int .i64 x2]) (.agg #[.int .i64 x1, .int .i64 x2])).run Try.prog w = .ok (.bool true) w := fun w => by simpa using frac_eq x1 x2 x1 x2 w
    have q2 : ∀ w, (binOp .eql 35 (.agg #[.int .i64 y1, .int .i64 y2]) (.agg #[.int .i64 y1, .int .i64 y2])).run Try.prog w = .ok (.bool true) w := fun w => by simpa using frac_eq y1 y2 y1 y2 w
    have q3 : (x3 == x3) = true := beq_self_eq_true _
    have q4 : (y3 == y3) = true := beq_self_eq_true _
    clear A3 B2 C1 D0
    go_wp2_with fail
    refine (works_any _).mono ?_
    rintro e wz ⟨rfl, hb⟩
    go_wp2_with fail
    go_ret
    exact ⟨rfl, stepB0 hb2 (stepB0 bl hb)⟩
  · have hx := decide_eq_false hsm
    clear hsm
    refine (small_is hx hl).mono ?_
    rintro e w1' ⟨rfl, rfl⟩
    go_wp2_with fail
    refine (works_any w1').mono ?_
    rintro e w2 ⟨rfl, hb2⟩
    go_wp2_with fail
    go_ret
    exact ⟨rfl, hb2⟩
end Go.Proofs.Ytjdpkjjlcbgnbaa
