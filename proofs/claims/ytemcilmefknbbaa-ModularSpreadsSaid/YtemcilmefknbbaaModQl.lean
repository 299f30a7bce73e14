/- Both graphs of a case; the walk of the law ModularQualities. No conditions. -/
import Derived.Test.YtemcilmefknbbaaModR4
import Derived.Deep.RegionHeld3
namespace Go.Proofs.Ytemcilmefknbbaa
open Go.RowKit Go.Shelf

/-- what both hands back -/
def BothG (n : Int) (E : List Ed) (w : World) (e : Ending) (w' : World) : Prop :=
  ∃ p r, e = .returned (.tuple #[.pointer p, r]) ∧ GV w' w'.heap.size (.pointer p) (gO n E) ∧ RG w' w'.heap.size r (gO n E) ∧ Below w.heap.size w w'
set_option maxHeartbeats 1000000 in
theorem both_new (B : Nat) (n : Int) (a : Option Addr) (c : Nat) (E : List Ed) (la : Option Addr) (lc : Nat) (L : List Int) (w : World) (hS : CS w B a c E la lc L) (hB : B ≤ w.heap.size) :
    Calls Try.prog 15 #[.agg #[.int .i64 n, .slice a E.length c, .slice la L.length lc]] w (BothG n E w) := by
  have hC := CB.new w n a E.length c la L.length lc 25
  have hb : Below w.heap.size w (w.alloc (.cells #[.int .i64 n, .slice a E.length c, .slice la L.length lc] 25)) := (Below.refl _ _).alloc (Nat.le_refl _) _
  have hs : (w.alloc (.cells #[.int .i64 n, .slice a E.length c, .slice la L.length lc] 25)).heap.size = w.heap.size + 1 := by simp
  obtain ⟨A, hA⟩ := (hS.below (hb.mono hB)).e
  have HA := Lib.hid hA
  have HN := Lib.hid (gnew_any B a c A n E _ hA (by omega) hS.el)
  have hel := hS.el
  have HC := Lib.hid hC
  have c0 := hC.c0; have c1 := hC.c1; have c2 := hC.c2
  have hlt := hC.lt
  clear hS hA hC
  go_enter Try.func15, Try.ntmps15
  go_wp2_with fail
  generalize w.alloc (.cells #[.int .i64 n, .slice a E.length c, .slice la L.length lc] 25) = W0 at *
  refine HN.out.mono ?_
  rintro e w1 ⟨hb1, h1⟩
  have hs1 := hb1.size
  have hC1 := HC.out.below hb1 hlt
  clear c0 c1 c2
  have k0 := hC1.c0; have k1 := hC1.c1; have k2 := hC1.c2
  have bel : Below w.heap.size w w1 := hb.trans (hb1.mono (by omega))
  obtain ⟨p, x, rfl, hG⟩ : ∃ p x, e = .returned (.tuple #[.pointer p, .int .i64 x]) ∧ GV w1 w1.heap.size (.pointer p) (gO n E) := by
    rcases h1 with ⟨h1, rfl⟩ | ⟨b, k, rfl, G, rfl, hG⟩
    · exact ⟨none, _, rfl, by rw [gO_none h1]; exact .inl rfl⟩
    · exact ⟨_, _, rfl, by rw [gO_some G]; exact ⟨b, rfl, hG⟩⟩
  have HG := Lib.hid hG
  have HR := Lib.hid (rnew_any B a c A n E w1 (HA.out.below (hb1.mono (by omega))) (by omega) hel)
  clear h1 hG hC1 HN
  go_wp2_with fail
  refine HR.out.mono ?_
  rintro e w2 ⟨r, rfl, hR, hb2⟩
  have HR2 := Lib.hid hR
  clear hR HR
  go_wp2_with fail
  go_ret2
  exact ⟨p, r, rfl, (HG.out.below hb2).mono hb2.size, HR2.out, stepB0 bel hb2⟩

set_option maxRecDepth 100000 in
set_option maxHeartbeats 4000000 in
theorem qualities_walk (n : Int) (a : Option Addr) (c : Nat) (E : List Ed) (la : Option Addr) (lc : Nat) (L : List Int) (w : World) (hS : CS w w.heap.size a c E la lc L) :
    Calls Try.prog 3 #[.agg #[.int .i64 n, .slice a E.length c, .slice la L.length lc]] w fun e w' => e = .returned (.bool true) ∧ Below w.heap.size w w' := by
  have hC := CB.new w n a E.length c la L.length lc 25
  have hb : Below w.heap.size w (w.alloc (.cells #[.int .i64 n, .slice a E.length c, .slice la L.length lc] 25)) := (Below.refl _ _).alloc (Nat.le_refl _) _
  have hs : (w.alloc (.cells #[.int .i64 n, .slice a E.length c, .slice la L.length lc] 25)).heap.size = w.heap.size + 1 := by simp
  have HC := Lib.hid hC
  have HS := Lib.hid (hS.below hb)
  have hSm := Lib.hid (fun W => small_any n a E.length c la L.length lc 30 80 W (by omega))
  have c0 := hC.c0; have c1 := hC.c1; have c2 := hC.c2
  clear hC hS
  generalize hsb : decide (n ≤ 30 ∧ (E.length : Int) ≤ 80 ∧ (L.length : Int) ≤ 30 + 1) = sb at *
  clear hsb
  go_enter Try.func3, Try.ntmps3
  go_wp2_with fail
  refine (hSm.out _).mono ?_
  generalize w.alloc (.cells #[.int .i64 n, .slice a E.length c, .slice la L.length lc] 25) = W0 at *
  clear c0 c1 c2
  rintro e w1 ⟨rfl, hb1⟩
  have hC1 := HC.out.below hb1 (by omega)
  have c0 := hC1.c0; have c1 := hC1.c1; have c2 := hC1.c2
  have bel1 : Below w.heap.size w w1 := hb.trans (hb1.mono (by omega))
  have hsz1 : w.heap.size + 1 ≤ w1.heap.size := by have := hb1.size; omega
  clear hSm
  cases sb with
  | false =>
    clear hC1
    go_wp2_with fail
    refine (works_any _).mono ?_
    rintro e w2 ⟨rfl, hb2⟩
    go_wp2_with fail
    go_ret
    exact ⟨rfl, stepB0 bel1 hb2⟩
  | true =>
    have HS1 := Lib.hid (HS.out.below (hb1.mono (by omega)))
    have HB := Lib.hid (both_new w.heap.size n a c E la lc L w1 HS1.out (by omega))
    have HC1 := Lib.hid hC1
    clear hC1
    go_wp2_with fail
    refine HB.out.mono ?_
    rintro e w2 ⟨p, r, rfl, hG, hR, hb2⟩
    have bel2 := stepB0 bel1 hb2
    have hlt2 : w.heap.size < w2.heap.size := by have := hb2.size; omega
    have hC2 := HC1.out.below hb2 hsz1
    have HS2 := (HS1.out.below (hb2.mono (by omega))).mono (Nat.le_of_lt hlt2)
    obtain ⟨LA, hSl⟩ := HS2.l
    have HG := Lib.hid hG; have HR := Lib.hid hR; have HL := Lib.hid hSl
    have HW := Lib.hid HS2.wf
    have HC2 := Lib.hid hC2
    clear c0 c1 c2 hG hR hSl HB HS2
    have c0 := hC2.c0; have c1 := hC2.c1; have c2 := hC2.c2
    have HQ1 := Lib.hid (quality_any w2.heap.size (.pointer p) (gO n E) la lc LA L w2 HG.out HL.out (Nat.le_refl _) HW.out)
    have HQ2 := Lib.hid (fun W (hW : Below w2.heap.size w2 W) => rquality_any w2.heap.size r (gO n E) la lc LA L W (HR.out.below hW) (HL.out.below hW) hW.size)
    have HI1 := Lib.hid (fun W (hW : Below w2.heap.size w2 W) => inside_any w2.heap.size (.pointer p) (gO n E) la lc LA L W (HG.out.below hW) (HL.out.below hW) hW.size)
    have HI2 := Lib.hid (fun W (hW : Below w2.heap.size w2 W) => rinside_any w2.heap.size r (gO n E) la lc LA L W (HR.out.below hW) (HL.out.below hW) hW.size)
    generalize qlN (gO n E) L = N1 at *
    generalize qlD (gO n E) L = D1 at *
    generalize insN (gO n E) L = I1 at *
    generalize mErr (gO n E) L.length = e1 at *
    clear hC2
    go_wp2_with fail
    refine HQ1.out.mono ?_
    rintro e w3 ⟨rfl, hb3⟩
    have T3 := Two.new w3 N1 D1 33
    have bel4 : Below w2.heap.size w2 (w3.alloc (.cells #[.int .i64 N1, .int .i64 D1] 33)) := hb3.alloc hb3.size _
    have hs4 : (w3.alloc (.cells #[.int .i64 N1, .int .i64 D1] 33)).heap.size = w3.heap.size + 1 := by simp
    have hC4 := HC2.out.below bel4 hlt2
    clear HQ1 c0 c1 c2
    have c0 := hC4.c0; have c1 := hC4.c1; have c2 := hC4.c2
    clear hC4
    go_upto_region 5 with fail
    generalize w3.alloc (.cells #[.int .i64 N1, .int .i64 D1] 33) = W4 at *
    have hlt4 : w3.heap.size < W4.heap.size := by omega
    have HQ3 := Lib.hid (HQ2.out W4 bel4)
    clear hs4 HQ2
    go_wp2_with fail
    refine HQ3.out.mono ?_
    rintro e w5 ⟨rfl, hb5⟩
    have hs5 := hb5.size
    have T5 := Two.new w5 N1 D1 33
    have bel6 : Below w2.heap.size w2 (w5.alloc (.cells #[.int .i64 N1, .int .i64 D1] 33)) := (stepB0 bel4 hb5).alloc (Nat.le_trans bel4.size hs5) _
    have T6 := (T3.below hb5 hlt4).below ((Below.refl w5.heap.size w5).alloc (Nat.le_refl _) (.cells #[.int .i64 N1, .int .i64 D1] 33)) (by omega)
    have hs6 : (w5.alloc (.cells #[.int .i64 N1, .int .i64 D1] 33)).heap.size = w5.heap.size + 1 := by simp
    have hC6 := HC2.out.below bel6 hlt2
    clear HQ3 c0 c1 c2 T3
    have c0 := hC6.c0; have c1 := hC6.c1; have c2 := hC6.c2
    clear hC6
    go_upto_region 6 with fail
    generalize w5.alloc (.cells #[.int .i64 N1, .int .i64 D1] 33) = W6 at *
    have hlt6 : w5.heap.size < W6.heap.size := by omega
    have HI3 := Lib.hid (HI1.out W6 bel6)
    clear hs6 HI1
    go_wp2_with fail
    refine HI3.out.mono ?_
    rintro e w7 ⟨rfl, hb7⟩
    have bel7 := stepB0 bel6 hb7
    have T7 := T5.below hb7 hlt6
    have T8 := T6.below hb7 (by omega)
    have hs7 := hb7.size
    have HI4 := Lib.hid (HI2.out w7 bel7)
    have hC7 := HC2.out.below bel7 hlt2
    clear HI3 HI2 c0 c1 c2 T5 T6
    have c0 := hC7.c0; have c1 := hC7.c1; have c2 := hC7.c2
    clear hC7
    go_wp2_with fail
    refine HI4.out.mono ?_
    rintro e w8 ⟨rfl, hb8⟩
    have bel8 := stepB0 bel7 hb8
    have T9 := T7.below hb8 (by omega)
    have T10 := T8.below hb8 (by omega)
    have e0 := T9.c0; have e1' := T9.c1; have e2 := T10.c0; have e3 := T10.c1
    have q1 : ∀ w, (binOp .eql 33 (.agg #[.int .i64 N1, .int .i64 D1]) (.agg #[.int .i64 N1, .int .i64 D1])).run Try.prog w = .ok (.bool true) w := fun w => by simpa using frac_eq N1 D1 N1 D1 w
    clear T7 T8 T9 T10 HI4 c0 c1 c2
    go_upto_region 8 with fail
    go_wp2_with fail
    refine (works_any _).mono ?_
    rintro e w9 ⟨rfl, hb9⟩
    go_wp2_with fail
    go_ret
    exact ⟨rfl, stepB0 (stepB0 bel2 bel8) hb9⟩
end Go.Proofs.Ytemcilmefknbbaa
