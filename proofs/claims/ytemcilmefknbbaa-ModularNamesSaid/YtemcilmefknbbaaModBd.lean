/- The walk of the law ModularBounds: the bounds of the modularity; all vertices in one class. No conditions. -/
import Derived.Test.YtemcilmefknbbaaModSt
namespace Go.Proofs.Ytemcilmefknbbaa
open Go.RowKit Go.Shelf

/-- numbers that the call owns, as a slice -/
theorem own_sl {w : World} {base : Nat} {v : Value} {L : List Int} (h : w.ownsRow base 3 1 v L.length (L.map (Value.int .i64))) : ∃ a cap A, v = .slice a L.length cap ∧ Sl 23 .i64 w w.heap.size v L A := by
  rw [← flat_nums] at h
  exact Rd.own etI h
theorem rep_nth {k : Nat} {t : Int} (i : Nat) (h : i < k) : nth (List.replicate k t) i = t := by
  rw [nth_eq (by rw [List.length_replicate]; exact h), List.getElem_replicate]

set_option maxRecDepth 100000 in
set_option maxHeartbeats 4000000 in
theorem bounds_walk (n : Int) (a : Option Addr) (c : Nat) (E : List Ed) (la : Option Addr) (lc : Nat) (L : List Int) (t : Int) (w : World) (hS : CS w w.heap.size a c E la lc L) (ht : (Lit.int .i64 t).wf = true) :
    Calls Try.prog 5 #[.agg #[.int .i64 n, .slice a E.length c, .slice la L.length lc], .int .i64 t] w fun e w' => e = .returned (.bool true) ∧ Below w.heap.size w w' := by
  have hC := CB.new w n a E.length c la L.length lc 25
  have hb : Below w.heap.size w (w.alloc (.cells #[.int .i64 n, .slice a E.length c, .slice la L.length lc] 25)) := (Below.refl _ _).alloc (Nat.le_refl _) _
  have hs : (w.alloc (.cells #[.int .i64 n, .slice a E.length c, .slice la L.length lc] 25)).heap.size = w.heap.size + 1 := by simp
  have HF := Lib.hid (fits_any w.heap.size n a c E la lc L _ (hS.below hb) (by omega))
  have HC := Lib.hid hC
  have HS := Lib.hid (hS.below hb)
  have c0 := hC.c0; have c1 := hC.c1; have c2 := hC.c2
  clear hC hS
  go_enter Try.func5, Try.ntmps5
  go_wp2_with fail
  refine HF.out.mono ?_
  clear HF
  generalize w.alloc (.cells #[.int .i64 n, .slice a E.length c, .slice la L.length lc] 25) = W0 at *
  clear c0 c1 c2
  rintro e w1 ⟨p, rfl, hG, hb1⟩
  have hC1 := HC.out.below hb1 (by omega)
  have c0 := hC1.c0; have c1 := hC1.c1; have c2 := hC1.c2
  have bel1 : Below w.heap.size w w1 := hb.trans (hb1.mono (by omega))
  have hsz1 : w.heap.size + 1 ≤ w1.heap.size := by have := hb1.size; omega
  have HG := Lib.hid hG
  clear hC1 hG
  cases hf : fitB n E L with
  | false =>
    go_wp2_with fail
    refine (works_any _).mono ?_
    rintro e w2 ⟨rfl, hb2⟩
    go_wp2_with fail
    go_ret
    exact ⟨rfl, stepB0 bel1 hb2⟩
  | true =>
    obtain ⟨k, rfl, G, hk⟩ := fit_true hf
    have HK := Lib.hid hk
    clear hf hk
    have hSm := Lib.hid (fun W => small_any k a E.length c la L.length lc 30 80 W (by omega))
    generalize hsb : decide ((k : Int) ≤ 30 ∧ (E.length : Int) ≤ 80 ∧ (L.length : Int) ≤ 30 + 1) = sb at *
    have hSw : CB w1 w.heap.size k (.slice a E.length c) (.slice la L.length lc) := ⟨c0, c1, c2⟩
    cases sb with
    | false =>
      go_wp2_with fail
      refine (hSm.out _).mono ?_
      rintro e w2 ⟨rfl, hb2⟩
      have bel2 := stepB0 bel1 hb2
      go_wp2_with fail
      refine (works_any _).mono ?_
      rintro e w3 ⟨rfl, hb3⟩
      go_wp2_with fail
      go_ret
      exact ⟨rfl, stepB0 bel2 hb3⟩
    | true =>
      go_wp2_with fail
      refine (hSm.out _).mono ?_
      rintro e w2 ⟨rfl, hb2⟩
      have hC2 := hSw.below hb2 hsz1
      have bel2 := stepB0 bel1 hb2
      have hk30 : k ≤ 30 ∧ E.length ≤ 80 := by simp at hsb; omega
      clear hSm hsb c0 c1 c2
      have c0 := hC2.c0; have c1 := hC2.c1; have c2 := hC2.c2
      have HGV := Lib.hid (show GV w2 w2.heap.size (.pointer p) (some (k, E)) by have := HG.out; rw [gO_some G] at this; exact (this.below hb2).mono hb2.size)
      have hCS2 := (HS.out.below (hb1.mono (by omega))).below (hb2.mono (by omega))
      obtain ⟨LA, hSl⟩ := hCS2.l
      obtain ⟨EA, hES⟩ := hCS2.e
      have hB2 : w.heap.size ≤ w2.heap.size := by have := hb2.size; omega
      have hlt2 : w.heap.size < w2.heap.size := by have := hb2.size; omega
      have HW := Lib.hid HS.out.wf
      have HSl := Lib.hid (hSl.mono hB2)
      have HES := Lib.hid (hES.mono hB2)
      have HQ1 := Lib.hid (quality_is w2.heap.size (.pointer p) k E la lc LA L w2 HGV.out HSl.out (Nat.le_refl _) HW.out HK.out)
      have hq1 := frN_lo (num_half G HK.out)
      have hq2 := frN_lt (m := E.length) (x := num E L) (fun hm => num_top G HK.out hm)
      have hq3 := frD_le G.m_le (num E L)
      have hq4 := frD_pos E.length (num E L)
      generalize frN E.length (num E L) = N1 at *
      generalize frD E.length (num E L) = D1 at *
      go_wp2_with fail
      refine HQ1.out.mono ?_
      rintro e w3 ⟨rfl, hb3⟩
      have T3 := Two.new w3 N1 D1 33
      have hb4 : Below w2.heap.size w2 (w3.alloc (.cells #[.int .i64 N1, .int .i64 D1] 33)) := hb3.alloc hb3.size _
      have hs4 : (w3.alloc (.cells #[.int .i64 N1, .int .i64 D1] 33)).heap.size = w3.heap.size + 1 := by simp
      clear c0 c1 c2 HQ1
      go_upto_region 5 with fail
      generalize w3.alloc (.cells #[.int .i64 N1, .int .i64 D1] 33) = W4 at *
      have hlt4 : w3.heap.size < W4.heap.size := by omega
      have hlt42 : w2.heap.size ≤ W4.heap.size := hb4.size
      clear hs4
      have HC4 := Lib.hid (hC2.below hb4 hlt2)
      go_wp2_with fail
      go_loopw [9, 10] (fun l i wr => ∃ q : Nat, q ≤ k ∧ i = .int .i64 q ∧ wr.ownsRow W4.heap.size 3 1 l q ((List.replicate q t).map (Value.int .i64)) ∧ Below W4.heap.size W4 wr) (fun _ i _ => k - (intOf i).toNat)
      case atStart => exact ⟨0, Nat.zero_le _, rfl, World.ownsRow_nil _ _ _ _, Below.refl _ _⟩
      case round =>
        obtain ⟨q, hq, rfl, hown, bel⟩ := hrel
        have hCr := HC4.out.below bel (by omega)
        have c0 := hCr.c0; have c1 := hCr.c1; have c2 := hCr.c2
        by_cases hlt : q < k
        · go_wp2_with (at_builtin; refine push etI rfl _ _ rfl W4.heap.size _ _ _ hown rfl #[.int .i64 t] _ rfl rfl rfl (by simp [Value.oneCell']) (by omega) (by omega) bel.size ?_; intro g cp w5 hown5 hg5 hv5)
          have hb5 : Below W4.heap.size wr w5 := (Below.refl _ wr).grown hg5 bel.size (fun j e => (hown.lt j e).1)
          go_roundw
          case rel => exact ⟨q + 1, by omega, by go_num, by rw [List.replicate_succ', List.map_append]; exact hown5, bel.trans hb5⟩
          case measure => simp only [intOf]; omega
        · have hqk : q = k := by omega
          have hown2 : wr.ownsRow W4.heap.size 3 1 u9 (List.replicate k t).length ((List.replicate k t).map (Value.int .i64)) := by rw [List.length_replicate, ← hqk]; exact hown
          have HL2 := Lib.hid (show (List.replicate k t).length = k from List.length_replicate)
          obtain ⟨ho1, ho2⟩ := num_one G HL2.out (fun i hi => rep_nth i hi)
          have HLW := Lib.hid (show LWf (List.replicate k t) from fun x hx => by rw [List.eq_of_mem_replicate hx]; exact ht)
          obtain ⟨fz1, fz2⟩ := fr_zero E.length
          obtain ⟨ar, cr, AR, rfl, hAR⟩ := own_sl hown2
          have HQ5 := Lib.hid (quality_is wr.heap.size (.pointer p) k E ar cr AR (List.replicate k t) wr (((HGV.out.below hb4).mono hlt42).below bel |>.mono bel.size) hAR (Nat.le_refl _) HLW.out HL2.out)
          have HI6 := Lib.hid (fun W (hW : Below wr.heap.size wr W) => inside_is wr.heap.size (.pointer p) k E ar cr AR (List.replicate k t) W ((((HGV.out.below hb4).mono hlt42).below bel |>.mono bel.size).below hW) (hAR.below hW) hW.size HL2.out)
          rw [ho1, fz1, fz2] at HQ5
          rw [ho2] at HI6
          have T4 := T3.below bel hlt4
          have belw : Below w2.heap.size w2 wr := stepB0 hb4 bel
          clear hown hown2 ho1 ho2 fz1 fz2 hAR
          generalize List.replicate k t = L2 at *
          go_wp2_with fail
          refine HQ5.out.mono ?_
          rintro e w6 ⟨rfl, hb6⟩
          have T6 := Two.new w6 0 1 33
          have hb7 : Below wr.heap.size wr (w6.alloc (.cells #[.int .i64 0, .int .i64 1] 33)) := hb6.alloc hb6.size _
          have hs7 : (w6.alloc (.cells #[.int .i64 0, .int .i64 1] 33)).heap.size = w6.heap.size + 1 := by simp
          have HI7 := Lib.hid (HI6.out _ hb7)
          clear HI6 HQ5 c0 c1 c2 hCr
          go_upto_region 11 with fail
          generalize w6.alloc (.cells #[.int .i64 0, .int .i64 1] 33) = W7 at *
          have hlt7 : w6.heap.size < W7.heap.size := by omega
          have hs6 := hb6.size
          go_wp2_with fail
          refine HI7.out.mono ?_
          rintro e w8 ⟨rfl, hb8⟩
          have T7 := T6.below hb8 hlt7
          have bel8 := stepB0 hb7 hb8
          have T8 := T4.below bel8 (by have := bel.size; omega)
          have hC8 := HC4.out.below (bel.trans (bel8.mono bel.size)) (by omega)
          have bel9 := stepB0 belw bel8
          have e0 := T7.c0; have e1 := T7.c1; have e2 := T8.c0; have e3 := T8.c1
          have c0 := hC8.c0; have c1 := hC8.c1; have c2 := hC8.c2
          have q1 : ∀ w, (binOp .eql 33 (.agg #[.int .i64 0, .int .i64 1]) (.agg #[.int .i64 0, .int .i64 1])).run Try.prog w = .ok (.bool true) w := fun w => by simpa using frac_eq 0 1 0 1 w
          have k1 : decide (D1 > 0) = true := decide_eq_true (by omega)
          have k2 : IntKind.i64.wrap (2 * N1) = 2 * N1 := IntWalk.i64_in _ (by omega)
          have k3 : IntKind.i64.wrap (-D1) = -D1 := IntWalk.i64_in _ (by omega)
          have k4 : decide (2 * N1 ≥ -D1) = true := decide_eq_true (by omega)
          have k5 : decide (N1 < D1) = true := decide_eq_true (by omega)
          clear T3 T4 T6 T7 T8 hC8 HI7
          go_upto_region 12 with fail
          go_wp2_with fail
          refine (works_any _).mono ?_
          rintro e w9 ⟨rfl, hb9⟩
          go_wp2_with fail
          go_ret
          exact ⟨rfl, stepB0 (stepB0 bel2 bel9) hb9⟩
end Go.Proofs.Ytemcilmefknbbaa
