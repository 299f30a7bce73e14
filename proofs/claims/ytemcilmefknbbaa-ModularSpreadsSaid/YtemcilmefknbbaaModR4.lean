/- The document's ratio, Quality, moved, gain, Gain. No conditions but that numbers are small. -/
import Derived.Test.YtemcilmefknbbaaModR3
import Derived.Test.YtemcilmefknbbaaModRR
import Derived.Test.YtemcilmefknbbaaModBk
namespace Go.Proofs.Ytemcilmefknbbaa
open Go.RowKit Go.Shelf

set_option maxRecDepth 100000 in
set_option maxHeartbeats 2000000 in
theorem rrat_any (B : Nat) (v : Value) (n : Nat) (E : List Ed) (x : Int) (w : World) (h : RG w B v (some (n, E))) (hB : B ≤ w.heap.size) (h0 : -1099511627776 ≤ x) (h1 : x ≤ 1099511627776) :
    Calls Try.prog 35 #[v, .int .i64 x] w fun e w' => e = .returned (.agg #[.int .i64 (frN E.length x), .int .i64 (frD E.length x)]) ∧ Below w.heap.size w w' := by
  have hb1 : Below w.heap.size w (w.alloc (.cells #[.int .i64 0, .int .i64 0] 33)) := (Below.refl _ _).alloc (Nat.le_refl _) _
  have hs1 : (w.alloc (.cells #[.int .i64 0, .int .i64 0] 33)).heap.size = w.heap.size + 1 := by simp
  have HE := Lib.hid (redges_any B v (some (n, E)) _ (h.below (hb1.mono hB)) (by omega))
  have T1 := Two.new w 0 0 33
  have hml : E.length ≤ 16384 := by obtain ⟨b, _, h1⟩ := h; exact h1.ok.m_le
  clear h
  go_enter Try.func35, Try.ntmps35
  go_wp2_with fail
  generalize w.alloc (.cells #[.int .i64 0, .int .i64 0] 33) = W1 at *
  refine HE.out.mono ?_
  rintro e w2 ⟨a, cap, A, rfl, -, hb2⟩
  simp only [gE]
  have hbel := stepB0 hb1 hb2
  have T2 := T1.below hb2 (by omega)
  have hlt2 : w.heap.size < w2.heap.size := by have := hb2.size; omega
  clear HE T1
  by_cases hz : E.length = 0
  · have HN := Lib.hid (show frN E.length x = 0 ∧ frD E.length x = 1 by rw [frN, frD, if_pos hz, if_pos hz]; exact ⟨rfl, rfl⟩)
    have hq : ((E.length : Int) == 0) = true := by rw [hz]; rfl
    have c0 := T2.c0; have c1 := T2.c1; have z := T2.z
    have T3 := T2.put 0 1
    have d0 := T3.c0; have d1 := T3.c1
    clear T2 T3 hz
    go_wp2_with fail
    exact bodyPost_ret (v := .agg #[.int .i64 0, .int .i64 1]) (by simp [results, Try.results35, go_sem, d0, d1]) rfl ⟨by rw [HN.out.1, HN.out.2], (hbel.setCell (p := ⟨w.heap.size, 0, none⟩) (Nat.le_refl _) _).setCell (p := ⟨w.heap.size, 1, none⟩) (Nat.le_refl _) _⟩
  · have hq : ((E.length : Int) == 0) = false := by simp; intro c; exact hz (by rw [c]; rfl)
    have HN := Lib.hid (show frN E.length x = rN x (4 * (E.length : Int) * (E.length : Int)) from if_neg hz)
    have HD := Lib.hid (show frD E.length x = rD x (4 * (E.length : Int) * (E.length : Int)) from if_neg hz)
    have h4 : (4 : Int) ≤ 4 * (E.length : Int) ∧ 4 * (E.length : Int) ≤ 65536 := by omega
    have h5 : 0 < 4 * (E.length : Int) * (E.length : Int) ∧ 4 * (E.length : Int) * (E.length : Int) ≤ 1099511627776 := by
      refine ⟨Int.mul_pos (by omega) (by omega), ?_⟩
      exact Int.le_trans (Int.mul_le_mul h4.2 (show (E.length : Int) ≤ 16384 by omega) (by omega) (by omega)) (by decide)
    have w1 : IntKind.i64.wrap (4 * (E.length : Int)) = 4 * (E.length : Int) := IntWalk.i64_in _ (by omega)
    have w2' : IntKind.i64.wrap (4 * (E.length : Int) * (E.length : Int)) = 4 * (E.length : Int) * (E.length : Int) := IntWalk.i64_in _ (by omega)
    have HC := Lib.hid (rreduce_any x (4 * (E.length : Int) * (E.length : Int)) w2 h0 h1 h5.1 h5.2)
    clear hz
    go_wp2_with fail
    refine HC.out.mono ?_
    rintro e w3 ⟨rfl, hb3⟩
    generalize rN x (4 * (E.length : Int) * (E.length : Int)) = p at *
    generalize rD x (4 * (E.length : Int) * (E.length : Int)) = q at *
    have T3 := T2.below hb3 hlt2
    have bel3 := stepB0 hbel hb3
    have hlt3 := T3.lt
    have T4 := T3.below ((Below.refl w3.heap.size w3).alloc (Nat.le_refl _) (.cells #[.int .i64 p, .int .i64 q] 33)) hlt3
    have c0 := T4.c0; have c1 := T4.c1; have z := T4.z
    have T5 := T4.put p q
    have d0 := T5.c0; have d1 := T5.c1
    have bel4 : Below w.heap.size w (w3.alloc (.cells #[.int .i64 p, .int .i64 q] 33)) := bel3.alloc bel3.size _
    have T6 := Two.new w3 p q 33
    have e0 := T6.c0; have e1 := T6.c1
    have hs4 : (w3.alloc (.cells #[.int .i64 p, .int .i64 q] 33)).heap.size = w3.heap.size + 1 := by simp
    clear T2 T3 T4 T5 T6 HC
    go_upto_region 5 with fail
    generalize w3.alloc (.cells #[.int .i64 p, .int .i64 q] 33) = W4 at *
    go_wp2_with fail
    exact bodyPost_ret (v := .agg #[.int .i64 p, .int .i64 q]) (by simp [results, Try.results35, go_sem, d0, d1]) rfl ⟨by rw [HN.out, HD.out], (bel4.setCell (p := ⟨w.heap.size, 0, none⟩) (Nat.le_refl _) _).setCell (p := ⟨w.heap.size, 1, none⟩) (Nat.le_refl _) _⟩

set_option maxRecDepth 100000 in
set_option maxHeartbeats 2000000 in
theorem rquality_any (B : Nat) (v : Value) (o : Option (Nat × List Ed)) (la : Option Addr) (lc : Nat) (LA : Nat → Addr) (L : List Int) (w : World) (h : RG w B v o) (hL : Sl 23 .i64 w B (.slice la L.length lc) L LA) (hB : B ≤ w.heap.size) :
    Calls Try.prog 17 #[v, .slice la L.length lc] w fun e w' => e = .returned (.tuple #[.agg #[.int .i64 (qlN o L), .int .i64 (qlD o L)], .int .i64 (mErr o L.length)]) ∧ Below w.heap.size w w' := by
  have hb1 : Below w.heap.size w (w.alloc (.cells #[.int .i64 0, .int .i64 0] 33)) := (Below.refl _ _).alloc (Nat.le_refl _) _
  have hs1 : (w.alloc (.cells #[.int .i64 0, .int .i64 0] 33)).heap.size = w.heap.size + 1 := by simp
  have T1 := Two.new w 0 0 33
  have h1 := h.below (hb1.mono hB)
  have HW := Lib.hid (wrong_any B v o la L.length lc _ h1)
  by_cases hz : mErr o L.length = 0
  · obtain ⟨⟨n, E⟩, rfl, hn⟩ := mErr_zero hz
    have hn' : L.length = n := hn
    have G : GOk n E := by obtain ⟨b, _, h2⟩ := h; exact h2.ok
    have hx1 := num_hi E L
    have hx2 := num_lo G hn'
    have hx3 := mm_le G
    have HX := Lib.hid (show qlN (some (n, E)) L = frN E.length (num E L) ∧ qlD (some (n, E)) L = frD E.length (num E L) ∧ mErr (some (n, E)) L.length = 0 by rw [qlN, qlD, if_pos hz, if_pos hz]; exact ⟨rfl, rfl, hz⟩)
    have HM := Lib.hid (rnum_any B v n E la lc LA L _ h1 (hL.below (hb1.mono hB)) (by omega) hn')
    have HR := Lib.hid (fun W (hW : Below w.heap.size w W) => rrat_any B v n E (num E L) W (h.below (hW.mono hB)) (Nat.le_trans hB hW.size) (by omega) (by omega))
    rw [hz] at HW
    generalize num E L = x at *
    clear hz hn hn' hx1 hx2 hx3 h1 h hL
    go_enter Try.func17, Try.ntmps17
    go_wp2_with fail
    generalize w.alloc (.cells #[.int .i64 0, .int .i64 0] 33) = W1 at *
    refine HW.out.mono ?_
    rintro e w1 ⟨rfl, rfl⟩
    go_wp2_with fail
    refine HM.out.mono ?_
    rintro e w2 ⟨rfl, hb2⟩
    have bel2 := stepB0 hb1 hb2
    have T2 := T1.below hb2 (by omega)
    go_wp2_with fail
    refine (HR.out _ bel2).mono ?_
    rintro e w3 ⟨rfl, hb3⟩
    have T3 := T2.below hb3 T2.lt
    have bel3 := stepB0 bel2 hb3
    generalize frN E.length x = p at *
    generalize frD E.length x = q at *
    have c0 := T3.c0; have c1 := T3.c1; have z := T3.z
    have T4 := T3.put p q
    have d0 := T4.c0; have d1 := T4.c1
    clear T1 T2 T3 T4 HM HR HW
    go_wp2_with fail
    exact bodyPost_ret (v := .tuple #[.agg #[.int .i64 p, .int .i64 q], .int .i64 0]) (by simp [results, Try.results17, go_sem, d0, d1]) rfl ⟨by rw [HX.out.1, HX.out.2.1, HX.out.2.2], (bel3.setCell (p := ⟨w.heap.size, 0, none⟩) (Nat.le_refl _) _).setCell (p := ⟨w.heap.size, 1, none⟩) (Nat.le_refl _) _⟩
  · have HX := Lib.hid (show qlN o L = 0 ∧ qlD o L = 0 by rw [qlN, qlD, if_neg hz, if_neg hz]; exact ⟨rfl, rfl⟩)
    obtain ⟨ee, hee⟩ : ∃ ee, mErr o L.length = ee := ⟨_, rfl⟩
    rw [hee] at HW hz
    have hb : (ee != 0) = true := by simpa using hz
    have HE2 := Lib.hid hee
    have c0 := T1.c0; have c1 := T1.c1; have z := T1.z
    have T4 := T1.put 0 0
    have d0 := T4.c0; have d1 := T4.c1
    clear hz hee h hL h1 T1 T4
    go_enter Try.func17, Try.ntmps17
    go_wp2_with fail
    generalize w.alloc (.cells #[.int .i64 0, .int .i64 0] 33) = W1 at *
    refine HW.out.mono ?_
    rintro e w1 ⟨rfl, rfl⟩
    go_wp2_with fail
    exact bodyPost_ret (v := .tuple #[.agg #[.int .i64 0, .int .i64 0], .int .i64 ee]) (by simp [results, Try.results17, go_sem, d0, d1]) rfl ⟨by rw [HX.out.1, HX.out.2, HE2.out], (hb1.setCell (p := ⟨w.heap.size, 0, none⟩) (Nat.le_refl _) _).setCell (p := ⟨w.heap.size, 1, none⟩) (Nat.le_refl _) _⟩
end Go.Proofs.Ytemcilmefknbbaa
