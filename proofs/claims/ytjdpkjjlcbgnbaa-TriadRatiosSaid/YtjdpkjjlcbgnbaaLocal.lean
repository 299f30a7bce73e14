/- The walks of Local and Global of package triad. Conditions: the graph was made by New, or it is nil or zero. -/
import Derived.Test.YtjdpkjjlcbgnbaaQuery
namespace Go.Proofs.Ytjdpkjjlcbgnbaa
open Go.RowKit Go.Shelf

theorem atS_le {o : Option (Nat × List Ed)} (h : GoG o) (v : Int) : atS o v ≤ 16777216 := by
  have h1 := atTo_le o v (Nat.le_refl _)
  have h2 : (nbr o v).length * gN o ≤ 4096 * 4096 := Nat.mul_le_mul (by have := nbr_len o v; have := h.n_le; omega) h.n_le
  unfold atS; omega
theorem GV.ptr {w : World} {B : Nat} {v : Value} {o : Option (Nat × List Ed)} (h : GV w B v o) : ∃ p, v = .pointer p := by
  cases o with
  | some x => obtain ⟨b, rfl, _⟩ := h; exact ⟨_, rfl⟩
  | none => rcases h with rfl | ⟨b, rfl, _⟩ <;> exact ⟨_, rfl⟩
/-- a box of two numbers -/
structure Two (w : World) (b : Nat) (x y : Int) : Prop where
  c0 : w.cell? ⟨b, 0, none⟩ = some (.int .i64 x)
  c1 : w.cell? ⟨b, 1, none⟩ = some (.int .i64 y)
  z : ∀ j : Nat, w.frozen? ⟨b, j, none⟩ = false
theorem Two.new (w : World) (x y : Int) (t : TypeId) : Two (w.alloc (.cells #[.int .i64 x, .int .i64 y] t)) w.heap.size x y :=
  ⟨by go_simp, by go_simp, fun j => by go_simp⟩
theorem Two.below {w w' : World} {b B : Nat} {x y : Int} (h : Two w b x y) (hb : Below B w w') (hB : b < B) : Two w' b x y :=
  ⟨(hb.cell hB).trans h.c0, (hb.cell hB).trans h.c1, fun j => (hb.frozen hB).trans (h.z j)⟩

/-- what Local answers -/
def lcE (o : Option (Nat × List Ed)) (v : Int) : Int := if o.isSome then (if gHas o v then 0 else 3) else 1
def lcN (o : Option (Nat × List Ed)) (v : Int) : Int := if gHas o v then raN ((atS o v : Nat) / 2) (pr (nbr o v).length) else 0
def lcD (o : Option (Nat × List Ed)) (v : Int) : Int := if gHas o v then raD ((atS o v : Nat) / 2) (pr (nbr o v).length) else 0

set_option maxRecDepth 100000 in
set_option maxHeartbeats 1000000 in
theorem local_any (B : Nat) (g : Option Addr) (o : Option (Nat × List Ed)) (v : Int) (w : World) (hg : GV w B (.pointer g) o) (hB : B ≤ w.heap.size) :
    Calls Try.prog 19 #[.pointer g, .int .i64 v] w fun e w' => e = .returned (.tuple #[.agg #[.int .i64 (lcN o v), .int .i64 (lcD o v)], .int .i64 (lcE o v)]) ∧ Below w.heap.size w w' := by
  have hG := hg.good
  have hgn := hG.n_le
  have hb1 : Below w.heap.size w (w.alloc (.cells #[.int .i64 0, .int .i64 0] 35)) := (Below.refl _ _).alloc (Nat.le_refl _) _
  have T1 := Two.new w 0 0 35
  have hg1 := hg.below (hb1.mono hB)
  have hs1 : (w.alloc (.cells #[.int .i64 0, .int .i64 0] 35)).heap.size = w.heap.size + 1 := by simp
  have hV := Lib.hid (tvalid_any B (.pointer g) o _ hg1)
  have hN := Lib.hid (n_any B (.pointer g) o _ hg1)
  by_cases hh : gHas o v = true
  · obtain ⟨x, rfl, hx⟩ := gHas_iff.1 hh
    obtain ⟨y, rfl⟩ : ∃ y, o = some y := by
      cases o with
      | some y => exact ⟨y, rfl⟩
      | none => exact absurd hx (Nat.not_lt_zero _)
    have HE := Lib.hid (show lcE (some y) (x : Int) = 0 by simp only [lcE, Option.isSome_some, if_true, hh])
    have HN := Lib.hid (show lcN (some y) (x : Int) = raN ((atS (some y) (x : Int) : Nat) / 2) (pr (nbr (some y) (x : Int)).length) by rw [lcN, if_pos hh])
    have HD := Lib.hid (show lcD (some y) (x : Int) = raD ((atS (some y) (x : Int) : Nat) / 2) (pr (nbr (some y) (x : Int)).length) by rw [lcD, if_pos hh])
    have ha := atS_le hG (x : Int)
    have hxi : (0 : Int) ≤ x ∧ (x : Int) < gN (some y) := by omega
    have hnl := nbr_len (some y) (x : Int)
    have hp := pr_le (n := (nbr (some y) (x : Int)).length) (by omega)
    simp only [Option.isSome_some] at hV
    clear hh
    go_enter Try.func19, Try.ntmps19
    go_wp2_with fail
    refine hV.out.mono ?_
    rintro e w' ⟨rfl, rfl⟩
    go_wp2_with fail
    refine hN.out.mono ?_
    rintro e w' ⟨rfl, rfl⟩
    go_wp2_with fail
    refine (at_count B g _ _ _ hg1 (by omega)).mono ?_
    rintro e w2 ⟨rfl, hb2⟩
    have T2 := T1.below hb2 (by omega)
    have hg2 := hg1.below (hb2.mono (by omega))
    have bel2 := hb1.trans (hb2.mono (by omega))
    have hs2 := hb2.size
    clear T1 hg1 hb2 hV hN hb1
    go_wp2_with fail
    refine (nbr_any B g _ _ w2 hg2 (by omega)).mono ?_
    rintro e w3 h3
    obtain ⟨a, cap, rfl, -, hb3⟩ := h3.rt
    have T3 := T2.below hb3 (by omega)
    have bel3 := bel2.trans (hb3.mono (by omega))
    have hs3 := hb3.size
    clear T2 bel2 hb3 h3 hg2
    go_wp2_with fail
    refine (pairs_any _ _ (by omega)).mono ?_
    rintro e w' ⟨rfl, rfl⟩
    go_wp2_with fail
    refine (ratio_any _ _ _ (by omega) (by omega) hp.1 (by omega)).mono ?_
    rintro e w4 ⟨rfl, hb4⟩
    have T4 := T3.below hb4 (by omega)
    have bel4 := bel3.trans (hb4.mono (by omega))
    have c0 := T4.c0; have c1 := T4.c1; have z := T4.z
    clear T3 T4 bel3 hb4
    go_wp2_with fail
    exact bodyPost_ret (v := .tuple #[.agg #[.int .i64 (raN ((atS (some y) (x : Int) : Nat) / 2) (pr (nbr (some y) (x : Int)).length)), .int .i64 (raD ((atS (some y) (x : Int) : Nat) / 2) (pr (nbr (some y) (x : Int)).length))], .int .i64 0]) (by simp [results, Try.results19, go_sem, c0, c1]) rfl ⟨by rw [HN.out, HD.out, HE.out], (bel4.setCell (p := ⟨w.heap.size, 0, none⟩) (Nat.le_refl _) _).setCell (p := ⟨w.heap.size, 1, none⟩) (Nat.le_refl _) _⟩
  · have hh : gHas o v = false := by simpa using hh
    have HN := Lib.hid (show lcN o v = 0 by rw [lcN, hh]; rfl)
    have HD := Lib.hid (show lcD o v = 0 by rw [lcD, hh]; rfl)
    cases o with
    | none =>
      have HE := Lib.hid (show lcE none v = 1 from rfl)
      simp only [Option.isSome_none] at hV
      clear hh hG
      go_enter Try.func19, Try.ntmps19
      go_wp2_with fail
      refine hV.out.mono ?_
      rintro e w' ⟨rfl, rfl⟩
      go_wp2_with fail
      exact bodyPost_ret (v := .tuple #[.agg #[.int .i64 0, .int .i64 0], .int .i64 1]) (by simp [results, Try.results19, go_sem]) rfl ⟨by rw [HN.out, HD.out, HE.out], hb1⟩
    | some y =>
      have HE := Lib.hid (show lcE (some y) v = 3 by simp only [lcE, Option.isSome_some, if_true, hh, Bool.false_eq_true, if_false])
      simp only [Option.isSome_some] at hV
      have hr : v < 0 ∨ gN (some y) ≤ v := by
        have : ¬ (0 ≤ v ∧ v < gN (some y)) := fun h => by rw [gHas_yes h] at hh; cases hh
        omega
      clear hh
      by_cases h0 : v < 0
      · go_enter Try.func19, Try.ntmps19
        go_wp2_with fail
        refine hV.out.mono ?_
        rintro e w' ⟨rfl, rfl⟩
        go_wp2_with fail
        exact bodyPost_ret (v := .tuple #[.agg #[.int .i64 0, .int .i64 0], .int .i64 3]) (by simp [results, Try.results19, go_sem]) rfl ⟨by rw [HN.out, HD.out, HE.out], hb1⟩
      · have h1 : gN (some y) ≤ v := by omega
        clear hr
        go_enter Try.func19, Try.ntmps19
        go_wp2_with fail
        refine hV.out.mono ?_
        rintro e w' ⟨rfl, rfl⟩
        go_wp2_with fail
        refine hN.out.mono ?_
        rintro e w' ⟨rfl, rfl⟩
        go_wp2_with fail
        exact bodyPost_ret (v := .tuple #[.agg #[.int .i64 0, .int .i64 0], .int .i64 3]) (by simp [results, Try.results19, go_sem]) rfl ⟨by rw [HN.out, HD.out, HE.out], hb1⟩

/-- the pairs of neighbours of the first vertices -/
def prTo (o : Option (Nat × List Ed)) : Nat → Int
  | 0 => 0
  | k + 1 => prTo o k + pr (nbr o (k : Int)).length
theorem prTo_bd {o : Option (Nat × List Ed)} (h : GoG o) (k : Nat) : 0 ≤ prTo o k ∧ prTo o k ≤ k * 8388608 := by
  induction k with
  | zero => simp [prTo]
  | succ k ih =>
    have h1 := h.n_le
    have := pr_le (n := (nbr o (k : Int)).length) (by have := nbr_len o (k : Int); omega)
    simp only [prTo]; omega
/-- what Global answers -/
def glE (o : Option (Nat × List Ed)) : Int := if o.isSome then 0 else 1
def glN (o : Option (Nat × List Ed)) : Int := if o.isSome then raN (3 * (tri o).length) (prTo o (gN o)) else 0
def glD (o : Option (Nat × List Ed)) : Int := if o.isSome then raD (3 * (tri o).length) (prTo o (gN o)) else 0

set_option maxRecDepth 100000 in
set_option maxHeartbeats 1000000 in
theorem global_any (B : Nat) (g : Option Addr) (o : Option (Nat × List Ed)) (w : World) (hg : GV w B (.pointer g) o) (hB : B ≤ w.heap.size) :
    Calls Try.prog 21 #[.pointer g] w fun e w' => e = .returned (.tuple #[.agg #[.int .i64 (glN o), .int .i64 (glD o)], .int .i64 (glE o)]) ∧ Below w.heap.size w w' := by
  have hG := hg.good
  have hgn := hG.n_le
  have hb1 : Below w.heap.size w (w.alloc (.cells #[.int .i64 0, .int .i64 0] 35)) := (Below.refl _ _).alloc (Nat.le_refl _) _
  have T1 := Two.new w 0 0 35
  have hg1 := hg.below (hb1.mono hB)
  have hs1 : (w.alloc (.cells #[.int .i64 0, .int .i64 0] 35)).heap.size = w.heap.size + 1 := by simp
  have hV := Lib.hid (tvalid_any B (.pointer g) o _ hg1)
  have hN := Lib.hid (n_any B (.pointer g) o _ hg1)
  cases o with
  | none =>
    have HN := Lib.hid (show glN none = 0 from rfl)
    have HD := Lib.hid (show glD none = 0 from rfl)
    have HE := Lib.hid (show glE none = 1 from rfl)
    simp only [Option.isSome_none] at hV
    clear hG
    go_enter Try.func21, Try.ntmps21
    go_wp2_with fail
    refine hV.out.mono ?_
    rintro e w' ⟨rfl, rfl⟩
    go_wp2_with fail
    exact bodyPost_ret (v := .tuple #[.agg #[.int .i64 0, .int .i64 0], .int .i64 1]) (by simp [results, Try.results21, go_sem]) rfl ⟨by rw [HN.out, HD.out, HE.out], hb1⟩
  | some y =>
    have HN := Lib.hid (show glN (some y) = raN (3 * (tri (some y)).length) (prTo (some y) (gN (some y))) from rfl)
    have HD := Lib.hid (show glD (some y) = raD (3 * (tri (some y)).length) (prTo (some y) (gN (some y))) from rfl)
    have HE := Lib.hid (show glE (some y) = 0 from rfl)
    have htl := tri_len hG
    simp only [Option.isSome_some] at hV
    go_enter Try.func21, Try.ntmps21
    go_wp2_with fail
    refine hV.out.mono ?_
    rintro e w' ⟨rfl, rfl⟩
    go_wp2_with fail
    refine hN.out.mono ?_
    rintro e w' ⟨rfl, rfl⟩
    go_wp2_with fail
    generalize (w.alloc (.cells #[.int .i64 0, .int .i64 0] 35)) = W1 at *
    go_loopw [4, 12] (fun t i wr => ∃ k : Nat, k ≤ gN (some y) ∧ i = .int .i64 k ∧ t = .int .i64 (prTo (some y) k) ∧ Two wr w.heap.size 0 0 ∧ Below W1.heap.size W1 wr) (fun _ i _ => gN (some y) - (intOf i).toNat)
    case atStart => exact ⟨0, Nat.zero_le _, rfl, rfl, T1, Below.refl _ _⟩
    case round =>
      clear T1
      obtain ⟨k, hk, rfl, rfl, T, bel⟩ := hrel
      have hp := prTo_bd hG k
      have hgr := hg1.below (bel.mono (by omega))
      have hsz := bel.size
      by_cases hlt : k < gN (some y)
      · have hnl := nbr_len (some y) (k : Int)
        have hp2 := pr_le (n := (nbr (some y) (k : Int)).length) (by omega)
        go_wp2_with fail
        refine (nbr_any B g _ _ wr hgr (by omega)).mono ?_
        rintro e w3 h3
        obtain ⟨a, cap, rfl, -, hb3⟩ := h3.rt
        have T3 := T.below hb3 (by omega)
        have bel3 := bel.trans (hb3.mono (by omega))
        clear T bel hb3 h3 hgr
        go_wp2_with fail
        refine (pairs_any _ _ (by omega)).mono ?_
        rintro e w' ⟨rfl, rfl⟩
        go_wp2_with fail
        go_roundw
        case rel => exact ⟨k + 1, by omega, by go_num, rfl, T3, bel3⟩
        case measure => simp only [intOf]; omega
      · obtain rfl : k = gN (some y) := by omega
        go_wp2_with fail
        refine (count_any B g _ wr hgr (by omega)).mono ?_
        rintro e w3 ⟨rfl, hb3⟩
        have T3 := T.below hb3 (by omega)
        have bel3 := bel.trans (hb3.mono (by omega))
        have hs3 := hb3.size
        clear T bel hb3 hgr
        go_wp2_with fail
        refine (ratio_any _ _ _ (by omega) (by omega) hp.1 (by omega)).mono ?_
        rintro e w4 ⟨rfl, hb4⟩
        have T4 := T3.below hb4 (by omega)
        have bel4 := hb1.trans ((bel3.trans (hb4.mono (by omega))).mono (by omega))
        have c0 := T4.c0; have c1 := T4.c1; have z := T4.z
        clear T3 T4 bel3 hb4
        go_wp2_with fail
        exact bodyPost_ret (v := .tuple #[.agg #[.int .i64 (raN (3 * (tri (some y)).length) (prTo (some y) (gN (some y)))), .int .i64 (raD (3 * (tri (some y)).length) (prTo (some y) (gN (some y))))], .int .i64 0]) (by simp [results, Try.results21, go_sem, c0, c1]) rfl ⟨by rw [HN.out, HD.out, HE.out], (bel4.setCell (p := ⟨w.heap.size, 0, none⟩) (Nat.le_refl _) _).setCell (p := ⟨w.heap.size, 1, none⟩) (Nat.le_refl _) _⟩
end Go.Proofs.Ytjdpkjjlcbgnbaa
