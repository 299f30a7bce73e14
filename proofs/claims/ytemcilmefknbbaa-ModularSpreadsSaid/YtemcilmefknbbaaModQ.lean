/- The walks of fraction and Quality of package modular. Conditions: the graph was made by New, or it is nil or zero; labels are given as cells, and are numbers of Go's int. -/
import Derived.Test.YtemcilmefknbbaaModS
import Derived.Deep.RegionHeld3
import Derived.Maps.RangeWalk
namespace Go.Proofs.Ytemcilmefknbbaa
open Go.RowKit Go.Shelf Go.Maps

/-- a box of two numbers -/
structure Two (w : World) (b : Nat) (x y : Int) : Prop where
  c0 : w.cell? ⟨b, 0, none⟩ = some (.int .i64 x)
  c1 : w.cell? ⟨b, 1, none⟩ = some (.int .i64 y)
  z : ∀ j : Nat, w.frozen? ⟨b, j, none⟩ = false
theorem Two.new (w : World) (x y : Int) (t : TypeId) : Two (w.alloc (.cells #[.int .i64 x, .int .i64 y] t)) w.heap.size x y :=
  ⟨by go_simp, by go_simp, fun j => by go_simp⟩
theorem Two.below {w w' : World} {b B : Nat} {x y : Int} (h : Two w b x y) (hb : Below B w w') (hB : b < B) : Two w' b x y :=
  ⟨(hb.cell hB).trans h.c0, (hb.cell hB).trans h.c1, fun j => (hb.frozen hB).trans (h.z j)⟩
theorem Two.put {w : World} {b : Nat} {x y : Int} (h : Two w b x y) (x' y' : Int) : Two ((w.setCell ⟨b, 0, none⟩ (.int .i64 x')).setCell ⟨b, 1, none⟩ (.int .i64 y')) b x' y' := by
  have c0 := h.c0; have c1 := h.c1; have hz := h.z
  exact ⟨by go_simp, by go_simp, fun j => by have := hz j; go_simp⟩
theorem Two.lt {w : World} {b : Nat} {x y : Int} (h : Two w b x y) : b < w.heap.size := World.block_lt_of_cell? w ⟨b, 0, none⟩ h.c0
/-- a box of two numbers, whichever -/
def TT (b : Nat) (w : World) : Prop := ∃ x y, Two w b x y
/-- a numerator over 4 m m, in lowest terms -/
def frN (m : Nat) (x : Int) : Int := if m = 0 then 0 else rN x (4 * (m : Int) * (m : Int))
def frD (m : Nat) (x : Int) : Int := if m = 0 then 1 else rD x (4 * (m : Int) * (m : Int))
set_option maxRecDepth 100000 in
set_option maxHeartbeats 1000000 in
theorem fraction_any (base sb : Nat) (gv : Value) (L : List Int) (m : Nat) (N : Nat) (f : Int → Int) (x : Int) (w : World) (h : StAt w base sb gv L m N f) (hm : m ≤ 16384) (h0 : -1099511627776 ≤ x) (h1 : x ≤ 1099511627776) :
    Calls Try.prog 33 #[.pointer (some ⟨sb, 0, none⟩), .int .i64 x] w fun e w' => e = .returned (.tuple #[.agg #[.int .i64 (frN m x), .int .i64 (frD m x)], .int .i64 0]) ∧ Below w.heap.size w w' := by
  have hb1 : Below w.heap.size w (w.alloc (.cells #[.int .i64 0, .int .i64 0] 33)) := (Below.refl _ _).alloc (Nat.le_refl _) _
  have T1 := Two.new w 0 0 33
  have hs1 : (w.alloc (.cells #[.int .i64 0, .int .i64 0] 33)).heap.size = w.heap.size + 1 := by simp
  obtain ⟨la, lc, mb, D, hR, -⟩ := (h.below hb1).mem
  have c2 : (w.alloc (.cells #[.int .i64 0, .int .i64 0] 33)).cell? ⟨sb, 2, none⟩ = some (.int .i64 m) := hR.cell (i := 2) (by omega)
  have hlt0 := h.lt
  have c2w : w.cell? ⟨sb, 2, none⟩ = some (.int .i64 m) := (hb1.cell hlt0).symm.trans c2
  clear h hR
  by_cases hz : m = 0
  · subst hz
    go_enter Try.func33, Try.ntmps33
    go_wp2_with fail
    exact bodyPost_ret (v := .tuple #[.agg #[.int .i64 0, .int .i64 1], .int .i64 0]) (by simp [results, Try.results33, go_sem]) rfl ⟨rfl, (Below.refl _ _).alloc (Nat.le_refl _) _⟩
  · have hq : ((m : Int) == 0) = false := by simp; omega
    have h4 : (4 : Int) ≤ 4 * (m : Int) ∧ 4 * (m : Int) ≤ 65536 := by omega
    have h5 : 0 < 4 * (m : Int) * (m : Int) ∧ 4 * (m : Int) * (m : Int) ≤ 1099511627776 := by
      refine ⟨Int.mul_pos (by omega) (by omega), ?_⟩
      exact Int.le_trans (Int.mul_le_mul h4.2 (show (m : Int) ≤ 16384 by omega) (by omega) (by omega)) (by decide)
    have HN := Lib.hid (show frN m x = rN x (4 * (m : Int) * (m : Int)) from if_neg hz)
    have HD := Lib.hid (show frD m x = rD x (4 * (m : Int) * (m : Int)) from if_neg hz)
    have w1 : IntKind.i64.wrap (4 * (m : Int)) = 4 * (m : Int) := IntWalk.i64_in _ (by omega)
    have w2 : IntKind.i64.wrap (4 * (m : Int) * (m : Int)) = 4 * (m : Int) * (m : Int) := IntWalk.i64_in _ (by omega)
    have HC := Lib.hid (fun W => reduce_any x (4 * (m : Int) * (m : Int)) W h0 h1 h5.1 h5.2)
    clear hz
    go_enter Try.func33, Try.ntmps33
    go_wp2_with fail
    generalize w.alloc (.cells #[.int .i64 0, .int .i64 0] 33) = W1 at *
    have hlt1 : sb < w.heap.size := hlt0
    have TT1 : TT w.heap.size W1.drew := ⟨0, 0, T1.c0, T1.c1, T1.z⟩
    go_region_held3 (fun W => W.cell? ⟨sb, 2, none⟩ = some (.int .i64 m) ∧ Below w.heap.size w W ∧ TT w.heap.size W) (first | exact ⟨c2, hb1.drew, TT1⟩ | assumption | exact hS4 _ _) (first | (go_at_call 54; obtain ⟨k0, hB, xx, yy, hT⟩ := (by assumption : _ ∧ Below w.heap.size w _ ∧ TT w.heap.size _); have hsz := hT.lt; refine (HC.out _).mono ?_; rintro e w3 ⟨rfl, hb3⟩; have bel3 := stepB0 hB hb3; have T3 := hT.below hb3 hsz; have c0 := T3.c0; have c1 := T3.c1; have z := T3.z; have hS3 : w3.cell? ⟨sb, 2, none⟩ = some (.int .i64 m) ∧ Below w.heap.size w w3 ∧ TT w.heap.size w3 := ⟨(bel3.cell hlt1).trans c2w, bel3, _, _, T3⟩; have hS4 : ∀ x y, ((w3.setCell ⟨w.heap.size, 0, none⟩ (.int .i64 x)).setCell ⟨w.heap.size, 1, none⟩ (.int .i64 y)).cell? ⟨sb, 2, none⟩ = some (.int .i64 m) ∧ Below w.heap.size w ((w3.setCell ⟨w.heap.size, 0, none⟩ (.int .i64 x)).setCell ⟨w.heap.size, 1, none⟩ (.int .i64 y)) ∧ TT w.heap.size ((w3.setCell ⟨w.heap.size, 0, none⟩ (.int .i64 x)).setCell ⟨w.heap.size, 1, none⟩ (.int .i64 y)) := fun x y => ⟨((((bel3.setCell (p := ⟨w.heap.size, 0, none⟩) (Nat.le_refl _) _).setCell (p := ⟨w.heap.size, 1, none⟩) (Nat.le_refl _) _).cell hlt1)).trans c2w, (bel3.setCell (p := ⟨w.heap.size, 0, none⟩) (Nat.le_refl _) _).setCell (p := ⟨w.heap.size, 1, none⟩) (Nat.le_refl _) _, _, _, T3.put x y⟩))
    have T5 := T3.put (rN x (4 * (m : Int) * (m : Int))) (rD x (4 * (m : Int) * (m : Int)))
    have d0 := T5.c0; have d1 := T5.c1
    have bel5 := (hS4 (rN x (4 * (m : Int) * (m : Int))) (rD x (4 * (m : Int) * (m : Int)))).2.1
    clear hS4 hS3
    go_wp2_with fail
    exact bodyPost_ret (v := .tuple #[.agg #[.int .i64 (rN x (4 * (m : Int) * (m : Int))), .int .i64 (rD x (4 * (m : Int) * (m : Int)))], .int .i64 0]) (by simp [results, Try.results33, go_sem, d0, d1]) rfl ⟨by rw [HN.out, HD.out], bel5⟩

/-- the squares of the classes that are no longer to come -/
def sqL (E : List Ed) (L : List Int) (left : Lit → Bool) : Int := sumZ L.length fun u => if left (ky (nth L u)) then 0 else dgZ E u * dC E L (nth L u)
theorem sqL_start {E : List Ed} {L : List Int} {D : DataW Unit} (hA : MapA D (dC E L)) : sqL E L (Maps.has D) = 0 := by
  have : sqL E L (Maps.has D) = sumZ L.length fun _ => 0 := sumZ_congr fun u _ => by
    cases hh : Maps.has D (ky (nth L u)) with
    | true => rfl
    | false =>
      have e := i64D_inj ((atKey_of_not_has hh (i64D 0)).symm.trans (hA.at_ (nth L u)))
      simp [← e]
  rw [this, sumZ_zero]
theorem sqL_step {E : List Ed} {L : List Int} {left : Lit → Bool} {x : Int} (hx : left (ky x) = true) : sqL E L (fun z => left z && !z.sameKey (ky x)) = sqL E L left + dC E L x * dC E L x := by
  have e : sqL E L (fun z => left z && !z.sameKey (ky x)) = sumZ L.length fun u => (if left (ky (nth L u)) then 0 else dgZ E u * dC E L (nth L u)) + dC E L x * (if nth L u = x then dgZ E u else 0) := sumZ_congr fun u _ => by
    by_cases h : nth L u = x
    · rw [h]
      have : (ky x).sameKey (ky x) = true := by simp [Lit.sameKey]
      simp [this, hx, Int.mul_comm]
    · have : (ky (nth L u)).sameKey (ky x) = false := by simp [Lit.sameKey, h]
      simp [this, h]
  rw [e, sumZ_add, sumZ_mul]; rfl
theorem sqL_end {E : List Ed} {L : List Int} {left : Lit → Bool} (h : ∀ k, left k = false) : sqL E L left = sqS E L := sumZ_congr fun u _ => by rw [h]; rfl
theorem sqL_bd {n : Nat} {E : List Ed} (G : GOk n E) {L : List Int} (hL : L.length = n) (left : Lit → Bool) : 0 ≤ sqL E L left ∧ sqL E L left ≤ 1073741824 := by
  have h1 : ∀ u, 0 ≤ dgZ E u * dC E L (nth L u) := fun u => Int.mul_nonneg (dgZ_nonneg _ _) (dTo_nonneg _ _ _ _)
  refine ⟨sumZ_nonneg fun u _ => by have := h1 u; split <;> omega, ?_⟩
  have h2 : sqL E L left ≤ sqS E L := sumZ_le fun u _ => by have := h1 u; split <;> omega
  have h3 := sqS_le G hL
  have h4 := mm_le G
  have h5 : 2 * (E.length : Int) * (2 * (E.length : Int)) = 4 * (E.length : Int) * (E.length : Int) := by
    rw [← Int.mul_assoc, Int.mul_right_comm 2 (E.length : Int) 2]; simp
  omega
/-- what Quality answers -/
def qlN (o : Option (Nat × List Ed)) (L : List Int) : Int := if mErr o L.length = 0 then frN (gE o).length (num (gE o) L) else 0
def qlD (o : Option (Nat × List Ed)) (L : List Int) : Int := if mErr o L.length = 0 then frD (gE o).length (num (gE o) L) else 0

set_option maxRecDepth 100000 in
set_option maxHeartbeats 2000000 in
theorem quality_any (B : Nat) (v : Value) (o : Option (Nat × List Ed)) (la : Option Addr) (lc : Nat) (LA : Nat → Addr) (L : List Int) (w : World) (h : GV w B v o) (hL : Sl 23 .i64 w B (.slice la L.length lc) L LA) (hB : B ≤ w.heap.size) (hW : LWf L) :
    Calls Try.prog 16 #[v, .slice la L.length lc] w fun e w' => e = .returned (.tuple #[.agg #[.int .i64 (qlN o L), .int .i64 (qlD o L)], .int .i64 (mErr o L.length)]) ∧ Below w.heap.size w w' := by
  have hb1 : Below w.heap.size w (w.alloc (.cells #[.int .i64 0, .int .i64 0] 33)) := (Below.refl _ _).alloc (Nat.le_refl _) _
  have T1 := Two.new w 0 0 33
  have hs1 : (w.alloc (.cells #[.int .i64 0, .int .i64 0] 33)).heap.size = w.heap.size + 1 := by simp
  have hg := h.good
  have HI := Lib.hid (fun W (hb : Below w.heap.size w W) => inside_any B v o la lc LA L W (h.below (hb.mono hB)) (hL.below (hb.mono hB)) (Nat.le_trans hB hb.size))
  obtain ⟨p, rfl⟩ := h.ptr
  rcases mErr_cases o L.length with hz | hz
  · obtain ⟨⟨n, E⟩, rfl, hn⟩ := mErr_zero hz
    have G : GOk n E := hg
    have hml := G.m_le
    have HN := Lib.hid (show qlN (some (n, E)) L = frN E.length (num E L) by rw [qlN, if_pos hz]; rfl)
    have HD := Lib.hid (show qlD (some (n, E)) L = frD E.length (num E L) by rw [qlD, if_pos hz]; rfl)
    have HZ := Lib.hid hz
    have HX := Lib.hid (show insN (some (n, E)) L = (inN E L : Int) by rw [insN, if_pos hz]; rfl)
    have HB := Lib.hid (fun W (hb : Below w.heap.size w W) => begin_any B (.pointer p) n E la lc LA L W (h.below (hb.mono hB)) (hL.below (hb.mono hB)) (Nat.le_trans hB hb.size) hn hW)
    have HSB := Lib.hid (fun left => sqL_bd G hn left)
    have hil := inN_le E L
    have hmm := mm_le G
    have h4 : 0 ≤ 4 * (E.length : Int) * (inN E L : Int) ∧ 4 * (E.length : Int) * (inN E L : Int) ≤ 1073741824 :=
      ⟨Int.mul_nonneg (by omega) (by omega), Int.le_trans (Int.mul_le_mul_of_nonneg_left (show (inN E L : Int) ≤ E.length by omega) (by omega)) hmm⟩
    have HNum := Lib.hid (show 4 * (E.length : Int) * (inN E L : Int) - sqS E L = num E L from rfl)
    clear h hL hz hn hg hW
    go_enter Try.func16, Try.ntmps16
    go_wp2_with fail
    generalize w.alloc (.cells #[.int .i64 0, .int .i64 0] 33) = W1 at *
    refine (HI.out _ hb1).mono ?_
    rintro e w2 ⟨rfl, hb2⟩
    rw [HX.out, HZ.out]
    have T2 := T1.below hb2 (by omega)
    have bel2 := stepB0 hb1 hb2
    have hs2 := hb2.size
    clear T1 hb1 hb2 HI
    go_wp2_with fail
    refine (HB.out _ bel2).mono ?_
    rintro e w3 ⟨sb, rfl, hst, hb3⟩
    have T3 := T2.below hb3 (by omega)
    have bel3 := stepB0 bel2 hb3
    have hs3 := hb3.size
    obtain ⟨la2, lc2, mb, D, hR, hLR, hmb, hown, hD⟩ := hst.mem
    have c3 : w3.cell? ⟨sb, 3, none⟩ = some (.map (some mb)) := hR.cell (i := 3) (by omega)
    have HS := Lib.hid hst
    have hl0 := sqL_start hD.a
    have HA := Lib.hid hD.a
    clear T2 bel2 hb3 hst hR hLR hD HB
    go_wp2_with (at_range; refine wpList_range_own _ rfl _ 70 rfl 3 2 lawI Try.underlying70 _ mb n D rfl hown ?_; intro w0 hrg0 hg0 hs0)
    go_frame
    have bel0 : Below w3.heap.size w3 w0 := (Below.refl _ _).grown hg0 (Nat.le_refl _) (fun j e => by cases e)
    go_loopw [9] (fun s wr => ∃ left cnt, wr.ranges Try.prog 3 (plainElem (H := Unit) Try.prog 2) mb w3.heap.size n D left cnt ∧ s = .int .i64 (sqL E L left) ∧ Below w3.heap.size w3 wr) (fun _ wr => wr.rangeLeft mb w3.heap.size)
    case atStart => exact ⟨_, _, hrg0, by rw [hl0], bel0⟩
    case round =>
      clear hrg0 hl0 bel0
      obtain ⟨left, cnt, hrg, rfl, bel⟩ := hrel
      have hbd := HSB.out left
      go_wp2_with (at_next; refine wpList_next_ranges_ii _ rfl _ rfl 3 2 .i64 .i64 lawI Try.underlying3 Try.underlying2 mb w3.heap.size n D left cnt rfl hrg ?_ ?_)
      · intro hc0 hl0
        have he := sqL_end (E := E) (L := L) hl0
        have hst := HS.out.below bel
        obtain ⟨la3, lc3, mb3, D3, hR, -⟩ := hst.mem
        have c2 : wr.cell? ⟨sb, 2, none⟩ = some (.int .i64 (E.length : Nat)) := hR.cell (i := 2) (by omega)
        have HF := Lib.hid (fraction_any _ sb _ L E.length n (dC E L) (num E L) wr hst hml (by have := HNum.out; rw [← he] at this; omega) (by have := HNum.out; rw [← he] at this; omega))
        have T4 := T3.below bel (by omega)
        have bel4 := stepB0 bel3 bel
        have hsr := bel.size
        have HNum2 := Lib.hid (show 4 * (E.length : Int) * (inN E L : Int) - sqL E L left = num E L by rw [he]; exact HNum.out)
        clear hl0 he hR hst hrg bel T3 bel3
        generalize sqL E L left = q at *
        generalize (inN E L : Int) = I at *
        go_wp2_with fail
        rw [HNum2.out]
        refine HF.out.mono ?_
        rintro e w5 ⟨rfl, hb5⟩
        have T5 := T4.below hb5 (by omega)
        have bel5 := stepB0 bel4 hb5
        have c0 := T5.c0; have c1 := T5.c1; have z := T5.z
        have T6 := T5.put (frN E.length (num E L)) (frD E.length (num E L))
        have d0 := T6.c0; have d1 := T6.c1
        clear T4 T5 T6 bel4 hb5
        go_wp2_with fail
        exact bodyPost_ret (v := .tuple #[.agg #[.int .i64 (frN E.length (num E L)), .int .i64 (frD E.length (num E L))], .int .i64 0]) (by simp [results, Try.results16, go_sem, d0, d1]) rfl ⟨by rw [HN.out, HD.out, HZ.out], (bel5.setCell (p := ⟨w.heap.size, 0, none⟩) (Nat.le_refl _) _).setCell (p := ⟨w.heap.size, 1, none⟩) (Nat.le_refl _) _⟩
      · intro x c wn cnt1 hwx hwc hlx hat hrg1 hlt hg1 hs1 hen
        obtain rfl : c = dC E L x := i64D_inj ((hat (i64D 0)).symm.trans (HA.out.at_ x))
        have hst := sqL_step (E := E) (L := L) hlx
        have hb2 := HSB.out (fun z => left z && !z.sameKey (ky x))
        have HST := Lib.hid hst
        rw [hst] at hb2
        have bel1 : Below w3.heap.size w3 wn := bel.grown hg1 bel.size (fun j e => by cases e; exact Nat.le_refl _)
        have hcc : 0 ≤ dC E L x * dC E L x := Int.mul_nonneg (dTo_nonneg _ _ _ _) (dTo_nonneg _ _ _ _)
        have hl := hrg.left_eq
        have hl1 := hrg1.left_eq
        have HR1 := Lib.hid hrg1
        have HLt := Lib.hid (show wn.rangeLeft mb w3.heap.size < wr.rangeLeft mb w3.heap.size by rw [hl, hl1]; exact hlt)
        clear hst hat hlx hrg hrg1 hl hl1 hlt bel
        generalize dC E L x = c at *
        go_wp2_with fail
        go_roundw
        case rel => exact ⟨_, _, HR1.out, by rw [HST.out], bel1⟩
        case measure => exact HLt.out
  · have hzz : mErr o L.length ≠ 0 := by omega
    have HN := Lib.hid (show qlN o L = 0 by rw [qlN, if_neg hzz])
    have HD := Lib.hid (show qlD o L = 0 by rw [qlD, if_neg hzz])
    have hb : (mErr o L.length != 0) = true := by simpa using hzz
    rw [HN.out, HD.out]
    generalize mErr o L.length = ee at *
    clear h hL hz hzz
    go_enter Try.func16, Try.ntmps16
    go_wp2_with fail
    generalize w.alloc (.cells #[.int .i64 0, .int .i64 0] 33) = W1 at *
    refine (HI.out _ hb1).mono ?_
    rintro e w2 ⟨rfl, hb2⟩
    have T2 := T1.below hb2 (by omega)
    have bel2 := stepB0 hb1 hb2
    have c0 := T2.c0; have c1 := T2.c1; have z := T2.z
    have T3 := T2.put 0 0
    have d0 := T3.c0; have d1 := T3.c1
    go_wp2_with fail
    exact bodyPost_ret (v := .tuple #[.agg #[.int .i64 0, .int .i64 0], .int .i64 ee]) (by simp [results, Try.results16, go_sem, d0, d1]) rfl ⟨rfl, (bel2.setCell (p := ⟨w.heap.size, 0, none⟩) (Nat.le_refl _) _).setCell (p := ⟨w.heap.size, 1, none⟩) (Nat.le_refl _) _⟩
end Go.Proofs.Ytemcilmefknbbaa
