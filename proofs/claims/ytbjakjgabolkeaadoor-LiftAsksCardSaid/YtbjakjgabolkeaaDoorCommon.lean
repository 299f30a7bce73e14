/- The walks of Common and Dist of package lift. Conditions: the table was made by New; the library's table of de Bruijn is as its initialiser lays it. -/
import Derived.Test.YtbjakjgabolkeaaDoorAsk
import Derived.Test.YtbjakjgabolkeaaDoorComp
namespace Go.Proofs.YtbjakjgabolkeaaDoor
open Go.RowKit Go.Shelf

/-- what Common answers -/
def coB (p : List Int) (a b : Int) : Bool := inB p a && inB p b && (com p a.toNat b.toNat).isSome
def coV (p : List Int) (a b : Int) : Int := if coB p a b then oi (com p a.toNat b.toNat) else 0

theorem up_is {b B : Nat} {p : List Int} {v k : Int} {w : World} {x : Int} {y : Bool} (hx : upV p v k = x) (hy : upB p v k = y) (h : TabAt w B b p) (hBw : B ≤ w.heap.size) (hT : DeB w) :
    Calls Tryd.prog 20 #[.pointer (some ⟨b, 0, none⟩), .int .i64 v, .int .i64 k] w fun e w' => e = .returned (.tuple #[.int .i64 x, .bool y]) ∧ Below w.heap.size w w' := by
  subst hx; subst hy; exact up_tab b B p v k w h hBw hT
theorem ret_ib {a b : Int} {c d : Bool} (h : a = b) (h' : c = d) : Ending.returned (.tuple #[.int .i64 a, .bool c]) = .returned (.tuple #[.int .i64 b, .bool d]) := by rw [h, h']
theorem co_eq {p : List Int} {x y : Nat} (hx : inB p x = true) (hy : inB p y = true) : coV p x y = (match com p x y with | some c => (c : Int) | none => 0) ∧ coB p x y = (com p x y).isSome := by
  have e : coB p x y = (com p x y).isSome := by simp only [coB, hx, hy, Bool.true_and, Int.toNat_natCast]
  refine ⟨?_, e⟩
  rw [coV, e, Int.toNat_natCast, Int.toNat_natCast]
  cases com p x y <;> rfl
theorem DeB.lt {w : World} (hT : DeB w) : 1 < w.heap.size := by
  have := hT 0 (by decide)
  obtain ⟨o, ho, _⟩ := cells_of_cell this
  exact (Array.getElem?_eq_some_iff.1 ho).1
theorem TabAt.drew {w : World} {B b : Nat} {p : List Int} (h : TabAt w B b p) : TabAt w.drew B b p := h.below (Below.refl _ _).drew

set_option maxRecDepth 100000 in
set_option maxHeartbeats 4000000 in
theorem common_le (b B : Nat) (p : List Int) (x y x0 y0 : Nat) (w : World) (h : TabAt w B b p) (hBw : B ≤ w.heap.size) (hT : DeB w) (L : Level p x y x0 y0) (hle : dp p x ≤ dp p y) :
    Calls Tryd.prog 14 #[.pointer (some ⟨b, 0, none⟩), .int .i64 x, .int .i64 y] w fun e w' => e = .returned (.tuple #[.int .i64 (coV p x y), .bool (coB p x y)]) ∧ Below w.heap.size w w' := by
  have hs := h.small
  have htree := h.tree
  have hxl := L.ha
  have hyl := L.hb
  obtain ⟨hx0l, hy0l, _⟩ := L.facts htree
  have hx : inB p x = true := inB_iff.2 ⟨x, rfl, hxl⟩
  have hy : inB p y = true := inB_iff.2 ⟨y, rfl, hyl⟩
  obtain ⟨db, hdb, c1, c2⟩ := h.dep
  have c3 := c2 x hxl
  have c4 := c2 y hyl
  clear c2
  obtain ⟨jb, hj⟩ := h.jmp
  have hd1 : (0 : Int) ≤ (x : Int) ∧ (x : Int) < p.length := by omega
  have hd2 : (0 : Int) ≤ (y : Int) ∧ (y : Int) < p.length := by omega
  have hb1 := dep_lt htree hxl
  have hb2 := dep_lt htree hyl
  have q1 : upB p x (0) = true := by simp [upB, hx]
  have q2 : upV p x (0) = x0 := by
    have := L.ea
    rw [Nat.min_eq_left hle] at this
    simp only [upV, q1, if_true]
    rw [show (0 : Int).toNat = dp p x - dp p x from by omega, Int.toNat_natCast, this]; rfl
  have q3 : upB p y (((dp p y : Int) - dp p x)) = true := by simp [upB, hy]; omega
  have q4 : upV p y (((dp p y : Int) - dp p x)) = y0 := by
    have := L.eb
    rw [Nat.min_eq_left hle] at this
    simp only [upV, q3, if_true]
    rw [show (((dp p y : Int) - dp p x) : Int).toNat = dp p y - dp p x from by omega, Int.toNat_natCast, this]; rfl
  have H := Lib.hid hx; have H2 := Lib.hid hy
  have Q1 := Lib.hid q1; have Q2 := Lib.hid q2; have Q3 := Lib.hid q3; have Q4 := Lib.hid q4
  have HC2 := Lib.hid (co_eq hx hy)
  clear q1 q2 q3 q4 hx hy
  go_enter Tryd.func14, Tryd.ntmps14
  go_wp2_with fail
  refine (has_is H.out h).mono ?_
  rintro e w' ⟨rfl, rfl⟩
  go_wp2_with fail
  refine (has_is H2.out h).mono ?_
  rintro e w' ⟨rfl, rfl⟩
  go_wp2_with fail
  go_quiet (fail)
  go_wp2_with fail
  refine (up_is Q2.out Q1.out (h.drewN _) hBw hT).mono ?_
  rintro e w1 ⟨rfl, hb1'⟩
  have hbel1 : Below w.heap.size w w1 := (below_drewN (Below.refl _ _) nq).trans hb1'
  clear hb1' c1 c3 c4
  have ht1 := h.below (hbel1.mono hBw)
  obtain ⟨db1, _, c1, c2⟩ := ht1.dep
  have c4 := c2 y hyl
  clear c2
  have hT1 : DeB w1 := hT.below hbel1 (DeB.lt hT)
  have hsz1 := hbel1.size
  go_wp2_with fail
  refine (up_is Q4.out Q3.out ht1 (by omega) hT1).mono ?_
  rintro e w2 ⟨rfl, hb2'⟩
  have hbel2 : Below w.heap.size w w2 := hbel1.trans (hb2'.mono hsz1)
  clear hb2' c1 c4
  by_cases hxy : x0 = y0
  · subst hxy
    go_wp2_with fail
    go_ret2
    have e1 := com_same htree L
    have e2 := HC2.out
    rw [e1] at e2
    exact ⟨ret_ib e2.1.symm e2.2.symm, hbel2⟩
  · have hxy' : ((x0 : Int) == (y0 : Int)) = false := by simp; omega
    have HS := Lib.hid (Seek.start htree hs L hxy)
    clear hxy
    go_wp2_with fail
    go_loopw [1, 2, 9] (fun a b j wr => ∃ (m i x' y' : Nat) (jj : Int), a = .int .i64 x' ∧ b = .int .i64 y' ∧ j = .int .i64 jj ∧ jj + 1 = i ∧ i ≤ 13 ∧ Seek p x0 y0 m i x' y' ∧ Below w.heap.size w wr) (fun _ _ j _ => (intOf j + 1).toNat)
    case atStart => exact ⟨0, 13, x0, y0, 12, rfl, rfl, rfl, by omega, by omega, HS.out, hbel2⟩
    case round =>
      obtain ⟨m, i, x', y', jj, rfl, rfl, rfl, hjj, hi13, S, hbr⟩ := hrel
      have ⟨hx'l, hy'l⟩ := S.lt htree L
      have hx'i : (0 : Int) ≤ x' ∧ (x' : Int) < p.length := by omega
      have hy'i : (0 : Int) ≤ y' ∧ (y' : Int) < p.length := by omega
      cases i with
      | zero =>
        obtain rfl : jj = -1 := by omega
        have c5 : wr.cell? ⟨b, 2, none⟩ = some (.slice (some ⟨jb 0, 0, none⟩) p.length p.length) := by rw [hbr.cell (Nat.lt_of_lt_of_le h.lt hBw)]; exact (hj 0 (by omega)).2.1
        have c6 : wr.cell? ⟨jb 0, x', none⟩ = some (.int .i64 (oi (pa p x'))) := by rw [hbr.cell (Nat.lt_of_lt_of_le (hj 0 (by omega)).1 hBw)]; exact (hj 0 (by omega)).2.2 x' hx'l
        have hcom := S.done htree L
        cases hp : pa p x' with
        | none =>
          rw [hp] at c6 hcom
          replace c6 : wr.cell? ⟨jb 0, x', none⟩ = some (.int .i64 (-1)) := c6
          have HC := Lib.hid hcom
          clear hcom hp hjj
          go_wp2_with fail
          go_ret2
          have e2 := HC2.out
          rw [HC.out] at e2
          exact ⟨ret_ib e2.1.symm e2.2.symm, hbr⟩
        | some c =>
          rw [hp] at c6 hcom
          replace c6 : wr.cell? ⟨jb 0, x', none⟩ = some (.int .i64 c) := c6
          have HC := Lib.hid hcom
          clear hcom hp hjj
          go_wp2_with fail
          go_ret2
          have e2 := HC2.out
          rw [HC.out] at e2
          exact ⟨ret_ib e2.1.symm e2.2.symm, hbr⟩
      | succ i' =>
        obtain rfl : jj = (i' : Int) := by omega
        have c5 : wr.cell? ⟨b, 2 + i', none⟩ = some (.slice (some ⟨jb i', 0, none⟩) p.length p.length) := by rw [hbr.cell (Nat.lt_of_lt_of_le h.lt hBw)]; exact (hj i' (by omega)).2.1
        have c6 : wr.cell? ⟨jb i', x', none⟩ = some (.int .i64 (oi (anc p (2 ^ i') x'))) := by rw [hbr.cell (Nat.lt_of_lt_of_le (hj i' (by omega)).1 hBw)]; exact (hj i' (by omega)).2.2 x' hx'l
        have c7 : wr.cell? ⟨jb i', y', none⟩ = some (.int .i64 (oi (anc p (2 ^ i') y'))) := by rw [hbr.cell (Nat.lt_of_lt_of_le (hj i' (by omega)).1 hBw)]; exact (hj i' (by omega)).2.2 y' hy'l
        have hi'i : (0 : Int) ≤ i' ∧ (i' : Int) < 13 := by omega
        clear hjj
        by_cases hne : oi (anc p (2 ^ i') x') = oi (anc p (2 ^ i') y')
        · have HS2 := Lib.hid (S.same hne)
          rw [← hne] at c7
          clear hne S
          generalize oi (anc p (2 ^ i') x') = z at c6 c7
          have hz : (z != z) = false := by simp
          go_wp2_with fail
          go_quiet (fail)
          go_wp2_with fail
          go_roundw
          case rel => exact ⟨m, i', x', y', _, rfl, rfl, rfl, by omega, by omega, HS2.out, below_drewN hbr _⟩
          case measure => simp [intOf]
        · obtain ⟨x2, y2, e1, e2, S2⟩ := S.go htree L hne
          rw [e1, e2] at hne
          rw [e1] at c6
          rw [e2] at c7
          have hz : ((x2 : Int) != (y2 : Int)) = true := by simpa using hne
          have HS2 := Lib.hid S2
          clear hne S S2 e1 e2
          go_wp2_with fail
          go_quiet (fail)
          go_wp2_with fail
          go_roundw
          case rel => exact ⟨m + 2 ^ i', i', x2, y2, _, rfl, rfl, rfl, by omega, by omega, HS2.out, below_drewN hbr _⟩
          case measure => simp [intOf]

set_option maxRecDepth 100000 in
set_option maxHeartbeats 4000000 in
theorem common_gt (b B : Nat) (p : List Int) (x y x0 y0 : Nat) (w : World) (h : TabAt w B b p) (hBw : B ≤ w.heap.size) (hT : DeB w) (L : Level p x y x0 y0) (hle : dp p y < dp p x) :
    Calls Tryd.prog 14 #[.pointer (some ⟨b, 0, none⟩), .int .i64 x, .int .i64 y] w fun e w' => e = .returned (.tuple #[.int .i64 (coV p x y), .bool (coB p x y)]) ∧ Below w.heap.size w w' := by
  have hs := h.small
  have htree := h.tree
  have hxl := L.ha
  have hyl := L.hb
  obtain ⟨hx0l, hy0l, _⟩ := L.facts htree
  have hx : inB p x = true := inB_iff.2 ⟨x, rfl, hxl⟩
  have hy : inB p y = true := inB_iff.2 ⟨y, rfl, hyl⟩
  obtain ⟨db, hdb, c1, c2⟩ := h.dep
  have c3 := c2 x hxl
  have c4 := c2 y hyl
  clear c2
  obtain ⟨jb, hj⟩ := h.jmp
  have hd1 : (0 : Int) ≤ (x : Int) ∧ (x : Int) < p.length := by omega
  have hd2 : (0 : Int) ≤ (y : Int) ∧ (y : Int) < p.length := by omega
  have hb1 := dep_lt htree hxl
  have hb2 := dep_lt htree hyl
  have q1 : upB p x (((dp p x : Int) - dp p y)) = true := by simp [upB, hx]; omega
  have q2 : upV p x (((dp p x : Int) - dp p y)) = x0 := by
    have := L.ea
    rw [Nat.min_eq_right (Nat.le_of_lt hle)] at this
    simp only [upV, q1, if_true]
    rw [show (((dp p x : Int) - dp p y) : Int).toNat = dp p x - dp p y from by omega, Int.toNat_natCast, this]; rfl
  have q3 : upB p y (0) = true := by simp [upB, hy]
  have q4 : upV p y (0) = y0 := by
    have := L.eb
    rw [Nat.min_eq_right (Nat.le_of_lt hle)] at this
    simp only [upV, q3, if_true]
    rw [show (0 : Int).toNat = dp p y - dp p y from by omega, Int.toNat_natCast, this]; rfl
  have H := Lib.hid hx; have H2 := Lib.hid hy
  have Q1 := Lib.hid q1; have Q2 := Lib.hid q2; have Q3 := Lib.hid q3; have Q4 := Lib.hid q4
  have HC2 := Lib.hid (co_eq hx hy)
  clear q1 q2 q3 q4 hx hy
  go_enter Tryd.func14, Tryd.ntmps14
  go_wp2_with fail
  refine (has_is H.out h).mono ?_
  rintro e w' ⟨rfl, rfl⟩
  go_wp2_with fail
  refine (has_is H2.out h).mono ?_
  rintro e w' ⟨rfl, rfl⟩
  go_wp2_with fail
  go_quiet (fail)
  go_wp2_with fail
  refine (up_is Q2.out Q1.out (h.drewN _) hBw hT).mono ?_
  rintro e w1 ⟨rfl, hb1'⟩
  have hbel1 : Below w.heap.size w w1 := (below_drewN (Below.refl _ _) nq).trans hb1'
  clear hb1' c1 c3 c4
  have ht1 := h.below (hbel1.mono hBw)
  obtain ⟨db1, _, c1, c2⟩ := ht1.dep
  have c4 := c2 y hyl
  clear c2
  have hT1 : DeB w1 := hT.below hbel1 (DeB.lt hT)
  have hsz1 := hbel1.size
  go_wp2_with fail
  refine (up_is Q4.out Q3.out ht1 (by omega) hT1).mono ?_
  rintro e w2 ⟨rfl, hb2'⟩
  have hbel2 : Below w.heap.size w w2 := hbel1.trans (hb2'.mono hsz1)
  clear hb2' c1 c4
  by_cases hxy : x0 = y0
  · subst hxy
    go_wp2_with fail
    go_ret2
    have e1 := com_same htree L
    have e2 := HC2.out
    rw [e1] at e2
    exact ⟨ret_ib e2.1.symm e2.2.symm, hbel2⟩
  · have hxy' : ((x0 : Int) == (y0 : Int)) = false := by simp; omega
    have HS := Lib.hid (Seek.start htree hs L hxy)
    clear hxy
    go_wp2_with fail
    go_loopw [1, 2, 9] (fun a b j wr => ∃ (m i x' y' : Nat) (jj : Int), a = .int .i64 x' ∧ b = .int .i64 y' ∧ j = .int .i64 jj ∧ jj + 1 = i ∧ i ≤ 13 ∧ Seek p x0 y0 m i x' y' ∧ Below w.heap.size w wr) (fun _ _ j _ => (intOf j + 1).toNat)
    case atStart => exact ⟨0, 13, x0, y0, 12, rfl, rfl, rfl, by omega, by omega, HS.out, hbel2⟩
    case round =>
      obtain ⟨m, i, x', y', jj, rfl, rfl, rfl, hjj, hi13, S, hbr⟩ := hrel
      have ⟨hx'l, hy'l⟩ := S.lt htree L
      have hx'i : (0 : Int) ≤ x' ∧ (x' : Int) < p.length := by omega
      have hy'i : (0 : Int) ≤ y' ∧ (y' : Int) < p.length := by omega
      cases i with
      | zero =>
        obtain rfl : jj = -1 := by omega
        have c5 : wr.cell? ⟨b, 2, none⟩ = some (.slice (some ⟨jb 0, 0, none⟩) p.length p.length) := by rw [hbr.cell (Nat.lt_of_lt_of_le h.lt hBw)]; exact (hj 0 (by omega)).2.1
        have c6 : wr.cell? ⟨jb 0, x', none⟩ = some (.int .i64 (oi (pa p x'))) := by rw [hbr.cell (Nat.lt_of_lt_of_le (hj 0 (by omega)).1 hBw)]; exact (hj 0 (by omega)).2.2 x' hx'l
        have hcom := S.done htree L
        cases hp : pa p x' with
        | none =>
          rw [hp] at c6 hcom
          replace c6 : wr.cell? ⟨jb 0, x', none⟩ = some (.int .i64 (-1)) := c6
          have HC := Lib.hid hcom
          clear hcom hp hjj
          go_wp2_with fail
          go_ret2
          have e2 := HC2.out
          rw [HC.out] at e2
          exact ⟨ret_ib e2.1.symm e2.2.symm, hbr⟩
        | some c =>
          rw [hp] at c6 hcom
          replace c6 : wr.cell? ⟨jb 0, x', none⟩ = some (.int .i64 c) := c6
          have HC := Lib.hid hcom
          clear hcom hp hjj
          go_wp2_with fail
          go_ret2
          have e2 := HC2.out
          rw [HC.out] at e2
          exact ⟨ret_ib e2.1.symm e2.2.symm, hbr⟩
      | succ i' =>
        obtain rfl : jj = (i' : Int) := by omega
        have c5 : wr.cell? ⟨b, 2 + i', none⟩ = some (.slice (some ⟨jb i', 0, none⟩) p.length p.length) := by rw [hbr.cell (Nat.lt_of_lt_of_le h.lt hBw)]; exact (hj i' (by omega)).2.1
        have c6 : wr.cell? ⟨jb i', x', none⟩ = some (.int .i64 (oi (anc p (2 ^ i') x'))) := by rw [hbr.cell (Nat.lt_of_lt_of_le (hj i' (by omega)).1 hBw)]; exact (hj i' (by omega)).2.2 x' hx'l
        have c7 : wr.cell? ⟨jb i', y', none⟩ = some (.int .i64 (oi (anc p (2 ^ i') y'))) := by rw [hbr.cell (Nat.lt_of_lt_of_le (hj i' (by omega)).1 hBw)]; exact (hj i' (by omega)).2.2 y' hy'l
        have hi'i : (0 : Int) ≤ i' ∧ (i' : Int) < 13 := by omega
        clear hjj
        by_cases hne : oi (anc p (2 ^ i') x') = oi (anc p (2 ^ i') y')
        · have HS2 := Lib.hid (S.same hne)
          rw [← hne] at c7
          clear hne S
          generalize oi (anc p (2 ^ i') x') = z at c6 c7
          have hz : (z != z) = false := by simp
          go_wp2_with fail
          go_quiet (fail)
          go_wp2_with fail
          go_roundw
          case rel => exact ⟨m, i', x', y', _, rfl, rfl, rfl, by omega, by omega, HS2.out, below_drewN hbr _⟩
          case measure => simp [intOf]
        · obtain ⟨x2, y2, e1, e2, S2⟩ := S.go htree L hne
          rw [e1, e2] at hne
          rw [e1] at c6
          rw [e2] at c7
          have hz : ((x2 : Int) != (y2 : Int)) = true := by simpa using hne
          have HS2 := Lib.hid S2
          clear hne S S2 e1 e2
          go_wp2_with fail
          go_quiet (fail)
          go_wp2_with fail
          go_roundw
          case rel => exact ⟨m + 2 ^ i', i', x2, y2, _, rfl, rfl, rfl, by omega, by omega, HS2.out, below_drewN hbr _⟩
          case measure => simp [intOf]

theorem common_tab (b B : Nat) (p : List Int) (x y : Int) (w : World) (h : TabAt w B b p) (hBw : B ≤ w.heap.size) (hT : DeB w) :
    Calls Tryd.prog 14 #[.pointer (some ⟨b, 0, none⟩), .int .i64 x, .int .i64 y] w fun e w' => e = .returned (.tuple #[.int .i64 (coV p x y), .bool (coB p x y)]) ∧ Below w.heap.size w w' := by
  cases hx : inB p x with
  | false =>
    have e1 : coB p x y = false := by simp [coB, hx]
    have e2 : coV p x y = 0 := by simp [coV, e1]
    rw [e1, e2]
    have H := Lib.hid hx; clear hx e1 e2
    go_enter Tryd.func14, Tryd.ntmps14
    go_wp2_with (go_at_call 26; refine (has_is H.out h).mono ?_; rintro e w' ⟨rfl, rfl⟩)
    go_ret2
    exact ⟨rfl, Below.refl _ _⟩
  | true =>
    cases hy : inB p y with
    | false =>
      have e1 : coB p x y = false := by simp [coB, hy]
      have e2 : coV p x y = 0 := by simp [coV, e1]
      rw [e1, e2]
      have H := Lib.hid hx; clear hx e1 e2
      have H2 := Lib.hid hy; clear hy
      go_enter Tryd.func14, Tryd.ntmps14
      go_wp2_with fail
      refine (has_is H.out h).mono ?_
      rintro e w' ⟨rfl, rfl⟩
      go_wp2_with fail
      refine (has_is H2.out h).mono ?_
      rintro e w' ⟨rfl, rfl⟩
      go_wp2_with fail
      go_ret2
      exact ⟨rfl, Below.refl _ _⟩
    | true =>
      obtain ⟨x, rfl, hxl⟩ := inB_iff.1 hx
      obtain ⟨y, rfl, hyl⟩ := inB_iff.1 hy
      obtain ⟨x0, ex⟩ := anc_some h.tree (dp p x - min (dp p x) (dp p y)) x hxl (by omega)
      obtain ⟨y0, ey⟩ := anc_some h.tree (dp p y - min (dp p x) (dp p y)) y hyl (by omega)
      by_cases hle : dp p x ≤ dp p y
      · exact common_le b B p x y x0 y0 w h hBw hT ⟨hxl, hyl, ex, ey⟩ hle
      · exact common_gt b B p x y x0 y0 w h hBw hT ⟨hxl, hyl, ex, ey⟩ (by omega)
end Go.Proofs.YtbjakjgabolkeaaDoor
