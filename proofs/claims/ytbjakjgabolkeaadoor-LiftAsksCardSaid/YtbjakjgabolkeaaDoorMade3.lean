/- The walk of made of the law, on each of its ways. Conditions: the bytes are given as cells; the library's table of de Bruijn is as its initialiser lays it. -/
import Derived.Test.YtbjakjgabolkeaaDoorMade2
namespace Go.Proofs.YtbjakjgabolkeaaDoor
open Go.RowKit Go.Shelf

theorem rowval {P : List Int} {k i : Nat} {x : Int} (hlt : k < P.length) (hi : i < P.length) (hx : nth (turnedL P) (P.length - 1 - k) = x) :
    (if i = P.length - 1 - k then Value.int .i64 x else .int .i64 (if P.length ≤ i + k then nth (turnedL P) i else 0)) = .int .i64 (if P.length ≤ i + (k + 1) then nth (turnedL P) i else 0) := by
  by_cases e : i = P.length - 1 - k
  · subst e; rw [if_pos rfl, if_pos (by omega), hx]
  · rw [if_neg e]
    by_cases h : P.length ≤ i + k
    · rw [if_pos h, if_pos (by omega)]
    · rw [if_neg h, if_neg (by omega)]
theorem rowstep {w : World} {q k : Nat} {P : List Int} {x : Int} (hR : w.rowIs q 3 P.length (fun i => .int .i64 (if P.length ≤ i + k then nth (turnedL P) i else 0))) (hlt : k < P.length) (hx : nth (turnedL P) (P.length - 1 - k) = x) :
    (w.setCell ⟨q, P.length - 1 - k, none⟩ (.int .i64 x)).rowIs q 3 P.length (fun i => .int .i64 (if P.length ≤ i + (k + 1) then nth (turnedL P) i else 0)) :=
  (hR.set _ _).congr (fun _ hi => rowval hlt hi hx)
theorem rowtwice {w : World} {q k : Nat} {P : List Int} {x : Int} {u : Value} (hR : w.rowIs q 3 P.length (fun i => .int .i64 (if P.length ≤ i + k then nth (turnedL P) i else 0))) (hlt : k < P.length) (hx : nth (turnedL P) (P.length - 1 - k) = x) :
    ((w.setCell ⟨q, P.length - 1 - k, none⟩ u).setCell ⟨q, P.length - 1 - k, none⟩ (.int .i64 x)).rowIs q 3 P.length (fun i => .int .i64 (if P.length ≤ i + (k + 1) then nth (turnedL P) i else 0)) :=
  ((hR.set _ u).set _ _).congr (fun i hi => by
    rw [← rowval hlt hi hx]
    by_cases e : i = P.length - 1 - k
    · rw [if_pos e, if_pos e]
    · rw [if_neg e, if_neg e, if_neg e])

set_option maxRecDepth 100000 in
set_option maxHeartbeats 2000000 in
theorem made_ff (B : Nat) (a : Option Addr) (cap : Nat) (A : Nat → Addr) (L : List Int) (w : World) (hT : DeB w) (hS : Sl 22 .u8 w B (.slice a L.length cap) L A) (hB : B ≤ w.heap.size) (hc : L.length ≤ cap) (hm : L.length ≤ 9223372036854775807) (hb : ∀ i, i < L.length → 0 ≤ nth L i ∧ nth L i ≤ 255) (hle : L.length ≤ 300) :
    Calls Tryd.prog 12 #[.slice a L.length cap, .bool false] w (MadePost (madeL L false) w) := by
  have hl3 : (L.take 300).length = L.length := by simp; omega
  have htk : L.take 300 = L.take (L.length) := by rw [List.take_of_length_le (by omega), List.take_length]
  have hgr := grown_any B a cap A (L.take 300) w (by rw [hl3, htk]; exact Sl.take et22 hS rfl (by omega)) hB (by omega) (bytes_take hb)
  clear htk
  rw [hl3] at hgr
  have hs1 := fun w' => run_slice_to et22 a L.length cap (L.length) .i64 (by omega) w'
  have hE := newE_made L false
  have h1 := hT.lt
  have hPl : (grownL (L.take 300)).length ≤ 300 := by rw [grownL_len, hl3]; omega
  have hlow : ∀ i, i < (grownL (L.take 300)).length → -1 ≤ nth (grownL (L.take 300)) i ∧ nth (grownL (L.take 300)) i < i := fun i hi => grown_low _ (by rw [grownL_len] at hi; exact hi)
  rw [show madeL L false = grownL (L.take 300) from rfl] at hE ⊢
  clear hl3
  generalize grownL (L.take 300) = P at *
  go_enter Tryd.func12, Tryd.ntmps12
  go_wp2_with fail
  refine hgr.mono ?_
  rintro e w1 ⟨v, rfl, hown, hb1⟩
  obtain ⟨_, a1, cap1, A1, rfl, hS1⟩ := Sl.own et25 hown
  have hT1 := hT.below hb1 h1
  have hz1 := hb1.size
  clear hgr hs1 hown hT hS hb
  go_wp2_with fail
  refine (new_ok hE hS1 (Nat.le_refl _)).mono ?_
  rintro e w2 ⟨b, rfl, hTab, hb2⟩
  have S : St w w2.heap.size b P w2 := ⟨hTab, hT1.below hb2 (by omega), Nat.le_refl _, hb1.trans (hb2.mono hz1)⟩
  have hS2 := hS1.below hb2
  clear hTab hS1
  go_wp2_with fail
  refine (len_tab _ _ _ _ S.tab).mono ?_
  rintro e w3 ⟨rfl, rfl⟩
  go_wp2_with fail
  go_ret2
  exact ⟨b, a1, cap1, A1, _, rfl, S, hS2.mono hb2.size⟩

set_option maxRecDepth 100000 in
set_option maxHeartbeats 2000000 in
theorem made_ft (B : Nat) (a : Option Addr) (cap : Nat) (A : Nat → Addr) (L : List Int) (w : World) (hT : DeB w) (hS : Sl 22 .u8 w B (.slice a L.length cap) L A) (hB : B ≤ w.heap.size) (hc : L.length ≤ cap) (hm : L.length ≤ 9223372036854775807) (hb : ∀ i, i < L.length → 0 ≤ nth L i ∧ nth L i ≤ 255) (hle : 300 < L.length) :
    Calls Tryd.prog 12 #[.slice a L.length cap, .bool false] w (MadePost (madeL L false) w) := by
  have hl3 : (L.take 300).length = 300 := by simp; omega
  have htk : L.take 300 = L.take (300) := by rfl
  have hgr := grown_any B a cap A (L.take 300) w (by rw [hl3, htk]; exact Sl.take et22 hS rfl (by omega)) hB (by omega) (bytes_take hb)
  clear htk
  rw [hl3] at hgr
  have hs1 := fun w' => run_slice_to et22 a L.length cap (300) .i64 (by omega) w'
  have hE := newE_made L false
  have h1 := hT.lt
  have hPl : (grownL (L.take 300)).length ≤ 300 := by rw [grownL_len, hl3]; omega
  have hlow : ∀ i, i < (grownL (L.take 300)).length → -1 ≤ nth (grownL (L.take 300)) i ∧ nth (grownL (L.take 300)) i < i := fun i hi => grown_low _ (by rw [grownL_len] at hi; exact hi)
  rw [show madeL L false = grownL (L.take 300) from rfl] at hE ⊢
  clear hl3
  generalize grownL (L.take 300) = P at *
  go_enter Tryd.func12, Tryd.ntmps12
  go_wp2_with fail
  refine hgr.mono ?_
  rintro e w1 ⟨v, rfl, hown, hb1⟩
  obtain ⟨_, a1, cap1, A1, rfl, hS1⟩ := Sl.own et25 hown
  have hT1 := hT.below hb1 h1
  have hz1 := hb1.size
  clear hgr hs1 hown hT hS hb
  go_wp2_with fail
  refine (new_ok hE hS1 (Nat.le_refl _)).mono ?_
  rintro e w2 ⟨b, rfl, hTab, hb2⟩
  have S : St w w2.heap.size b P w2 := ⟨hTab, hT1.below hb2 (by omega), Nat.le_refl _, hb1.trans (hb2.mono hz1)⟩
  have hS2 := hS1.below hb2
  clear hTab hS1
  go_wp2_with fail
  refine (len_tab _ _ _ _ S.tab).mono ?_
  rintro e w3 ⟨rfl, rfl⟩
  go_wp2_with fail
  go_ret2
  exact ⟨b, a1, cap1, A1, _, rfl, S, hS2.mono hb2.size⟩

set_option maxRecDepth 100000 in
set_option maxHeartbeats 2000000 in
theorem made_tf (B : Nat) (a : Option Addr) (cap : Nat) (A : Nat → Addr) (L : List Int) (w : World) (hT : DeB w) (hS : Sl 22 .u8 w B (.slice a L.length cap) L A) (hB : B ≤ w.heap.size) (hc : L.length ≤ cap) (hm : L.length ≤ 9223372036854775807) (hb : ∀ i, i < L.length → 0 ≤ nth L i ∧ nth L i ≤ 255) (hle : L.length ≤ 300) :
    Calls Tryd.prog 12 #[.slice a L.length cap, .bool true] w (MadePost (madeL L true) w) := by
  have hl3 : (L.take 300).length = L.length := by simp; omega
  have htk : L.take 300 = L.take (L.length) := by rw [List.take_of_length_le (by omega), List.take_length]
  have hgr := grown_any B a cap A (L.take 300) w (by rw [hl3, htk]; exact Sl.take et22 hS rfl (by omega)) hB (by omega) (bytes_take hb)
  clear htk
  rw [hl3] at hgr
  have hs1 := fun w' => run_slice_to et22 a L.length cap (L.length) .i64 (by omega) w'
  have hE := newE_made L true
  have h1 := hT.lt
  have hPl : (grownL (L.take 300)).length ≤ 300 := by rw [grownL_len, hl3]; omega
  have hlow : ∀ i, i < (grownL (L.take 300)).length → -1 ≤ nth (grownL (L.take 300)) i ∧ nth (grownL (L.take 300)) i < i := fun i hi => grown_low _ (by rw [grownL_len] at hi; exact hi)
  rw [show madeL L true = turnedL (grownL (L.take 300)) from rfl] at hE ⊢
  clear hl3
  generalize grownL (L.take 300) = P at *
  have hmk := run_make_row' (P := Tryd.prog) 25 3 (.int .i64 0) 8 Tryd.underlying25 Tryd.info3 rfl .i64 .i64 P.length (by omega) (by omega)
  go_enter Tryd.func12, Tryd.ntmps12
  go_wp2_with fail
  refine hgr.mono ?_
  rintro e w1 ⟨v, rfl, hown, hb1⟩
  obtain ⟨_, a1, cap1, A1, rfl, hS1⟩ := Sl.own et25 hown
  have hT1 := hT.below hb1 h1
  have hz1 := hb1.size
  clear hgr hs1 hown hT hS hb
  go_wp2_with fail
  have hR0 := World.rowIs_made w1 (.int .i64 0) P.length 3
  have hb2 : Below w.heap.size w (w1.alloc (.cells (madeCells #[.int .i64 0] P.length) 3)) := hb1.alloc hz1 _
  have hS2 := hS1.below ((Below.refl w1.heap.size w1).alloc (Nat.le_refl _) (.cells (madeCells #[.int .i64 0] P.length) 3))
  have hW12 : Below w1.heap.size w1 (w1.alloc (.cells (madeCells #[.int .i64 0] P.length) 3)) := (Below.refl _ _).alloc (Nat.le_refl _) _
  have hsz2 : (w1.alloc (.cells (madeCells #[.int .i64 0] P.length) 3)).heap.size = w1.heap.size + 1 := by simp
  generalize (w1.alloc (.cells (madeCells #[.int .i64 0] P.length) 3)) = W2 at *
  clear hmk hS1
  go_loopw [9] (fun i wr => ∃ k : Nat, k ≤ P.length ∧ i = .int .i64 k ∧ wr.rowIs w1.heap.size 3 P.length (fun i => .int .i64 (if P.length ≤ i + k then nth (turnedL P) i else 0)) ∧ Below w.heap.size w wr ∧ Below w1.heap.size W2 wr) (fun i _ => P.length - (intOf i).toNat)
  case atStart => exact ⟨0, Nat.zero_le _, rfl, hR0.congr (fun i hi => by rw [if_neg (by omega)]), hb2, Below.refl _ _⟩
  case round =>
    obtain ⟨k, hk, rfl, hR, hBr, hBx⟩ := hrel
    by_cases hlt : k < P.length
    · have hix := hS2.ix k hlt
      have hc := (hS2.below hBx).cell k hlt
      obtain ⟨hl1, hl2⟩ := hlow k hlt
      have hA := hS2.lt k hlt
      have hq1 := hR.cell (i := P.length - 1 - k) (by omega)
      have hq2 := hR.frozen (P.length - 1 - k)
      have hnt := turnedL_nth P (u := P.length - 1 - k) (by omega)
      rw [show P.length - 1 - (P.length - 1 - k) = k from by omega] at hnt
      have hidx : (0 : Int) ≤ (P.length : Int) - 1 - k ∧ (P.length : Int) - 1 - k < P.length := by omega
      have hc2 : (wr.setCell ⟨w1.heap.size, P.length - 1 - k, none⟩ (.int .i64 (-1))).cell? (A1 k) = some (.int .i64 (nth P k)) := by
        rw [World.cell?_of_block (Below.heap_setCell _ _ _ _ (by show (A1 k).block ≠ w1.heap.size; omega))]; exact hc
      have hst := hR.set (P.length - 1 - k) (.int .i64 (-1))
      have hq3 := hst.cell (i := P.length - 1 - k) (by omega)
      have hq4 := hst.frozen (P.length - 1 - k)
      rw [if_pos rfl] at hq3
      have HN := Lib.hid hnt
      clear hnt hst
      by_cases h0 : 0 ≤ nth P k
      · have HR := Lib.hid (rowtwice (u := .int .i64 (-1)) hR hlt (x := (P.length : Int) - 1 - nth P k) (by rw [HN.out, if_pos h0]))
        clear hR
        go_wp2_with fail
        go_roundw
        case rel => exact ⟨k + 1, by omega, by go_num, HR.out, (hBr.setCell (p := ⟨w1.heap.size, P.length - 1 - k, none⟩) hz1 _).setCell (p := ⟨w1.heap.size, P.length - 1 - k, none⟩) hz1 _, (hBx.setCell (p := ⟨w1.heap.size, P.length - 1 - k, none⟩) (Nat.le_refl _) _).setCell (p := ⟨w1.heap.size, P.length - 1 - k, none⟩) (Nat.le_refl _) _⟩
        case measure => simp [intOf]; omega
      · have HR := Lib.hid (rowstep hR hlt (x := -1) (by rw [HN.out, if_neg h0]))
        clear hR
        go_wp2_with fail
        go_roundw
        case rel => exact ⟨k + 1, by omega, by go_num, HR.out, hBr.setCell (p := ⟨w1.heap.size, P.length - 1 - k, none⟩) hz1 _, hBx.setCell (p := ⟨w1.heap.size, P.length - 1 - k, none⟩) (Nat.le_refl _) _⟩
        case measure => simp [intOf]; omega
    · obtain rfl : k = P.length := by omega
      have hSq : Sl 25 .i64 wr wr.heap.size (.slice (some ⟨w1.heap.size, 0, none⟩) (turnedL P).length P.length) (turnedL P) (fun i => ⟨w1.heap.size, 0 + i, none⟩) := Sl.lit hR.lt (fun i hi => by
        rw [turnedL_len] at hi
        rw [Nat.zero_add, hR.cell hi, if_pos (by omega)])
      have hN := new_ok hE hSq (Nat.le_refl _)
      rw [turnedL_len] at hN
      have hT2 : DeB wr := hT1.below (hW12.trans hBx) (by omega)
      clear hR hE
      go_wp2_with fail
      refine hN.mono ?_
      rintro e w3 ⟨b, rfl, hTab, hb3⟩
      have S : St w w3.heap.size b (turnedL P) w3 := ⟨hTab, hT2.below hb3 (by have := hBr.size; omega), Nat.le_refl _, hBr.trans (hb3.mono hBr.size)⟩
      have hS3 := hSq.below hb3
      have HL := Lib.hid (turnedL_len P)
      clear hTab hN
      go_wp2_with fail
      refine (len_tab _ _ _ _ S.tab).mono ?_
      rw [HL.out]
      rintro e w4 ⟨rfl, rfl⟩
      go_wp2_with fail
      go_ret2
      exact ⟨b, some ⟨w1.heap.size, 0, none⟩, P.length, _, _, by rw [HL.out]; rfl, S, hS3.mono hb3.size⟩

set_option maxRecDepth 100000 in
set_option maxHeartbeats 2000000 in
theorem made_tt (B : Nat) (a : Option Addr) (cap : Nat) (A : Nat → Addr) (L : List Int) (w : World) (hT : DeB w) (hS : Sl 22 .u8 w B (.slice a L.length cap) L A) (hB : B ≤ w.heap.size) (hc : L.length ≤ cap) (hm : L.length ≤ 9223372036854775807) (hb : ∀ i, i < L.length → 0 ≤ nth L i ∧ nth L i ≤ 255) (hle : 300 < L.length) :
    Calls Tryd.prog 12 #[.slice a L.length cap, .bool true] w (MadePost (madeL L true) w) := by
  have hl3 : (L.take 300).length = 300 := by simp; omega
  have htk : L.take 300 = L.take (300) := by rfl
  have hgr := grown_any B a cap A (L.take 300) w (by rw [hl3, htk]; exact Sl.take et22 hS rfl (by omega)) hB (by omega) (bytes_take hb)
  clear htk
  rw [hl3] at hgr
  have hs1 := fun w' => run_slice_to et22 a L.length cap (300) .i64 (by omega) w'
  have hE := newE_made L true
  have h1 := hT.lt
  have hPl : (grownL (L.take 300)).length ≤ 300 := by rw [grownL_len, hl3]; omega
  have hlow : ∀ i, i < (grownL (L.take 300)).length → -1 ≤ nth (grownL (L.take 300)) i ∧ nth (grownL (L.take 300)) i < i := fun i hi => grown_low _ (by rw [grownL_len] at hi; exact hi)
  rw [show madeL L true = turnedL (grownL (L.take 300)) from rfl] at hE ⊢
  clear hl3
  generalize grownL (L.take 300) = P at *
  have hmk := run_make_row' (P := Tryd.prog) 25 3 (.int .i64 0) 8 Tryd.underlying25 Tryd.info3 rfl .i64 .i64 P.length (by omega) (by omega)
  go_enter Tryd.func12, Tryd.ntmps12
  go_wp2_with fail
  refine hgr.mono ?_
  rintro e w1 ⟨v, rfl, hown, hb1⟩
  obtain ⟨_, a1, cap1, A1, rfl, hS1⟩ := Sl.own et25 hown
  have hT1 := hT.below hb1 h1
  have hz1 := hb1.size
  clear hgr hs1 hown hT hS hb
  go_wp2_with fail
  have hR0 := World.rowIs_made w1 (.int .i64 0) P.length 3
  have hb2 : Below w.heap.size w (w1.alloc (.cells (madeCells #[.int .i64 0] P.length) 3)) := hb1.alloc hz1 _
  have hS2 := hS1.below ((Below.refl w1.heap.size w1).alloc (Nat.le_refl _) (.cells (madeCells #[.int .i64 0] P.length) 3))
  have hW12 : Below w1.heap.size w1 (w1.alloc (.cells (madeCells #[.int .i64 0] P.length) 3)) := (Below.refl _ _).alloc (Nat.le_refl _) _
  have hsz2 : (w1.alloc (.cells (madeCells #[.int .i64 0] P.length) 3)).heap.size = w1.heap.size + 1 := by simp
  generalize (w1.alloc (.cells (madeCells #[.int .i64 0] P.length) 3)) = W2 at *
  clear hmk hS1
  go_loopw [9] (fun i wr => ∃ k : Nat, k ≤ P.length ∧ i = .int .i64 k ∧ wr.rowIs w1.heap.size 3 P.length (fun i => .int .i64 (if P.length ≤ i + k then nth (turnedL P) i else 0)) ∧ Below w.heap.size w wr ∧ Below w1.heap.size W2 wr) (fun i _ => P.length - (intOf i).toNat)
  case atStart => exact ⟨0, Nat.zero_le _, rfl, hR0.congr (fun i hi => by rw [if_neg (by omega)]), hb2, Below.refl _ _⟩
  case round =>
    obtain ⟨k, hk, rfl, hR, hBr, hBx⟩ := hrel
    by_cases hlt : k < P.length
    · have hix := hS2.ix k hlt
      have hc := (hS2.below hBx).cell k hlt
      obtain ⟨hl1, hl2⟩ := hlow k hlt
      have hA := hS2.lt k hlt
      have hq1 := hR.cell (i := P.length - 1 - k) (by omega)
      have hq2 := hR.frozen (P.length - 1 - k)
      have hnt := turnedL_nth P (u := P.length - 1 - k) (by omega)
      rw [show P.length - 1 - (P.length - 1 - k) = k from by omega] at hnt
      have hidx : (0 : Int) ≤ (P.length : Int) - 1 - k ∧ (P.length : Int) - 1 - k < P.length := by omega
      have hc2 : (wr.setCell ⟨w1.heap.size, P.length - 1 - k, none⟩ (.int .i64 (-1))).cell? (A1 k) = some (.int .i64 (nth P k)) := by
        rw [World.cell?_of_block (Below.heap_setCell _ _ _ _ (by show (A1 k).block ≠ w1.heap.size; omega))]; exact hc
      have hst := hR.set (P.length - 1 - k) (.int .i64 (-1))
      have hq3 := hst.cell (i := P.length - 1 - k) (by omega)
      have hq4 := hst.frozen (P.length - 1 - k)
      rw [if_pos rfl] at hq3
      have HN := Lib.hid hnt
      clear hnt hst
      by_cases h0 : 0 ≤ nth P k
      · have HR := Lib.hid (rowtwice (u := .int .i64 (-1)) hR hlt (x := (P.length : Int) - 1 - nth P k) (by rw [HN.out, if_pos h0]))
        clear hR
        go_wp2_with fail
        go_roundw
        case rel => exact ⟨k + 1, by omega, by go_num, HR.out, (hBr.setCell (p := ⟨w1.heap.size, P.length - 1 - k, none⟩) hz1 _).setCell (p := ⟨w1.heap.size, P.length - 1 - k, none⟩) hz1 _, (hBx.setCell (p := ⟨w1.heap.size, P.length - 1 - k, none⟩) (Nat.le_refl _) _).setCell (p := ⟨w1.heap.size, P.length - 1 - k, none⟩) (Nat.le_refl _) _⟩
        case measure => simp [intOf]; omega
      · have HR := Lib.hid (rowstep hR hlt (x := -1) (by rw [HN.out, if_neg h0]))
        clear hR
        go_wp2_with fail
        go_roundw
        case rel => exact ⟨k + 1, by omega, by go_num, HR.out, hBr.setCell (p := ⟨w1.heap.size, P.length - 1 - k, none⟩) hz1 _, hBx.setCell (p := ⟨w1.heap.size, P.length - 1 - k, none⟩) (Nat.le_refl _) _⟩
        case measure => simp [intOf]; omega
    · obtain rfl : k = P.length := by omega
      have hSq : Sl 25 .i64 wr wr.heap.size (.slice (some ⟨w1.heap.size, 0, none⟩) (turnedL P).length P.length) (turnedL P) (fun i => ⟨w1.heap.size, 0 + i, none⟩) := Sl.lit hR.lt (fun i hi => by
        rw [turnedL_len] at hi
        rw [Nat.zero_add, hR.cell hi, if_pos (by omega)])
      have hN := new_ok hE hSq (Nat.le_refl _)
      rw [turnedL_len] at hN
      have hT2 : DeB wr := hT1.below (hW12.trans hBx) (by omega)
      clear hR hE
      go_wp2_with fail
      refine hN.mono ?_
      rintro e w3 ⟨b, rfl, hTab, hb3⟩
      have S : St w w3.heap.size b (turnedL P) w3 := ⟨hTab, hT2.below hb3 (by have := hBr.size; omega), Nat.le_refl _, hBr.trans (hb3.mono hBr.size)⟩
      have hS3 := hSq.below hb3
      have HL := Lib.hid (turnedL_len P)
      clear hTab hN
      go_wp2_with fail
      refine (len_tab _ _ _ _ S.tab).mono ?_
      rw [HL.out]
      rintro e w4 ⟨rfl, rfl⟩
      go_wp2_with fail
      go_ret2
      exact ⟨b, some ⟨w1.heap.size, 0, none⟩, P.length, _, _, by rw [HL.out]; rfl, S, hS3.mono hb3.size⟩

theorem made_any (B : Nat) (a : Option Addr) (cap : Nat) (A : Nat → Addr) (L : List Int) (turned : Bool) (w : World) (hT : DeB w) (hS : Sl 22 .u8 w B (.slice a L.length cap) L A) (hB : B ≤ w.heap.size) (hc : L.length ≤ cap) (hm : L.length ≤ 9223372036854775807) (hb : ∀ i, i < L.length → 0 ≤ nth L i ∧ nth L i ≤ 255) :
    Calls Tryd.prog 12 #[.slice a L.length cap, .bool turned] w (MadePost (madeL L turned) w) := by
  by_cases hle : L.length ≤ 300
  · cases turned
    · exact made_ff B a cap A L w hT hS hB hc hm hb hle
    · exact made_tf B a cap A L w hT hS hB hc hm hb hle
  · cases turned
    · exact made_ft B a cap A L w hT hS hB hc hm hb (by omega)
    · exact made_tt B a cap A L w hT hS hB hc hm hb (by omega)
end Go.Proofs.YtbjakjgabolkeaaDoor
