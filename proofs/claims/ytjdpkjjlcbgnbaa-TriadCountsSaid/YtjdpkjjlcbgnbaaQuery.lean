/- The walks of At, Common, Local, Global of package triad, and of what they call. Conditions: the graph was made by New, or it is nil or zero. -/
import Derived.Test.YtjdpkjjlcbgnbaaCount
namespace Go.Proofs.Ytjdpkjjlcbgnbaa
open Go.RowKit Go.Shelf

/-- twice the triangles at a vertex, over its first neighbours -/
def atTo (o : Option (Nat × List Ed)) (v : Int) (k : Nat) : Nat := (((nbr o v).take k).map fun u => (inter (nbr o v) (nbr o u)).length).sum
def atS (o : Option (Nat × List Ed)) (v : Int) : Nat := atTo o v (nbr o v).length
theorem atTo_succ (o : Option (Nat × List Ed)) (v : Int) {k : Nat} (hk : k < (nbr o v).length) : atTo o v (k + 1) = atTo o v k + (inter (nbr o v) (nbr o (nth (nbr o v) k))).length := by
  unfold atTo
  rw [nth_eq hk, List.take_succ_eq_append_getElem hk, List.map_append, List.sum_append, List.map_singleton, List.sum_singleton]
theorem atTo_le (o : Option (Nat × List Ed)) (v : Int) {k : Nat} (hk : k ≤ (nbr o v).length) : atTo o v k ≤ k * gN o := by
  induction k with
  | zero => simp [atTo]
  | succ k ih =>
    rw [atTo_succ o v (by omega), Nat.succ_mul]
    have := ih (by omega)
    have := inter_len (nbr o v) (nbr o (nth (nbr o v) k))
    have := nbr_len o v
    omega

theorem OwnInts.rt {base : Nat} {l : List Int} {w w' : World} {e : Ending} (h : OwnInts base l w e w') : ∃ a cap, e = .returned (.slice a l.length cap) ∧ RT w' (.slice a l.length cap) l ∧ Below w.heap.size w w' := by
  obtain ⟨v, rfl, h1, _, h2⟩ := h
  have h3 := RT.own h1
  obtain ⟨a, cap, rfl, _⟩ := h3.form
  exact ⟨a, cap, rfl, h3, h2⟩

set_option maxRecDepth 100000 in
set_option maxHeartbeats 1000000 in
theorem at_count (B : Nat) (g : Option Addr) (o : Option (Nat × List Ed)) (v : Int) (w : World) (hg : GV w B (.pointer g) o) (hB : B ≤ w.heap.size) :
    Calls Try.prog 17 #[.pointer g, .int .i64 v] w fun e w' => e = .returned (.int .i64 ((atS o v : Nat) / 2)) ∧ Below w.heap.size w w' := by
  have hG := hg.good
  have hgn := hG.n_le
  have hnl := nbr_len o v
  go_enter Try.func17, Try.ntmps17
  go_wp2_with fail
  refine (nbr_any B g o v w hg hB).mono ?_
  rintro e w1 h1
  obtain ⟨a, cap, rfl, hR, hb1⟩ := h1.rt
  have Hr := Lib.hid hR
  clear h1 hR
  go_wp2_with fail
  go_loopw [6, 14] (fun t i wr => ∃ k : Nat, k ≤ (nbr o v).length ∧ i = .int .i64 k ∧ t = .int .i64 (atTo o v k : Nat) ∧ Hid (RT wr (.slice a (nbr o v).length cap) (nbr o v)) ∧ Below w.heap.size w wr) (fun _ i _ => (nbr o v).length - (intOf i).toNat)
  case atStart => exact ⟨0, Nat.zero_le _, rfl, rfl, Hr, hb1⟩
  case round =>
    clear Hr hb1
    obtain ⟨k, hk, rfl, rfl, Hr, bel⟩ := hrel
    have hat := atTo_le o v hk
    have hat2 : k * gN o ≤ 4096 * 4096 := Nat.mul_le_mul (by omega) hgn
    have hat3 : atTo o v k ≤ 16777216 := by omega
    clear hat hat2
    by_cases hlt : k < (nbr o v).length
    · obtain ⟨A, hA⟩ := Hr.out.rl.rd
      have ix := hA.ix k hlt
      have hc : wr.cell? (A k) = some (.int .i64 (nth (nbr o v) k)) := Sl.at hA hlt
      have Hs := Lib.hid (atTo_succ o v hlt)
      have hGr := hg.below (bel.mono hB)
      have hsz := bel.size
      clear hA
      go_wp2_with fail
      refine (nbr_any B g o _ wr hGr (by omega)).mono ?_
      rintro e w2 h2
      obtain ⟨a2, cap2, rfl, hR2, hb2⟩ := h2.rt
      have Hr2 := Lib.hid (Hr.out.below hb2)
      have HB := Lib.hid (both_any w2.heap.size _ _ _ _ w2 Hr2.out.rl hR2.rl (nbr_sorted o v) (nbr_sorted o (nth (nbr o v) k)) (Nat.le_refl _) (by omega) (by have := nbr_len o (nth (nbr o v) k); omega))
      have bel2 := bel.trans (hb2.mono hsz)
      clear h2 hR2 Hr bel hb2 hc ix hGr
      go_wp2_with fail
      refine HB.out.mono ?_
      rintro e w3 h3
      obtain ⟨a3, cap3, rfl, -, hb3⟩ := h3.rt
      have hil := inter_len (nbr o v) (nbr o (nth (nbr o v) k))
      have Hr3 := Lib.hid (Hr2.out.below hb3)
      have hsz2 := bel2.size
      have bel3 := bel2.trans (hb3.mono hsz2)
      clear h3 Hr2 bel2 hb3 HB
      go_wp2_with fail
      go_roundw
      case rel => exact ⟨k + 1, by omega, by go_num, by rw [Hs.out]; go_num, Hr3, bel3⟩
      case measure => simp only [intOf]; omega
    · obtain rfl : k = (nbr o v).length := by omega
      go_wp2_with fail
      go_ret
      exact ⟨rfl, bel⟩

set_option maxRecDepth 100000 in
set_option maxHeartbeats 1000000 in
theorem common_any (B : Nat) (g : Option Addr) (o : Option (Nat × List Ed)) (u v : Int) (w : World) (hg : GV w B (.pointer g) o) (hB : B ≤ w.heap.size) :
    Calls Try.prog 25 #[.pointer g, .int .i64 u, .int .i64 v] w (OwnInts w.heap.size (inter (nbr o u) (nbr o v)) w) := by
  have hG := hg.good
  have hgn := hG.n_le
  go_enter Try.func25, Try.ntmps25
  go_wp2_with fail
  refine (nbr_any B g o u w hg hB).mono ?_
  rintro e w1 h1
  obtain ⟨a, cap, rfl, hR, hb1⟩ := h1.rt
  have hs1 := hb1.size
  have hGr := hg.below (hb1.mono hB)
  go_wp2_with fail
  refine (nbr_any B g o v w1 hGr (by omega)).mono ?_
  rintro e w2 h2
  obtain ⟨a2, cap2, rfl, hR2, hb2⟩ := h2.rt
  have hs2 := hb2.size
  have HB := Lib.hid (both_any w2.heap.size _ _ _ _ w2 (hR.below hb2).rl hR2.rl (nbr_sorted o u) (nbr_sorted o v) (Nat.le_refl _) (by have := nbr_len o u; omega) (by have := nbr_len o v; omega))
  clear hR hR2 h1 h2 hGr
  go_wp2_with fail
  refine HB.out.mono ?_
  rintro e w3 ⟨x, rfl, hrow, hnil, hb3⟩
  go_wp2_with fail
  go_ret
  exact ⟨x, rfl, ownsRow_base_a hrow (by omega), hnil, hb1.trans ((hb2.trans (hb3.mono hs2)).mono hs1)⟩

set_option maxRecDepth 100000 in
set_option maxHeartbeats 1000000 in
theorem strength_out (B : Nat) (v : Value) (o : Option (Nat × List Ed)) (u : Int) (w : World) (h : GV w B v o) (hu : gHas o u = false) :
    Calls Try.prog 51 #[v, .int .i64 u] w fun e w' => e = .returned (.tuple #[.int .i64 0, .int .i64 (if o.isSome then 3 else 1)]) ∧ w = w' := by
  have hv := valid_any B v o w h
  have hh := has_is hu h
  obtain ⟨p, rfl⟩ : ∃ p, v = .pointer p := by
    cases o with
    | some x => obtain ⟨b, rfl, _⟩ := h; exact ⟨_, rfl⟩
    | none => rcases h with rfl | ⟨b, rfl, _⟩ <;> exact ⟨_, rfl⟩
  clear h hu
  cases o with
  | some x =>
    go_enter Try.func51, Try.ntmps51
    go_wp2_with fail
    refine hv.mono ?_
    rintro e w' ⟨rfl, rfl⟩
    simp only [Option.isSome_some]
    go_wp2_with fail
    refine hh.mono ?_
    rintro e w' ⟨rfl, rfl⟩
    go_wp2_with fail
    go_ret2
    exact ⟨rfl, rfl⟩
  | none =>
    go_enter Try.func51, Try.ntmps51
    go_wp2_with fail
    refine hv.mono ?_
    rintro e w' ⟨rfl, rfl⟩
    simp only [Option.isSome_none]
    go_wp2_with fail
    go_ret2
    exact ⟨rfl, rfl⟩

set_option maxHeartbeats 400000 in
theorem tvalid_any (B : Nat) (v : Value) (o : Option (Nat × List Ed)) (w : World) (h : GV w B v o) :
    Calls Try.prog 34 #[v] w fun e w' => e = .returned (.bool o.isSome) ∧ w = w' := by
  have hs := strength_out B v o (-1) w h (gHas_no (by omega))
  obtain ⟨p, rfl⟩ : ∃ p, v = .pointer p := by
    cases o with
    | some x => obtain ⟨b, rfl, _⟩ := h; exact ⟨_, rfl⟩
    | none => rcases h with rfl | ⟨b, rfl, _⟩ <;> exact ⟨_, rfl⟩
  clear h
  cases o with
  | some x =>
    simp only [Option.isSome_some, if_true] at hs ⊢
    go_enter Try.func34, Try.ntmps34
    go_wp2_with fail
    refine hs.mono ?_
    rintro e w' ⟨rfl, rfl⟩
    go_wp2_with fail
    go_ret
    exact ⟨rfl, rfl⟩
  | none =>
    simp only [Option.isSome_none, Bool.false_eq_true, if_false] at hs ⊢
    go_enter Try.func34, Try.ntmps34
    go_wp2_with fail
    refine hs.mono ?_
    rintro e w' ⟨rfl, rfl⟩
    go_wp2_with fail
    go_ret
    exact ⟨rfl, rfl⟩

/-- pairs of so many -/
def pr (n : Nat) : Int := (n : Int) * ((n : Int) - 1) / 2
theorem pr_bd {n : Nat} (h : n ≤ 4096) : 0 ≤ (n : Int) * ((n : Int) - 1) ∧ (n : Int) * ((n : Int) - 1) ≤ 16777216 := by
  rcases Nat.eq_zero_or_pos n with rfl | h0
  · simp
  · exact ⟨Int.mul_nonneg (by omega) (by omega), Int.le_trans (Int.mul_le_mul (show (n : Int) ≤ 4096 by omega) (show (n : Int) - 1 ≤ 4096 by omega) (by omega) (by omega)) (by decide)⟩
theorem pr_le {n : Nat} (h : n ≤ 4096) : 0 ≤ pr n ∧ pr n ≤ 8388608 := by
  have := pr_bd h
  unfold pr; omega
set_option maxHeartbeats 400000 in
theorem pairs_any (n : Nat) (w : World) (h : n ≤ 4096) :
    Calls Try.prog 37 #[.int .i64 (n : Nat)] w fun e w' => e = .returned (.int .i64 (pr n)) ∧ w = w' := by
  have hb := pr_bd h
  go_enter Try.func37, Try.ntmps37
  go_wp2
  go_ret
  exact ⟨rfl, rfl⟩

/-- what ratio answers -/
def raN (p q : Int) : Int := if q = 0 then 0 else rN p q
def raD (p q : Int) : Int := if q = 0 then 1 else rD p q
set_option maxHeartbeats 400000 in
theorem ratio_any (p q : Int) (w : World) (h0 : -1099511627776 ≤ p) (h1 : p ≤ 1099511627776) (hd : 0 ≤ q) (hd1 : q ≤ 1099511627776) :
    Calls Try.prog 36 #[.int .i64 p, .int .i64 q] w fun e w' => e = .returned (.tuple #[.agg #[.int .i64 (raN p q), .int .i64 (raD p q)], .int .i64 0]) ∧ Below w.heap.size w w' := by
  by_cases hq : q = 0
  · subst hq
    go_enter Try.func36, Try.ntmps36
    go_wp2_with fail
    exact bodyPost_ret (v := .tuple #[.agg #[.int .i64 0, .int .i64 1], .int .i64 0]) (by simp [results, Try.results36, go_sem]) rfl ⟨rfl, (Below.refl _ _).alloc (Nat.le_refl _) _⟩
  · have hq0 : (q == 0) = false := by simp [hq]
    have HN := Lib.hid (show raN p q = rN p q from if_neg hq)
    have HD := Lib.hid (show raD p q = rD p q from if_neg hq)
    have hqp : 0 < q := by omega
    clear hq
    go_enter Try.func36, Try.ntmps36
    go_wp2_with fail
    refine (reduce_any p q _ h0 h1 hqp hd1).mono ?_
    rintro e w1 ⟨rfl, hb⟩
    have c0 : w1.cell? ⟨w.heap.size, 0, none⟩ = some (.int .i64 0) := (hb.cell (by simp)).trans (by go_simp)
    have c1 : w1.cell? ⟨w.heap.size, 1, none⟩ = some (.int .i64 0) := (hb.cell (by simp)).trans (by go_simp)
    have z : ∀ j : Nat, w1.frozen? ⟨w.heap.size, j, none⟩ = false := fun j => (hb.frozen (by simp)).trans (by go_simp)
    have hbel : Below w.heap.size w w1 := ((Below.refl _ _).alloc (Nat.le_refl _) _).trans (hb.mono (by simp))
    clear hb
    go_wp2_with fail
    exact bodyPost_ret (v := .tuple #[.agg #[.int .i64 (rN p q), .int .i64 (rD p q)], .int .i64 0]) (by simp [results, Try.results36, go_sem, c0, c1]) rfl ⟨by rw [HN.out, HD.out], (hbel.setCell (p := ⟨w.heap.size, 0, none⟩) (Nat.le_refl _) _).setCell (p := ⟨w.heap.size, 1, none⟩) (Nat.le_refl _) _⟩
end Go.Proofs.Ytjdpkjjlcbgnbaa
