/- Whether two lists are the same; the walk of the law TriadCommon. No conditions. -/
import Derived.Test.YtjdpkjjlcbgnbaaRef3
import Derived.Deep.RegionHeld3
namespace Go.Proofs.Ytjdpkjjlcbgnbaa
open Go.RowKit Go.Shelf

set_option maxRecDepth 100000 in
theorem same_any (B : Nat) (a b : Option Addr) (cap cap2 : Nat) (A A2 : Nat → Addr) (l : List Int) (w : World) (S1 : Sl 48 .i64 w B (.slice a l.length cap) l A) (S2 : Sl 48 .i64 w B (.slice b l.length cap2) l A2) (hB : B ≤ w.heap.size) (hl : l.length ≤ 1000000) :
    Calls Try.prog 24 #[.slice a l.length cap, .slice b l.length cap2] w fun e w' => e = .returned (.bool true) ∧ Below w.heap.size w w' := by
  have H1 := Lib.hid S1
  have H2 := Lib.hid S2
  clear S1 S2
  go_enter Try.func24, Try.ntmps24
  go_wp2_with fail
  go_loopw [5] (fun i wr => ∃ k : Nat, k ≤ l.length ∧ i = .int .i64 k ∧ Below w.heap.size w wr) (fun i _ => l.length - (intOf i).toNat)
  case atStart => exact ⟨0, Nat.zero_le _, rfl, Below.refl _ _⟩
  case round =>
    obtain ⟨k, hk, rfl, bel⟩ := hrel
    by_cases hlt : k < l.length
    · have h1 := H1.out.below (bel.mono hB)
      have h2 := H2.out.below (bel.mono hB)
      have x1 := h1.ix k hlt
      have x2 := h2.ix k hlt
      have c1 : wr.cell? (A k) = some (.int .i64 (nth l k)) := Sl.at h1 hlt
      have c2 : wr.cell? (A2 k) = some (.int .i64 (nth l k)) := Sl.at h2 hlt
      have hq : (nth l k != nth l k) = false := by simp
      clear h1 h2
      go_wp2_with fail
      go_quiet (fail)
      go_wp2_with fail
      go_roundw
      case rel => exact ⟨k + 1, by omega, by go_num, below_drewN bel _⟩
      case measure => simp only [intOf]; omega
    · obtain rfl : k = l.length := by omega
      go_wp2_with fail
      go_ret
      exact ⟨rfl, bel⟩
theorem RT.sl {w : World} {v : Value} {l : List Int} (h : RT w v l) : ∃ A, Sl 48 .i64 w w.heap.size v l A := h.rl.rd
theorem same_rt {a b : Option Addr} {cap cap2 : Nat} {l : List Int} {w : World} (h1 : RT w (.slice a l.length cap) l) (h2 : RT w (.slice b l.length cap2) l) (hl : l.length ≤ 1000000) :
    Calls Try.prog 24 #[.slice a l.length cap, .slice b l.length cap2] w fun e w' => e = .returned (.bool true) ∧ Below w.heap.size w w' := by
  obtain ⟨A, S1⟩ := h1.sl
  obtain ⟨A2, S2⟩ := h2.sl
  exact same_any w.heap.size a b cap cap2 A A2 l w S1 S2 (Nat.le_refl _) hl
theorem rcommon_rt (B : Nat) (x : Value) (o : Option (Nat × List Ed)) (u v : Int) (w : World) (h : RG w B x o) (hB : B ≤ w.heap.size) :
    Calls Try.prog 26 #[x, .int .i64 u, .int .i64 v] w fun e w' => ∃ a cap, e = .returned (.slice a (inter (nbr o u) (nbr o v)).length cap) ∧ RT w' (.slice a (inter (nbr o u) (nbr o v)).length cap) (inter (nbr o u) (nbr o v)) ∧ Below w.heap.size w w' :=
  (rcommon_any B x o u v w h hB).mono fun e w' ⟨y, h1, h2, h3⟩ => by
    have h4 := RT.own h2
    obtain ⟨a, cap, rfl, _⟩ := h4.form
    exact ⟨a, cap, h1, h4, h3⟩

set_option maxRecDepth 100000 in
set_option maxHeartbeats 2000000 in
theorem common_walk (n : Int) (a : Option Addr) (cap : Nat) (E : List Ed) (A : Nat → Addr) (x y : Int) (w : World) (hS : ES w w.heap.size (.slice a E.length cap) E A) (hl : E.length ≤ 9223372036854775807) :
    Calls Try.prog 6 #[.int .i64 n, .slice a E.length cap, .agg #[.int .i64 x, .int .i64 y]] w fun e w' => e = .returned (.bool true) ∧ Below w.heap.size w w' := by
  have T0 := Two.new w x y 46
  have hb0 : Below w.heap.size w (w.alloc (.cells #[.int .i64 x, .int .i64 y] 46)) := (Below.refl _ _).alloc (Nat.le_refl _) _
  have hs0 : (w.alloc (.cells #[.int .i64 x, .int .i64 y] 46)).heap.size = w.heap.size + 1 := by simp
  have HS := Lib.hid ((hS.below hb0).mono hb0.size)
  clear hS
  go_enter Try.func6, Try.ntmps6
  go_wp2_with fail
  generalize w.alloc (.cells #[.int .i64 x, .int .i64 y] 46) = W0 at *
  by_cases hsm : n ≤ 40 ∧ E.length ≤ 150
  · have hx := decide_eq_true hsm
    clear hsm
    refine (small_is hx hl).mono ?_
    rintro e w1 ⟨rfl, rfl⟩
    clear hx
    go_wp2_with fail
    refine (both_new a cap A n E w1 HS.out hl).mono ?_
    rintro e w2 ⟨p, r, rfl, hG, hR, hb2⟩
    have HG := Lib.hid hG
    have HR := Lib.hid hR
    have hlen : (inter (nbr (gO n E) x) (nbr (gO n E) y)).length ≤ 1000000 := by
      have h1 := inter_len (nbr (gO n E) x) (nbr (gO n E) y)
      have h2 := nbr_len (gO n E) x
      have h3 := hG.good.n_le
      omega
    have T2 := T0.below hb2 (by omega)
    have c0 := T2.c0; have c1 := T2.c1
    have bel2 := hb0.trans (hb2.mono hb0.size)
    have hlt2 : w.heap.size < w2.heap.size := by have := hb2.size; omega
    have HC := Lib.hid (fun W (hW : Below w2.heap.size w2 W) => common_any w2.heap.size p (gO n E) x y W (HG.out.below hW) hW.size)
    have HC2 := Lib.hid (fun W (hW : Below w2.heap.size w2 W) => rcommon_rt w2.heap.size r (gO n E) x y W (HR.out.below hW) hW.size)
    clear hG hR T0 T2 hb2 hb0
    generalize inter (nbr (gO n E) x) (nbr (gO n E) y) = L at *
    go_wp2_with fail
    go_region_held3 (fun W => W.cell? ⟨w.heap.size, 0, none⟩ = some (.int .i64 x) ∧ W.cell? ⟨w.heap.size, 1, none⟩ = some (.int .i64 y) ∧ Below w2.heap.size w2 W) (first | exact ⟨c0, c1, (Below.refl _ _).drew⟩ | assumption) (first | (go_at_call 25; obtain ⟨k0, k1, hB⟩ := (by assumption : _ ∧ _ ∧ Below w2.heap.size w2 _); refine (HC.out _ hB).mono ?_; rintro e w3 h3; obtain ⟨a5, cap5, rfl, hR5, hb5⟩ := h3.rt; have hS3 : w3.cell? ⟨w.heap.size, 0, none⟩ = some (.int .i64 x) ∧ w3.cell? ⟨w.heap.size, 1, none⟩ = some (.int .i64 y) ∧ Below w2.heap.size w2 w3 := ⟨(hb5.cell (Nat.lt_of_lt_of_le hlt2 hB.size)).trans k0, (hb5.cell (Nat.lt_of_lt_of_le hlt2 hB.size)).trans k1, stepB0 hB hb5⟩) | (go_at_call 26; obtain ⟨k0, k1, hB⟩ := (by assumption : _ ∧ _ ∧ Below w2.heap.size w2 _); refine (HC2.out _ hB).mono ?_; rintro e w4 ⟨a6, cap6, rfl, hR6, hb6⟩; have hR7 := hR5.below hb6; have hS4 : w4.cell? ⟨w.heap.size, 0, none⟩ = some (.int .i64 x) ∧ w4.cell? ⟨w.heap.size, 1, none⟩ = some (.int .i64 y) ∧ Below w2.heap.size w2 w4 := ⟨(hb6.cell (Nat.lt_of_lt_of_le hlt2 hB.size)).trans k0, (hb6.cell (Nat.lt_of_lt_of_le hlt2 hB.size)).trans k1, stepB0 hB hb6⟩) | (go_at_call 24; obtain ⟨k0, k1, hB⟩ := (by assumption : _ ∧ _ ∧ Below w2.heap.size w2 _); refine (same_rt hR7 hR6 hlen).mono ?_; rintro e w5 ⟨rfl, hb7⟩; have hS5 : w5.cell? ⟨w.heap.size, 0, none⟩ = some (.int .i64 x) ∧ w5.cell? ⟨w.heap.size, 1, none⟩ = some (.int .i64 y) ∧ Below w2.heap.size w2 w5 := ⟨(hb7.cell (Nat.lt_of_lt_of_le hlt2 hB.size)).trans k0, (hb7.cell (Nat.lt_of_lt_of_le hlt2 hB.size)).trans k1, stepB0 hB hb7⟩) | (go_at_call 13; obtain ⟨k0, k1, hB⟩ := (by assumption : _ ∧ _ ∧ Below w2.heap.size w2 _); refine (works_any _).mono ?_; rintro e w6 ⟨rfl, hb8⟩; have hS6 : w6.cell? ⟨w.heap.size, 0, none⟩ = some (.int .i64 x) ∧ w6.cell? ⟨w.heap.size, 1, none⟩ = some (.int .i64 y) ∧ Below w2.heap.size w2 w6 := ⟨(hb8.cell (Nat.lt_of_lt_of_le hlt2 hB.size)).trans k0, (hb8.cell (Nat.lt_of_lt_of_le hlt2 hB.size)).trans k1, stepB0 hB hb8⟩))
    obtain ⟨-, -, h6⟩ := hS6
    go_wp2_with fail
    go_ret
    exact ⟨rfl, bel2.trans (h6.mono bel2.size)⟩
  · have hx := decide_eq_false hsm
    clear hsm
    refine (small_is hx hl).mono ?_
    rintro e w1' ⟨rfl, rfl⟩
    go_wp2_with fail
    refine (works_any w1').mono ?_
    rintro e w2 ⟨rfl, hb2⟩
    go_wp2_with fail
    go_ret
    exact ⟨rfl, hb0.trans (hb2.mono hb0.size)⟩
end Go.Proofs.Ytjdpkjjlcbgnbaa
