/- The walk of the law TriadSums. No conditions. -/
import Derived.Test.YtjdpkjjlcbgnbaaNilL
import Derived.Test.YtjdpkjjlcbgnbaaSum
namespace Go.Proofs.Ytjdpkjjlcbgnbaa
open Go.RowKit Go.Shelf

theorem small_any (a : Option Addr) (cap len : Nat) (n : Int) (w : World) (hl : len ≤ 9223372036854775807) :
    Calls Try.prog 12 #[.int .i64 n, .slice a len cap] w fun e w' => e = .returned (.bool (decide (n ≤ 40 ∧ len ≤ 150))) ∧ w' = w := by
  by_cases h1 : n ≤ 40
  · by_cases h2 : (len : Int) ≤ 150
    · have h2' : len ≤ 150 := by omega
      go_enter Try.func12, Try.ntmps12
      go_wp2_with fail
      go_ret
      simp [h1, h2']
    · have h2' : ¬ len ≤ 150 := by omega
      go_enter Try.func12, Try.ntmps12
      go_wp2_with fail
      go_ret
      simp
  · go_enter Try.func12, Try.ntmps12
    go_wp2_with fail
    go_ret
    simp; omega
theorem small_is {a : Option Addr} {cap len : Nat} {n : Int} {w : World} {x : Bool} (hx : decide (n ≤ 40 ∧ len ≤ 150) = x) (hl : len ≤ 9223372036854775807) :
    Calls Try.prog 12 #[.int .i64 n, .slice a len cap] w fun e w' => e = .returned (.bool x) ∧ w' = w := by
  subst hx; exact small_any a cap len n w hl
/-- the number of triangles of the first k vertices -/
def sumT (n : Nat) (E : List Ed) (k : Nat) : Nat := sumN k (T3 n E)
theorem sumT_succ (n : Nat) (E : List Ed) (k : Nat) : sumT n E (k + 1) = sumT n E k + T3 n E k := rfl
theorem T3_le {n : Nat} {E : List Ed} (G : GOk n E) (v : Nat) : T3 n E v ≤ 8388608 := by
  have h1 := at_half G v
  have h2 := atS_le (show GoG (some (n, E)) from G) (v : Int)
  omega
theorem sumT_le {n : Nat} {E : List Ed} (G : GOk n E) : ∀ k, sumT n E k ≤ k * 8388608
  | 0 => by simp [sumT, sumN]
  | k + 1 => by have h1 := sumT_le G k; have h2 := T3_le G k; rw [sumT_succ]; omega

set_option maxRecDepth 100000 in
set_option maxHeartbeats 2000000 in
theorem sums_walk (n : Int) (a : Option Addr) (cap : Nat) (E : List Ed) (A : Nat → Addr) (w : World) (hS : ES w w.heap.size (.slice a E.length cap) E A) (hl : E.length ≤ 9223372036854775807) :
    Calls Try.prog 9 #[.int .i64 n, .slice a E.length cap] w fun e w' => e = .returned (.bool true) ∧ Below w.heap.size w w' := by
  go_enter Try.func9, Try.ntmps9
  go_wp2_with fail
  refine (gnew_any w.heap.size a cap A n E w hS (Nat.le_refl _) hl).mono ?_
  clear hS
  rintro e w1 ⟨hb1, h1⟩
  rcases h1 with ⟨he, rfl⟩ | ⟨b, k, rfl, G, rfl, hG⟩
  · go_wp2_with fail
    refine (works_any w1).mono ?_
    rintro e w2 ⟨rfl, hb2⟩
    have hs1 := hb1.size
    go_wp2_with fail
    go_ret
    exact ⟨rfl, hb1.trans (hb2.mono hs1)⟩
  have hs1 := hb1.size
  by_cases hsm : (k : Int) ≤ 40 ∧ E.length ≤ 150
  · have hx := decide_eq_true hsm
    have hk : k ≤ 40 := by omega
    have hV : GV w1 w1.heap.size (.pointer (some ⟨b, 0, none⟩)) (some (k, E)) := ⟨b, rfl, hG⟩
    have hV := Lib.hid hV
    clear hsm hG
    go_wp2_with fail
    refine (small_is hx hl).mono ?_
    rintro e w1' ⟨rfl, rfl⟩
    clear hx hl
    go_wp2_with fail
    go_loopw [7, 8] (fun s i wr => ∃ j : Nat, j ≤ k ∧ i = .int .i64 j ∧ s = .int .i64 (sumT k E j : Nat) ∧ Below w1'.heap.size w1' wr) (fun _ i _ => k - (intOf i).toNat)
    case atStart => exact ⟨0, Nat.zero_le _, rfl, rfl, Below.refl _ _⟩
    case round =>
      obtain ⟨j, hj, rfl, rfl, bel⟩ := hrel
      have hsr := bel.size
      have hle := sumT_le G j
      by_cases hlt : j < k
      · have hji : (j : Int) < k := by omega
        have hT := T3_le G j
        go_wp2_with fail
        refine (at_count w1'.heap.size (some ⟨b, 0, none⟩) (some (k, E)) j wr (hV.out.below bel) (by omega)).mono ?_
        rintro e w3 ⟨rfl, hb3⟩
        rw [at_half G j]
        go_wp2_with fail
        go_roundw
        case rel => exact ⟨j + 1, by omega, by go_num, by rw [sumT_succ]; go_num, bel.trans (hb3.mono (by omega))⟩
        case measure => simp only [intOf]; omega
      · obtain rfl : j = k := by omega
        have hth : sumT j E j = 3 * (tri (some (j, E))).length := tri_thrice G
        have htl := tri_len (show GoG (some (j, E)) from G)
        have hnn : ¬ ((j : Int) < j) := by omega
        rw [hth]
        go_wp2_with fail
        refine (count_any w1'.heap.size (some ⟨b, 0, none⟩) (some (j, E)) wr (hV.out.below bel) (by omega)).mono ?_
        rintro e w3 ⟨rfl, hb3⟩
        have hs3 := hb3.size
        go_wp2_with fail
        refine (list_any w1'.heap.size (some ⟨b, 0, none⟩) (some (j, E)) 1099511627776 w3 (hV.out.below (bel.trans (hb3.mono (by omega)))) (by omega)).mono ?_
        rintro e w4 ⟨x, rfl, hx, hb4⟩
        obtain ⟨la, lc, rfl⟩ := own_len hx
        rw [show (tri (some (j, E))).take (Int.toNat 1099511627776) = tri (some (j, E)) from List.take_of_length_le (by rw [show Int.toNat 1099511627776 = 1099511627776 from rfl]; omega)]
        have hs4 := hb4.size
        clear hx
        go_wp2_with fail
        refine (count_any w1'.heap.size (some ⟨b, 0, none⟩) (some (j, E)) w4 (hV.out.below (bel.trans ((hb3.trans (hb4.mono (by omega))).mono (by omega)))) (by omega)).mono ?_
        rintro e w5 ⟨rfl, hb5⟩
        have hs5 := hb5.size
        go_wp2_with fail
        refine (works_any w5).mono ?_
        rintro e w6 ⟨rfl, hb6⟩
        go_wp2_with fail
        go_ret
        exact ⟨rfl, hb1.trans ((bel.trans ((hb3.trans ((hb4.trans ((hb5.trans (hb6.mono (by omega))).mono (by omega))).mono (by omega))).mono (by omega))).mono (by omega))⟩
  · have hx := decide_eq_false hsm
    clear hsm hG
    go_wp2_with fail
    refine (small_is hx hl).mono ?_
    rintro e w1' ⟨rfl, rfl⟩
    go_wp2_with fail
    refine (works_any w1').mono ?_
    rintro e w2 ⟨rfl, hb2⟩
    go_wp2_with fail
    go_ret
    exact ⟨rfl, hb1.trans (hb2.mono hs1)⟩
end Go.Proofs.Ytjdpkjjlcbgnbaa
