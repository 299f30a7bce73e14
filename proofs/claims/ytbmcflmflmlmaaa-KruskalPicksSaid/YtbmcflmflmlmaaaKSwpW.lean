/- The walk of the law KruskalSwaps: the edge that a further edge replaces is that of the document. No conditions. -/
import Derived.Test.YtbmcflmflmlmaaaKWorks
import Derived.Test.YtbmcflmflmlmaaaRSwp
namespace Go.Proofs.Ytbmcflmflmlmaaa
open Go.RowKit

set_option maxRecDepth 100000 in
theorem small_any (n : Int) (a : Option Addr) (cap m : Nat) (w : World) (hm : m ≤ 9223372036854775807) :
    Calls Try.prog 17 #[.int .i64 n, .slice a m cap] w fun e w' => e = .returned (.bool (decide ((n ≤ 60 ∨ 4096 < n) ∧ m ≤ 150))) ∧ w' = w := by
  by_cases h1 : n ≤ 60
  · by_cases h2 : m ≤ 150
    · have d1 : decide (n ≤ 60) = true := decide_eq_true h1
      have d2 : decide ((m : Int) ≤ 150) = true := decide_eq_true (by omega)
      have d3 : decide (m ≤ 150) = true := decide_eq_true h2
      have HR := Lib.hid (show decide ((n ≤ 60 ∨ 4096 < n) ∧ m ≤ 150) = true from decide_eq_true ⟨.inl h1, h2⟩)
      rw [HR.out]
      clear h1 h2
      go_enter Try.func17, Try.ntmps17
      go_wp2_with fail
      go_ret
      exact ⟨rfl, rfl⟩
    · have d1 : decide (n ≤ 60) = true := decide_eq_true h1
      have d2 : decide ((m : Int) ≤ 150) = false := decide_eq_false (by omega)
      have d3 : decide (m ≤ 150) = false := decide_eq_false h2
      have HR := Lib.hid (show decide ((n ≤ 60 ∨ 4096 < n) ∧ m ≤ 150) = false from decide_eq_false (fun h => h2 h.2))
      rw [HR.out]
      clear h1 h2
      go_enter Try.func17, Try.ntmps17
      go_wp2_with fail
      go_ret
      exact ⟨rfl, rfl⟩
  · have d1 : decide (n ≤ 60) = false := decide_eq_false h1
    by_cases h3 : 4096 < n
    · have d4 : decide (n > 4096) = true := decide_eq_true h3
      by_cases h2 : m ≤ 150
      · have d2 : decide ((m : Int) ≤ 150) = true := decide_eq_true (by omega)
        have d3 : decide (m ≤ 150) = true := decide_eq_true h2
        have HR := Lib.hid (show decide ((n ≤ 60 ∨ 4096 < n) ∧ m ≤ 150) = true from decide_eq_true ⟨.inr h3, h2⟩)
        rw [HR.out]
        clear h1 h2 h3
        go_enter Try.func17, Try.ntmps17
        go_wp2_with fail
        go_ret
        exact ⟨rfl, rfl⟩
      · have d2 : decide ((m : Int) ≤ 150) = false := decide_eq_false (by omega)
        have d3 : decide (m ≤ 150) = false := decide_eq_false h2
        have HR := Lib.hid (show decide ((n ≤ 60 ∨ 4096 < n) ∧ m ≤ 150) = false from decide_eq_false (fun h => h2 h.2))
        rw [HR.out]
        clear h1 h2 h3
        go_enter Try.func17, Try.ntmps17
        go_wp2_with fail
        go_ret
        exact ⟨rfl, rfl⟩
    · have d4 : decide (n > 4096) = false := decide_eq_false h3
      have HR := Lib.hid (show decide ((n ≤ 60 ∨ 4096 < n) ∧ m ≤ 150) = false from decide_eq_false (fun h => h.1.elim h1 h3))
      rw [HR.out]
      clear h1 h3
      go_enter Try.func17, Try.ntmps17
      go_wp2_with fail
      go_ret
      exact ⟨rfl, rfl⟩
/-- both answers are one -/
theorem swap_both {n : Int} {E : List Ed} {u v W : Int} {w w' : World} {e : Ending} (h : SwapRes n E u v W w e w') : ∃ x y, e = .returned (.tuple #[.int .i64 x, .int .i64 y]) ∧
    ∀ (w2 : World) (e2 : Ending) (w2' : World), RSwapRes n E u v W w2 e2 w2' → e2 = .returned (.tuple #[.int .i64 x, .int .i64 y]) := by
  rcases h with ⟨_, ⟨h0, rfl⟩ | ⟨h0, ⟨h1, rfl⟩ | ⟨h1, ⟨h2, rfl⟩ | ⟨h2, o, x, ho, hx, rfl⟩⟩⟩⟩
  · refine ⟨_, _, rfl, ?_⟩
    rintro w2 e2 w2' ⟨_, ⟨_, rfl⟩ | ⟨k0, _⟩⟩
    · rfl
    · exact absurd k0 h0
  · refine ⟨_, _, rfl, ?_⟩
    rintro w2 e2 w2' ⟨_, ⟨k0, _⟩ | ⟨_, ⟨_, rfl⟩ | ⟨k1, _⟩⟩⟩
    · exact absurd h0 k0
    · rfl
    · exact absurd k1 h1
  · refine ⟨_, _, rfl, ?_⟩
    rintro w2 e2 w2' ⟨_, ⟨k0, _⟩ | ⟨_, ⟨k1, _⟩ | ⟨_, ⟨_, rfl⟩ | ⟨k2, _⟩⟩⟩⟩
    · exact absurd h0 k0
    · exact absurd h1 k1
    · rfl
    · exact absurd h2 k2
  · refine ⟨_, _, rfl, ?_⟩
    rintro w2 e2 w2' ⟨_, ⟨k0, _⟩ | ⟨_, ⟨k1, _⟩ | ⟨_, ⟨k2, _⟩ | ⟨_, o2, o', ho2, ho', rfl⟩⟩⟩⟩
    · exact absurd h0 k0
    · exact absurd h1 k1
    · exact absurd k2 h2
    · obtain rfl := ho.uniq ho2
      rw [swap_eq (e := ⟨u, v, W⟩) ho ho' hx]
set_option maxRecDepth 100000 in
set_option maxHeartbeats 2000000 in
theorem swaps_walk (n : Int) (a : Option Addr) (cap : Nat) (E : List Ed) (A : Nat → Addr) (u v W : Int) (w : World) (hS : ES w w.heap.size (.slice a E.length cap) E A) (hl : E.length ≤ 9223372036854775807) :
    Calls Try.prog 5 #[.int .i64 n, .slice a E.length cap, .agg #[.int .i64 u, .int .i64 v, .int .i64 W]] w fun e w' => e = .returned (.bool true) ∧ Below w.heap.size w w' := by
  have HS := Lib.hid hS
  clear hS
  have hb0 : Below w.heap.size w (w.alloc (.cells #[.int .i64 u, .int .i64 v, .int .i64 W] 36)) := (Below.refl _ w).alloc (Nat.le_refl _) _
  have hr0 : Row (w.alloc (.cells #[.int .i64 u, .int .i64 v, .int .i64 W] 36)) w.heap.size 3 (fun i => (#[Value.int .i64 u, .int .i64 v, .int .i64 W] : Array Value).getD i undef) :=
    Row.lit (n := 3) (f := fun i => (#[Value.int .i64 u, .int .i64 v, .int .i64 W] : Array Value).getD i undef) w #[.int .i64 u, .int .i64 v, .int .i64 W] 36 (by simp) (fun i hi => by
      rw [Array.getD_eq_getD_getElem?, Array.getElem?_eq_getElem (by simpa using hi)]; rfl)
  have HB0 := Lib.hid hb0; have HR0 := Lib.hid hr0
  have HZ := Lib.hid (show (w.alloc (.cells #[.int .i64 u, .int .i64 v, .int .i64 W] 36)).heap.size = w.heap.size + 1 by simp)
  clear hb0 hr0
  go_enter Try.func5, Try.ntmps5
  go_wp2_with fail
  generalize w.alloc (.cells #[.int .i64 u, .int .i64 v, .int .i64 W] 36) = wa at *
  have hza : w.heap.size < wa.heap.size := by have := HZ.out; omega
  refine (small_any n a cap E.length wa hl).mono ?_
  rintro e wx ⟨rfl, rfl⟩
  by_cases hsm : (n ≤ 60 ∨ 4096 < n) ∧ E.length ≤ 150
  · rw [decide_eq_true hsm]
    have hl2 : E.length ≤ 150 := hsm.2
    have HSM := Lib.hid hsm
    have HS1 := Lib.hid ((HS.out.below HB0.out).mono HB0.out.size)
    clear hsm hl
    go_wp2_with (at_builtin; refine copiedAny etE rfl _ _ rfl HS1.out (Nat.le_refl _) (fun i _ j _ => edC_one E i j) _ rfl (by simp) rfl (by omega) (by omega) ?_; intro g cp w2 hg2 R2 D2; refine Hid.out ?_)
    obtain ⟨a2, c2, A2, e2, hE2⟩ := Rd.own etE R2
    cases e2
    have HE2 := Lib.hid hE2; have HS2 := Lib.hid ((HS1.out.below D2).mono D2.size); have B2 := Lib.hid (HB0.out.trans (D2.mono HB0.out.size))
    have hR2 := HR0.out.below D2 (by omega)
    have d0 : w2.cell? ⟨w.heap.size, 0, none⟩ = some (.int .i64 u) := hR2.cell (i := 0) (by omega)
    have d1 : w2.cell? ⟨w.heap.size, 1, none⟩ = some (.int .i64 v) := hR2.cell (i := 1) (by omega)
    have d2 : w2.cell? ⟨w.heap.size, 2, none⟩ = some (.int .i64 W) := hR2.cell (i := 2) (by omega)
    have hz2 := D2.size
    have HR2 := Lib.hid hR2
    refine Lib.hid ?_
    clear hE2 D2 R2 hR2
    go_wp2_with fail
    refine (swap_any w2.heap.size _ cp A2 n E u v W w2 HE2.out (Nat.le_refl _) (by omega)).mono ?_
    intro e w3 hres
    obtain ⟨x, y, rfl, hboth⟩ := swap_both hres
    have b3 := hres.1
    have HBo := Lib.hid hboth
    have HE3 := Lib.hid ((HE2.out.below b3).mono b3.size)
    have HS3 := Lib.hid ((HS2.out.below b3).mono b3.size)
    have B3 := Lib.hid (B2.out.trans (b3.mono B2.out.size))
    have hR3 := HR2.out.below b3 (by omega)
    clear d0 d1 d2
    have d0 : w3.cell? ⟨w.heap.size, 0, none⟩ = some (.int .i64 u) := hR3.cell (i := 0) (by omega)
    have d1 : w3.cell? ⟨w.heap.size, 1, none⟩ = some (.int .i64 v) := hR3.cell (i := 1) (by omega)
    have d2 : w3.cell? ⟨w.heap.size, 2, none⟩ = some (.int .i64 W) := hR3.cell (i := 2) (by omega)
    clear hres hboth b3 hR3
    go_wp2_with fail
    refine (rswap_any w3.heap.size a cap A n E u v W w3 HS3.out (Nat.le_refl _) (by omega)).mono ?_
    intro e w4 hres
    obtain rfl := HBo.out _ _ _ hres
    have b4 := hres.1
    have HE4 := Lib.hid ((HE3.out.below b4).mono b4.size)
    have HS4 := Lib.hid ((HS3.out.below b4).mono b4.size)
    have B4 := Lib.hid (B3.out.trans (b4.mono B3.out.size))
    have k1 : (x == x) = true := by simp
    have k2 : (y == y) = true := by simp
    clear hres b4 d0 d1 d2
    go_wp2_with fail
    refine (edges_same w4.heap.size _ a _ cap A2 A E _ HE4.out HS4.out (by omega)).mono ?_
    rintro e w6 ⟨rfl, q6, rfl⟩
    go_wp2_with fail
    refine (works_any _).mono ?_
    rintro e w7 ⟨rfl, b7⟩
    have B7 := Lib.hid ((below_drewN B4.out _).trans (b7.mono B4.out.size))
    clear b7
    go_wp2_with fail
    go_ret
    exact ⟨rfl, B7.out⟩
  · rw [decide_eq_false hsm]
    have HSM := Lib.hid hsm
    clear hsm
    go_wp2_with fail
    refine (works_any _).mono ?_
    rintro e w7 ⟨rfl, b7⟩
    have B7 := Lib.hid (HB0.out.trans (b7.mono HB0.out.size))
    clear b7
    go_wp2_with fail
    go_ret
    exact ⟨rfl, B7.out⟩
end Go.Proofs.Ytbmcflmflmlmaaa
