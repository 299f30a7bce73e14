/- The walk of New of package graph, and how a graph lies in memory. Conditions: the edges are given as cells. -/
import Derived.Test.YtpbgophogneecaaGreatBuild
namespace Go.Proofs.YtpbgophogneecaaGreat
open Go.RowKit

/-- a graph that New has made, below block B -/
structure GraphAt (w : World) (B b n : Nat) (E : List Ed) : Prop where
  ok : GOk n E
  lt : b < B
  mem : ∃ sb lb a cap h A, sb < B ∧ lb < B ∧ Row w b 4 (grC b sb lb n E.length (.slice a E.length cap)) ∧ Row w sb (n + 1) (i64F (pre E)) ∧ Row w lb (2 * E.length) (i64I h) ∧ Lst E n E.length h ∧ ES w B (.slice a E.length cap) E A
section
variable {w w' : World} {B B' b n : Nat} {E : List Ed}
theorem GraphAt.below (h : GraphAt w B b n E) (hb : Below B w w') : GraphAt w' B b n E := by
  obtain ⟨sb, lb, a, cap, f, A, h1, h2, h3, h4, h5, h6, h7⟩ := h.mem
  exact ⟨h.ok, h.lt, sb, lb, a, cap, f, A, h1, h2, h3.below hb h.lt, h4.below hb h1, h5.below hb h2, h6, h7.below hb⟩
theorem GraphAt.mono (h : GraphAt w B b n E) (hB : B ≤ B') : GraphAt w B' b n E := by
  obtain ⟨sb, lb, a, cap, f, A, h1, h2, h3, h4, h5, h6, h7⟩ := h.mem
  exact ⟨h.ok, Nat.lt_of_lt_of_le h.lt hB, sb, lb, a, cap, f, A, by omega, by omega, h3, h4, h5, h6, h7.mono hB⟩
end
/-- what New answers -/
def GNew (n : Int) (E : List Ed) (w : World) (e : Ending) (w' : World) : Prop :=
  Below w.heap.size w w' ∧ ((gErr n E ≠ 0 ∧ e = .returned (.tuple #[.pointer none, .int .i64 (gErr n E)])) ∨
    (∃ b k : Nat, n = k ∧ GOk k E ∧ e = .returned (.tuple #[.pointer (some ⟨b, 0, none⟩), .int .i64 0]) ∧ GraphAt w' w'.heap.size b k E))
theorem badE_true {n : Int} {e : Ed} (h : e.u < 0 ∨ n ≤ e.u ∨ e.v < 0 ∨ n ≤ e.v) : badE n e = true := by simp only [badE, decide_eq_true_eq]; exact h
theorem gErr_two {n : Int} {E : List Ed} (h : n < 0 ∨ 4096 < n ∨ 16384 < E.length) : gErr n E = 2 := by rw [gErr, if_pos h]

set_option maxRecDepth 100000 in
set_option maxHeartbeats 2000000 in
theorem gnew_any (B : Nat) (a : Option Addr) (cap : Nat) (A : Nat → Addr) (n : Int) (E : List Ed) (w : World) (hS : ES w B (.slice a E.length cap) E A) (hB : B ≤ w.heap.size) (hm : E.length ≤ 9223372036854775807) :
    Calls Tryz.prog 7 #[.int .i64 n, .slice a E.length cap] w (GNew n E w) := by
  by_cases h1 : n < 0
  · have he := Lib.hid (gErr_two (n := n) (E := E) (.inl h1))
    go_enter Tryz.func7, Tryz.ntmps7
    go_wp2_with fail
    go_ret2
    exact ⟨Below.refl _ _, .inl (by rw [he.out]; exact ⟨by decide, rfl⟩)⟩
  by_cases h2 : 4096 < n
  · have he := Lib.hid (gErr_two (n := n) (E := E) (.inr (.inl h2)))
    go_enter Tryz.func7, Tryz.ntmps7
    go_wp2_with fail
    go_ret2
    exact ⟨Below.refl _ _, .inl (by rw [he.out]; exact ⟨by decide, rfl⟩)⟩
  by_cases h3 : 16384 < E.length
  · have he := Lib.hid (gErr_two (n := n) (E := E) (.inr (.inr h3)))
    go_enter Tryz.func7, Tryz.ntmps7
    go_wp2_with fail
    go_ret2
    exact ⟨Below.refl _ _, .inl (by rw [he.out]; exact ⟨by decide, rfl⟩)⟩
  have he := Lib.hid (show gErr n E = scanE n E by rw [gErr, if_neg (by omega)])
  go_enter Tryz.func7, Tryz.ntmps7
  go_wp2_with fail
  go_loopw [21] (fun i wr => ∃ k : Nat, k ≤ E.length ∧ i = .int .i64 k ∧ Hid (scanE n E = scanE n (E.drop k)) ∧ Below w.heap.size w wr) (fun i _ => E.length - (intOf i).toNat)
  case atStart => exact ⟨0, Nat.zero_le _, rfl, Lib.hid rfl, Below.refl _ _⟩
  case round =>
    obtain ⟨k, hk, rfl, hs, bel⟩ := hrel
    by_cases hlt : k < E.length
    · have hEr := hS.below (bel.mono hB)
      have e0 := ES.u hEr hlt
      have e1 := ES.v hEr hlt
      have e2 := ES.w hEr hlt
      have ix := hEr.ix k hlt
      have bel2 := fun o => bel.alloc bel.size o
      by_cases c1 : (eAt E k).u < 0 ∨ n ≤ (eAt E k).u ∨ (eAt E k).v < 0 ∨ n ≤ (eAt E k).v
      · have hf := Lib.hid (hs.out.trans (scanE_bad hlt (badE_true c1)))
        rcases c1 with c | c | c | c
        · go_wp2_with fail
          go_ret2
          exact ⟨bel2 _, .inl (by rw [he.out, hf.out]; exact ⟨by decide, rfl⟩)⟩
        · have d1 : ¬ (eAt E k).u < 0 := by omega
          go_wp2_with fail
          go_ret2
          exact ⟨bel2 _, .inl (by rw [he.out, hf.out]; exact ⟨by decide, rfl⟩)⟩
        · by_cases d1 : (eAt E k).u < 0
          · go_wp2_with fail
            go_ret2
            exact ⟨bel2 _, .inl (by rw [he.out, hf.out]; exact ⟨by decide, rfl⟩)⟩
          · by_cases d2 : n ≤ (eAt E k).u
            all_goals
              go_wp2_with fail
              go_ret2
              exact ⟨bel2 _, .inl (by rw [he.out, hf.out]; exact ⟨by decide, rfl⟩)⟩
        · by_cases d1 : (eAt E k).u < 0
          · go_wp2_with fail
            go_ret2
            exact ⟨bel2 _, .inl (by rw [he.out, hf.out]; exact ⟨by decide, rfl⟩)⟩
          · by_cases d2 : n ≤ (eAt E k).u
            · go_wp2_with fail
              go_ret2
              exact ⟨bel2 _, .inl (by rw [he.out, hf.out]; exact ⟨by decide, rfl⟩)⟩
            · have d3 : ¬ (eAt E k).v < 0 := by omega
              go_wp2_with fail
              go_ret2
              exact ⟨bel2 _, .inl (by rw [he.out, hf.out]; exact ⟨by decide, rfl⟩)⟩
      · obtain ⟨c0, c2, c3, c4⟩ : 0 ≤ (eAt E k).u ∧ (eAt E k).u < n ∧ 0 ≤ (eAt E k).v ∧ (eAt E k).v < n := by omega
        have hb : badE n (eAt E k) = false := badE_iff.2 ⟨c0, c2, c3, c4⟩
        by_cases c5 : (eAt E k).u = (eAt E k).v
        · have hf := Lib.hid (hs.out.trans (scanE_loop hlt hb c5))
          have hq : ((eAt E k).u == (eAt E k).v) = true := beq_iff_eq.2 c5
          clear c5 hb c1
          go_wp2_with fail
          go_ret2
          exact ⟨bel2 _, .inl (by rw [he.out, hf.out]; exact ⟨by decide, rfl⟩)⟩
        · have hf := Lib.hid (hs.out.trans (scanE_next hlt hb c5))
          have hq : ((eAt E k).u == (eAt E k).v) = false := beq_eq_false_iff_ne.2 c5
          clear c5 hb c1
          go_wp2_with fail
          go_roundw
          case rel => exact ⟨k + 1, by omega, by go_num, hf, bel2 _⟩
          case measure => simp only [intOf]; omega
    · obtain rfl : k = E.length := by omega
      have h0 := hs.out
      rw [scanE_end] at h0
      obtain ⟨q, rfl, G⟩ := gErr_zero (he.out.trans h0)
      clear h0 hs
      go_wp2_with fail
      refine (cloneE B a cap E.length A (edC E) wr (hS.below (bel.mono hB)) (by have := bel.size; omega) (fun i _ j _ => edC_one E i j) (by omega)).mono ?_
      rintro e w2 ⟨a2, cap2, A2, rfl, S2, b2, -⟩
      go_wp2_with fail
      refine (build_any w2.heap.size a2 cap2 q A2 E w2 G S2 (Nat.le_refl _)).mono ?_
      rintro e w3 ⟨gb, sb, lb, f, rfl, S3, L3⟩
      go_wp2_with fail
      go_ret2
      have b3 := S3.bel
      exact ⟨bel.trans ((b2.trans (b3.mono b2.size)).mono bel.size), .inr ⟨gb, q, rfl, G, rfl, G, S3.gr.lt, sb, lb, a2, cap2, f, A2, S3.st.lt, S3.ls.lt, S3.gr, S3.st, S3.ls, L3, (S2.below b3).mono b3.size⟩⟩
end Go.Proofs.YtpbgophogneecaaGreat
