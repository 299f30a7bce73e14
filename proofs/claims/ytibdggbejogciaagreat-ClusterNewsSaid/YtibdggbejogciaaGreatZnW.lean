/- The walk of the law ClusterNews: which views there are, and their steps. No conditions. -/
import Derived.Test.YtibdggbejogciaaGreatRh
import Derived.Test.YtibdggbejogciaaGreatRs
import Derived.Test.YtibdggbejogciaaGreatCk
namespace Go.Proofs.YtibdggbejogciaaGreat
open Go.RowKit

/-- both views tell the same steps -/
structure NewsOk (w : World) (v r : Value) (P : List Int → Prop) : Prop where
  one : ∀ l m, P l → P m → l = m
  s1 : ∀ W, Below w.heap.size w W → Calls Tryz.prog 10 #[v] W fun e w' => ∃ l, P l ∧ RdsW l W e w'
  s2 : ∀ W, Below w.heap.size w W → Calls Tryz.prog 11 #[r] W fun e w' => ∃ l, P l ∧ l.length ≤ 16384 ∧ RdsW l W e w'
theorem RdsW.nil {w : World} : RdsW [] w (.returned (.slice none 0 0)) w := ⟨none, 0, fun _ => ⟨0, 0, none⟩, rfl, Rd.nil _, Below.refl _ _⟩
set_option maxRecDepth 100000 in
set_option maxHeartbeats 1000000 in
theorem rsteps_no (w : World) : Calls Tryz.prog 11 #[.pointer none] w fun e w' => e = .returned (.slice none 0 0) ∧ w = w' := by
  have HV := Lib.hid (rwvalid_no w)
  go_enter Tryz.func11, Tryz.ntmps11
  go_wp2_with fail
  refine HV.out.mono ?_
  rintro e w' ⟨rfl, rfl⟩
  go_wp2_with fail
  go_ret
  exact ⟨rfl, rfl⟩
theorem BothV.news {n : Int} {E : List Ed} {w w1 : World} {e : Ending} (h : BothV n E w e w1) :
    ∃ (v r : Value) (P : List Int → Prop), e = .returned (.tuple #[v, r, .bool true]) ∧ Below w.heap.size w w1 ∧ NewsOk w1 v r P := by
  obtain ⟨b1, ⟨_, rfl⟩ | ⟨k, vb, rb, rfl, G, rfl, hv, hr⟩⟩ := h
  · exact ⟨_, _, fun l => l = [], rfl, b1, fun l m h1 h2 => h1.trans h2.symm,
      fun W hb => (steps_no (noVw_nil W)).mono fun e w' h => by obtain ⟨rfl, rfl⟩ := h; exact ⟨[], rfl, RdsW.nil⟩,
      fun W hb => (rsteps_no W).mono fun e w' h => by obtain ⟨rfl, rfl⟩ := h; exact ⟨[], rfl, by decide, RdsW.nil⟩⟩
  · exact ⟨_, _, IsSteps k E, rfl, b1, fun l m h1 h2 => h1.one h2,
      fun W hb => (steps_any vb k E W (hv.at hb)).mono fun e w' ⟨o, ho, hs⟩ => ⟨_, stp_is G ho, hs.rds⟩,
      fun W hb => (rsteps_any (hr.at hb)).mono fun e w' ⟨l, h1, h2, h3⟩ => ⟨l, h1, Nat.le_trans h2 G.m_le, h3⟩⟩
set_option maxRecDepth 100000 in
set_option maxHeartbeats 2000000 in
theorem cnews_walk (B : Nat) (a : Option Addr) (cap : Nat) (A : Nat → Addr) (n : Int) (E : List Ed) (w : World) (hS : ES w B (.slice a E.length cap) E A) (hB : B ≤ w.heap.size) (hm : E.length ≤ 9223372036854775807) :
    Calls Tryz.prog 3 #[.int .i64 n, .slice a E.length cap] w fun e w' => e = .returned (.bool true) ∧ Below w.heap.size w w' := by
  have HS := Lib.hid hS
  have HSm := Lib.hid (small_any n a cap E.length w hm)
  clear hS
  by_cases hl : (n ≤ 60 ∨ 4096 < n) ∧ E.length ≤ 150
  · rw [decide_eq_true hl] at HSm
    have HBo := Lib.hid (both_any B a cap A n E w HS.out hB hl.2)
    clear HS hl hm hB
    go_enter Tryz.func3, Tryz.ntmps3
    go_wp2_with fail
    refine HSm.out.mono ?_
    rintro e w0 ⟨rfl, rfl⟩
    go_wp2_with fail
    refine HBo.out.mono ?_
    intro e w1 hv
    obtain ⟨v, r, P, rfl, b1, ha⟩ := hv.news
    have HL := Lib.hid ha; have B0 := Lib.hid b1
    clear ha b1 HBo HSm hv
    go_wp2_with fail
    refine (HL.out.s1 w1 (Below.refl _ _)).mono ?_
    rintro e w2 ⟨l, hl, pa, pc, PA, rfl, hPA, b2⟩
    have HPA := Lib.hid hPA; have B2 := Lib.hid b2; have HPl := Lib.hid hl
    clear hPA b2 hl
    obtain ⟨m, hmm⟩ : ∃ m, l.length = m := ⟨_, rfl⟩
    have Hm := Lib.hid hmm
    rw [hmm] at HPA ⊢
    clear hmm
    go_wp2_with fail
    refine (HL.out.s2 w2 B2.out).mono ?_
    rintro e w3 ⟨l', hl', hlen, qa, qc, QA, rfl, hQA, b3⟩
    obtain rfl := HL.out.one _ _ hl' HPl.out
    rw [Hm.out] at hQA hlen ⊢
    have HN := Lib.hid (weights_n w3.heap.size m m pa qa pc qc PA QA _ _ w3 Hm.out Hm.out ((HPA.out.below b3).mono b3.size) hQA (by omega))
    have B3 := Lib.hid (B2.out.trans (b3.mono B2.out.size))
    clear hQA b3 HPA B2 hl' hlen
    go_wp2_with fail
    refine HN.out.mono ?_
    rintro e w4 ⟨rfl, q, rfl⟩
    simp only [decide_true]
    have B4 := Lib.hid (below_drewN B3.out q)
    clear HN B3
    obtain ⟨w4, h4⟩ : ∃ x, w3.drewN q = x := ⟨_, rfl⟩
    rw [h4] at B4 ⊢
    clear h4
    go_wp2_with fail
    refine (works_any _).mono ?_
    rintro e w12 ⟨rfl, b12⟩
    have B12 := Lib.hid (B4.out.trans (b12.mono B4.out.size))
    clear b12 B4
    go_wp2_with fail
    go_ret
    exact ⟨rfl, B0.out.trans (B12.out.mono B0.out.size)⟩
  · rw [decide_eq_false hl] at HSm
    clear HS hl hm
    go_enter Tryz.func3, Tryz.ntmps3
    go_wp2_with fail
    refine HSm.out.mono ?_
    rintro e w0 ⟨rfl, rfl⟩
    go_wp2_with fail
    refine (works_any _).mono ?_
    rintro e w9 ⟨rfl, b9⟩
    go_wp2_with fail
    go_ret
    exact ⟨rfl, b9⟩
end Go.Proofs.YtibdggbejogciaaGreat
