/- The walk of the law ClusterLists: all clusters at a threshold are those of the document. No conditions. -/
import Derived.Test.YtibdggbejogciaaGreatRh
import Derived.Test.YtibdggbejogciaaGreatRu
import Derived.Test.YtibdggbejogciaaGreatCk
import Derived.Test.YtibdggbejogciaaGreatCvGp
import Derived.Test.YtibdggbejogciaaGreatCz
namespace Go.Proofs.YtibdggbejogciaaGreat
open Go.RowKit

/-- both views tell the same clusters -/
structure ListOk (w : World) (v r : Value) (θ : Int) (n : Nat) (f : Nat → Nat) : Prop where
  len : n ≤ 4096
  a1 : ∀ W, Below w.heap.size w W → Calls Tryz.prog 18 #[v, .int .i64 θ] W (AllRes n f W)
  a2 : ∀ W, Below w.heap.size w W → Calls Tryz.prog 19 #[r, .int .i64 θ] W (AllRes n f W)
  c1 : ∀ W, Below w.heap.size w W → Calls Tryz.prog 20 #[v, .int .i64 θ] W fun e w' => e = .returned (.int .i64 (cntN n f : Nat)) ∧ Below W.heap.size W w'
  c2 : ∀ W, Below w.heap.size w W → Calls Tryz.prog 21 #[r, .int .i64 θ] W fun e w' => e = .returned (.int .i64 (cntN n f : Nat)) ∧ Below W.heap.size W w'
  l1 : ∀ W, Below w.heap.size w W → Calls Tryz.prog 22 #[v, .int .i64 θ] W (LabsRes n f W)
  l2 : ∀ W, Below w.heap.size w W → Calls Tryz.prog 23 #[r, .int .i64 θ] W (LabsRes n f W)
  r1 : ∀ W, Below w.heap.size w W → Calls Tryz.prog 24 #[v, .int .i64 θ] W (RowRes n f W)
  r2 : ∀ W, Below w.heap.size w W → Calls Tryz.prog 25 #[r, .int .i64 θ] W (RowRes n f W)
theorem rwall_nil (θ : Int) (W : World) : Calls Tryz.prog 19 #[.pointer none, .int .i64 θ] W (AllRes 0 id W) :=
  (rwall_no (w := W) θ).mono fun e w' ⟨h1, h2⟩ => ⟨_, h1, by subst h2; exact World.ownsRow_nil _ _ _ _, by subst h2; exact Below.refl _ _⟩
theorem BothV.lst {n : Int} {E : List Ed} {w w1 : World} {e : Ending} (h : BothV n E w e w1) (θ : Int) :
    ∃ (v r : Value) (k : Nat) (f : Nat → Nat), e = .returned (.tuple #[v, r, .bool true]) ∧ Below w.heap.size w w1 ∧ ListOk w1 v r θ k f := by
  obtain ⟨b1, ⟨_, rfl⟩ | ⟨k, vb, rb, rfl, G, rfl, hv, hr⟩⟩ := h
  · exact ⟨_, _, 0, id, rfl, b1, by decide, fun W hb => call_no (noVw_nil W) θ, fun W hb => rwall_nil θ W,
      fun W hb => (ccount_no (noVw_nil W) θ).mono fun e w' ⟨h1, h2⟩ => ⟨h1.trans rfl, h2⟩,
      fun W hb => rwcount_any _ 0 id θ (rwall_nil θ W),
      fun W hb => labs_no (noVw_nil W) θ id,
      fun W hb => (rwlabels_no (w := W) θ).mono fun e w' ⟨h1, h2⟩ => ⟨_, h1, by subst h2; exact World.ownsRow_nil _ _ _ _, by subst h2; exact Below.refl _ _⟩,
      fun W hb => crow_no (noVw_nil W) θ, fun W hb => rwrow_no (w := W) θ⟩
  · exact ⟨_, _, k, lbW E θ, rfl, b1, G.n_le, fun W hb => cv_all (hv.at hb) θ, fun W hb => rwall_any θ (hr.at hb),
      fun W hb => cv_count (hv.at hb) θ, fun W hb => rwcount_any _ k (lbW E θ) θ (rwall_any θ (hr.at hb)),
      fun W hb => clabels_any vb k E θ W (hv.at hb), fun W hb => rwlabels_any θ (hr.at hb),
      fun W hb => cv_row (hv.at hb) θ, fun W hb => rwrow_any θ (hr.at hb)⟩
set_option maxRecDepth 100000 in
set_option maxHeartbeats 2000000 in
theorem clists_walk (B : Nat) (a : Option Addr) (cap : Nat) (A : Nat → Addr) (n : Int) (E : List Ed) (θ : Int) (w : World) (hS : ES w B (.slice a E.length cap) E A) (hB : B ≤ w.heap.size) (hm : E.length ≤ 9223372036854775807) :
    Calls Tryz.prog 5 #[.int .i64 n, .slice a E.length cap, .int .i64 θ] w fun e w' => e = .returned (.bool true) ∧ Below w.heap.size w w' := by
  have HS := Lib.hid hS
  have HSm := Lib.hid (small_any n a cap E.length w hm)
  clear hS
  by_cases hl : (n ≤ 60 ∨ 4096 < n) ∧ E.length ≤ 150
  · rw [decide_eq_true hl] at HSm
    have HBo := Lib.hid (both_any B a cap A n E w HS.out hB hl.2)
    clear HS hl hm hB
    go_enter Tryz.func5, Tryz.ntmps5
    go_wp2_with fail
    refine HSm.out.mono ?_
    rintro e w0 ⟨rfl, rfl⟩
    go_wp2_with fail
    refine HBo.out.mono ?_
    intro e w1 hv
    obtain ⟨v, r, k, f, rfl, b1, ha⟩ := hv.lst θ
    have HL := Lib.hid ha; have B0 := Lib.hid b1
    have hk := ha.len
    obtain ⟨m, hmm⟩ : ∃ m, (gpL k f).length = m := ⟨_, rfl⟩
    have hmk : m ≤ 4096 := by rw [← hmm, gpL_len, lbL_len]; exact Nat.le_trans (cntN_le k f) hk
    obtain ⟨cn, hcn⟩ : ∃ x, cntN k f = x := ⟨_, rfl⟩
    obtain ⟨lg, hlg⟩ : ∃ x, lgN k f (lbL f k) = x := ⟨_, rfl⟩
    obtain ⟨sq, hsq⟩ : ∃ x, sqN k f (lbL f k) = x := ⟨_, rfl⟩
    have Hm := Lib.hid hmm; have Hcn := Lib.hid hcn; have Hlg := Lib.hid hlg; have Hsq := Lib.hid hsq
    clear ha b1 HBo HSm hv hmm hcn hlg hsq
    go_wp2_with fail
    refine (HL.out.a1 w1 (Below.refl _ _)).mono ?_
    intro e w2 h2
    obtain ⟨pa, pc, PA, rfl, hPA, b2⟩ := h2.rdP
    rw [Hm.out] at hPA ⊢
    have HPA := Lib.hid hPA; have B2 := Lib.hid b2
    clear h2 hPA b2
    go_wp2_with fail
    refine (HL.out.a2 w2 B2.out).mono ?_
    intro e w3 h3
    obtain ⟨qa, qc, QA, rfl, hQA, b3⟩ := h3.rdP
    rw [Hm.out] at hQA ⊢
    have HN := Lib.hid (groups_any w3.heap.size m m pa qa pc qc PA QA (gpL k f) (gpL k f) w3 Hm.out Hm.out ((HPA.out.below b3).mono b3.size) hQA (by omega))
    have B3 := Lib.hid (B2.out.trans (b3.mono B2.out.size))
    clear h3 hQA b3 HPA B2
    go_wp2_with fail
    refine HN.out.mono ?_
    rintro e w4 ⟨rfl, q, rfl⟩
    simp only [decide_true]
    have B4 := Lib.hid (below_drewN B3.out q)
    clear HN B3
    obtain ⟨w4, h4⟩ : ∃ x, w3.drewN q = x := ⟨_, rfl⟩
    rw [h4] at B4 ⊢
    clear h4
    go_wp2_with fail
    refine (HL.out.c1 w4 B4.out).mono ?_
    rintro e w5 ⟨rfl, b5⟩
    rw [Hcn.out]
    have B5 := Lib.hid (B4.out.trans (b5.mono B4.out.size))
    clear b5 B4
    go_wp2_with fail
    refine (HL.out.c2 w5 B5.out).mono ?_
    rintro e w6 ⟨rfl, b6⟩
    rw [Hcn.out]
    have B6 := Lib.hid (B5.out.trans (b6.mono B5.out.size))
    clear b6 B5
    have d5 : (((cn : Nat) : Int) != ((cn : Nat) : Int)) = false := by simp
    go_wp2_with fail
    refine (HL.out.l1 w6 B6.out).mono ?_
    rintro e w7 ⟨lv, rfl, hl7, b7⟩
    obtain ⟨la, lc, LA, rfl, hLA⟩ := hl7.rd
    have HLA := Lib.hid hLA
    have B7 := Lib.hid (B6.out.trans (b7.mono B6.out.size))
    clear hl7 hLA b7 B6
    go_wp2_with fail
    refine (HL.out.l2 w7 B7.out).mono ?_
    rintro e w8 ⟨rv, rfl, hr8, b8⟩
    obtain ⟨ra, rc, RA, rfl, hRA⟩ := hr8.rd
    have HN := Lib.hid (numbers_n w8.heap.size k k la ra lc rc LA RA _ _ w8 (by rw [intsN_len, labs_len]) (by rw [intsN_len, labs_len]) ((HLA.out.below b8).mono b8.size) hRA (by omega))
    have B8 := Lib.hid (B7.out.trans (b8.mono B7.out.size))
    clear hr8 hRA b8 HLA B7
    go_wp2_with fail
    refine HN.out.mono ?_
    rintro e w9 ⟨rfl, q, rfl⟩
    simp only [decide_true]
    have B9 := Lib.hid (below_drewN B8.out q)
    clear HN B8
    obtain ⟨w9, h9⟩ : ∃ x, w8.drewN q = x := ⟨_, rfl⟩
    rw [h9] at B9 ⊢
    clear h9
    go_wp2_with fail
    refine (HL.out.r1 w9 B9.out).mono ?_
    rintro e w10 ⟨rfl, b10⟩
    rw [Hlg.out, Hcn.out, Hsq.out]
    have B10 := Lib.hid (B9.out.trans (b10.mono B9.out.size))
    clear b10 B9
    go_wp2_with fail
    refine (HL.out.r2 w10 B10.out).mono ?_
    rintro e w11 ⟨rfl, b11⟩
    rw [Hlg.out, Hcn.out, Hsq.out]
    have B11 := Lib.hid (B10.out.trans (b11.mono B10.out.size))
    have hre := fun W => crow_eql (lg : Nat) (cn : Nat) (sq : Nat) (lg : Nat) (cn : Nat) (sq : Nat) W
    simp only [decide_true, Bool.and_self] at hre
    clear b11 B10
    go_wp2_with fail
    refine (works_any _).mono ?_
    rintro e w12 ⟨rfl, b12⟩
    have B12 := Lib.hid (B11.out.trans (b12.mono B11.out.size))
    clear b12 B11
    go_wp2_with fail
    go_ret
    exact ⟨rfl, B0.out.trans (B12.out.mono B0.out.size)⟩
  · rw [decide_eq_false hl] at HSm
    clear HS hl hm
    go_enter Tryz.func5, Tryz.ntmps5
    go_wp2_with fail
    refine HSm.out.mono ?_
    rintro e w0 ⟨rfl, rfl⟩
    go_wp2_with fail
    refine (works_any _).mono ?_
    rintro e w9 ⟨rfl, b9⟩
    go_wp2_with fail
    go_ret
    exact ⟨rfl, b9⟩
end Go.Proofs.YtibdggbejogciaaGreat
