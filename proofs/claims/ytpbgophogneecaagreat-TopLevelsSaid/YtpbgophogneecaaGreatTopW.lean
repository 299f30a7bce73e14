/- The walk of the law TopLevels, and of Levels where the graph is none. Conditions: the edges are given as cells. -/
import Derived.Test.YtpbgophogneecaaGreatLvW
import Derived.Test.YtpbgophogneecaaGreatLvL
import Derived.Test.YtpbgophogneecaaGreatWka
import Derived.Test.YtpbgophogneecaaGreatTcV
import Derived.Test.YtpbgophogneecaaGreatGrR
namespace Go.Proofs.YtpbgophogneecaaGreat
open Go.RowKit Go.Shelf

set_option maxRecDepth 100000 in
set_option maxHeartbeats 2000000 in
theorem levels_err (B : Nat) (a : Option Addr) (cap : Nat) (A : Nat → Addr) (n : Int) (E : List Ed) (w : World) (hS : ES w B (.slice a E.length cap) E A) (hB : B ≤ w.heap.size) (hm : E.length ≤ 9223372036854775807) (h0 : gErr n E ≠ 0) :
    Calls Tryz.prog 5 #[.int .i64 n, .slice a E.length cap] w fun e w' => e = .returned (.tuple #[.slice none 0 0, .int .i64 (gErr n E)]) ∧ Below w.heap.size w w' := by
  obtain ⟨w1, hw1⟩ : ∃ x, w.alloc (.cells #[.slice a E.length cap] 22) = x := ⟨_, rfl⟩
  have hz : w.heap.size ≤ w1.heap.size := by rw [← hw1]; simp
  have b1 : Below w.heap.size w w1 := by rw [← hw1]; exact (Below.refl _ _).alloc (Nat.le_refl _) _
  have c1 : w1.cell? ⟨w.heap.size, 0, none⟩ = some (.slice a E.length cap) := by rw [← hw1]; exact (Boxed.new w 22 (.slice a E.length cap)).cell
  have HG := Lib.hid (gnew_any B a cap A n E w1 (hS.below (b1.mono hB)) (Nat.le_trans hB hz) hm)
  have HB := Lib.hid b1
  have H0 := Lib.hid h0
  clear hS b1 hz h0
  go_enter Tryz.func5, Tryz.ntmps5
  go_wp2_with fail
  refine HG.out.mono ?_
  clear HG
  rintro e w2 ⟨b2, ⟨_, rfl⟩ | ⟨gb, k, _, G, rfl, _⟩⟩
  · have HB2 := Lib.hid (HB.out.trans (b2.mono HB.out.size))
    obtain ⟨er, her⟩ : ∃ er, gErr n E = er := ⟨_, rfl⟩
    have hne := H0.out
    rw [her] at hne ⊢
    have hne2 : (er == 0) = false := beq_eq_false_iff_ne.2 hne
    have HEr := Lib.hid her
    clear b2 HB H0 her c1 hw1
    go_wp2_with fail
    go_ret2
    exact ⟨by rw [HEr.out]; rfl, HB2.out⟩
  · subst_vars
    exact absurd (gErr_ok G) H0.out
/-- the row of labels -/
def rwF (n : Nat) (f : Nat → Nat) (i : Nat) : Value := (#[.int .i64 (lgN n f (lbL f n) : Nat), .int .i64 (cntN n f : Nat), .int .i64 (sqN n f (lbL f n) : Nat)] : Array Value).getD i undef
theorem nil_ok {n : Nat} (h : n ≤ 4096) : GOk n [] := ⟨h, by decide, fun i hi => absurd hi (Nat.not_lt_zero _)⟩
set_option maxRecDepth 100000 in
set_option maxHeartbeats 16000000 in
theorem toplv_walk (B : Nat) (a : Option Addr) (cap : Nat) (A : Nat → Addr) (n : Int) (E : List Ed) (θ : Int) (w : World) (hS : ES w B (.slice a E.length cap) E A) (hB : B ≤ w.heap.size) (hm : E.length ≤ 9223372036854775807) :
    Calls Tryz.prog 3 #[.int .i64 n, .slice a E.length cap, .int .i64 θ] w fun e w' => e = .returned (.bool true) ∧ Below w.heap.size w w' := by
  have HW := Lib.hid (fun w => works27_any w)
  have HS := Lib.hid hS
  clear hS
  by_cases hn : 30 < n
  · have k1 : decide ((30 : Int) < n) = true := decide_eq_true hn
    go_enter Tryz.func3, Tryz.ntmps3
    go_wp2_with fail
    refine (HW.out _).mono ?_
    rintro e w1 ⟨rfl, b1⟩
    have HB := Lib.hid b1
    clear b1
    go_wp2_with fail
    go_ret
    exact ⟨rfl, HB.out⟩
  have k1 : decide ((30 : Int) < n) = false := decide_eq_false hn
  by_cases hl : 60 < E.length
  · have k2 : decide ((60 : Int) < (E.length : Nat)) = true := decide_eq_true (by omega)
    go_enter Tryz.func3, Tryz.ntmps3
    go_wp2_with fail
    refine (HW.out _).mono ?_
    rintro e w1 ⟨rfl, b1⟩
    have HB := Lib.hid b1
    clear b1
    go_wp2_with fail
    go_ret
    exact ⟨rfl, HB.out⟩
  have k2 : decide ((60 : Int) < (E.length : Nat)) = false := decide_eq_false (by omega)
  by_cases h0 : gErr n E ≠ 0
  · have HL := Lib.hid (levels_err B a cap A n E w HS.out hB hm h0)
    have H0 := Lib.hid h0
    go_enter Tryz.func3, Tryz.ntmps3
    go_wp2_with fail
    refine HL.out.mono ?_
    clear HL
    rintro e w1 ⟨rfl, b1⟩
    have HB1 := Lib.hid b1
    have HC := Lib.hid (cnew_any B a cap A n E w1 (HS.out.below (b1.mono hB)) (Nat.le_trans hB b1.size) hm)
    clear b1
    go_wp2_with fail
    refine HC.out.mono ?_
    clear HC
    rintro e w2 ⟨b2, ⟨_, rfl⟩ | ⟨k, vb, _, G, _, _⟩⟩
    · have HB2 := Lib.hid (HB1.out.trans (b2.mono HB1.out.size))
      obtain ⟨er, her⟩ : ∃ er, gErr n E = er := ⟨_, rfl⟩
      have hne := H0.out
      rw [her] at hne ⊢
      have hne2 : (er == 0) = false := beq_eq_false_iff_ne.2 hne
      clear b2 HB1 H0 her h0
      go_wp2_with fail
      refine (HW.out _).mono ?_
      rintro e w3 ⟨rfl, b3⟩
      have HB3 := Lib.hid (HB2.out.trans (b3.mono HB2.out.size))
      clear b3
      go_wp2_with fail
      go_ret
      exact ⟨rfl, HB3.out⟩
    · subst_vars
      exact absurd (gErr_ok G) H0.out
  obtain ⟨k, rfl, G⟩ := gErr_zero (Decidable.of_not_not h0)
  have hkn := G.n_le
  have HG := Lib.hid G
  have HL := Lib.hid (levels_any B a cap k A E w G HS.out hB)
  clear G h0
  go_enter Tryz.func3, Tryz.ntmps3
  go_wp2_with fail
  refine HL.out.mono ?_
  clear HL
  rintro e w1 ⟨o, v, ho, rfl, hv, b1⟩
  obtain ⟨K, hK⟩ : ∃ K, lvK E o (o.length + 1) = K := ⟨_, rfl⟩
  have HK := Lib.hid hK
  have HO := Lib.hid ho
  rw [hK] at hv
  obtain ⟨la, lc, LA, rfl, hR⟩ := Rd.own etLv hv
  have HB1 := Lib.hid b1; have HR := Lib.hid hR
  have HC := Lib.hid (cnew_any B a cap A k E w1 (HS.out.below (b1.mono hB)) (Nat.le_trans hB b1.size) hm)
  have hKl : K.length ≤ E.length + 1 := by
    rw [← hK]
    have h1 := lvK_len E o (o.length + 1)
    have h2 := ho.len
    omega
  clear b1 hR hv ho hK
  go_wp2_with fail
  refine HC.out.mono ?_
  clear HC
  rintro e w2 ⟨b2, ⟨h9, _⟩ | ⟨k', vb, hk', _, rfl, hV⟩⟩
  · exact absurd (gErr_ok HG.out) h9
  obtain rfl : k = k' := by omega
  have HB2 := Lib.hid (HB1.out.trans (b2.mono HB1.out.size)); have HR2 := Lib.hid ((HR.out.below b2).mono b2.size); have HV := Lib.hid hV
  have HN := Lib.hid (gnew_any w2.heap.size none 0 (fun _ => ⟨0, 0, none⟩) k [] w2 (Rd.nil _) (Nat.le_refl _) (by decide))
  clear b2 hV HB1 HR hk'
  go_wp2_with fail
  refine HN.out.mono ?_
  clear HN
  rintro e w3 ⟨b3, ⟨h9, _⟩ | ⟨gb, k', hk', _, rfl, hg⟩⟩
  · exact absurd (gErr_ok (nil_ok hkn)) h9
  obtain rfl : k = k' := by omega
  have HB3 := Lib.hid (HB2.out.trans (b3.mono HB2.out.size)); have HR3 := Lib.hid ((HR2.out.below b3).mono b3.size); have HV3 := Lib.hid (HV.out.at b3)
  have HQ := Lib.hid (grow_any w3.heap.size gb k [] w3 hg (Nat.le_refl _))
  clear b3 hg HB2 HR2 HV hk'
  go_wp2_with fail
  refine HQ.out.mono ?_
  clear HQ
  rintro e w4 ⟨rfl, b4⟩
  have HB4 := Lib.hid (HB3.out.trans (b4.mono HB3.out.size)); have HR4 := Lib.hid ((HR3.out.below b4).mono b4.size); have HV4 := Lib.hid (HV3.out.at b4)
  have hid0 : labO ([] : List Ed) (List.range ([] : List Ed).length) = labO E (o.take 0) := rfl
  rw [hid0]
  obtain ⟨q1, hq1⟩ : ∃ q, lgN k (labO E (o.take 0)) (lbL (labO E (o.take 0)) k) = q := ⟨_, rfl⟩
  obtain ⟨q2, hq2⟩ : ∃ q, cntN k (labO E (o.take 0)) = q := ⟨_, rfl⟩
  obtain ⟨q3, hq3⟩ : ∃ q, sqN k (labO E (o.take 0)) (lbL (labO E (o.take 0)) k) = q := ⟨_, rfl⟩
  rw [hq1, hq2, hq3]
  clear b4 HB3 HR3 HV3 hid0
  obtain ⟨m, hm0⟩ : ∃ m, K.length = m := ⟨_, rfl⟩
  rw [hm0] at hKl HR4 ⊢
  have HM := Lib.hid hm0
  have Hq : Hid (∀ i, i < 3 → rwF k (labO E (o.take 0)) i = (#[Value.int .i64 (q1 : Nat), .int .i64 (q2 : Nat), .int .i64 (q3 : Nat)] : Array Value).getD i undef) := Lib.hid fun i hi => by
    unfold rwF; rw [hq1, hq2, hq3]
  clear hq1 hq2 hq3 hm0
  go_wp2_with fail
  go_loopw [14] (fun iv wr => ∃ i : Nat, i ≤ m ∧ iv = .int .i64 (i : Nat) ∧ Hid (Below w4.heap.size w4 wr) ∧ Hid (w4.heap.size < wr.heap.size) ∧ Hid (Row wr w4.heap.size 3 (rwF k (labO E (o.take (lvF E o θ (K.take i))))))) (fun iv _ => m - (intOf iv).toNat)
  case atStart =>
    refine ⟨0, Nat.zero_le _, rfl, Lib.hid ((Below.refl _ _).alloc (Nat.le_refl _) _), Lib.hid (by simp), Lib.hid ?_⟩
    exact (row3 w4 _ _ _ _).congr fun i hi => (Hq.out i hi).symm
  case round =>
    obtain ⟨i, hi, rfl, BW, HZ, HX⟩ := hrel
    by_cases hlt : i < m
    · have kl : decide ((i : Int) < (m : Nat)) = true := decide_eq_true (by omega)
      have hR := HR4.out.below BW.out
      have hii : i < (lvK E o (o.length + 1)).length := by rw [HK.out, HM.out]; exact hlt
      have hat := lv_at (E := E) (o := o) hii
      have hrow := lv_row HO.out hii
      have hnx : lvF E o θ (K.take (i + 1)) = lvS E o θ (lvF E o θ (K.take i)) (K.getD i 0) := by
        rw [List.take_add_one, List.getElem?_eq_getElem (by have := HM.out; omega)]
        rw [List.getD_eq_getElem?_getD, List.getElem?_eq_getElem (by have := HM.out; omega)]
        exact lvF_snoc E o θ _ _
      have hup : ∀ j, i = j + 1 → wtO E o (K.getD j 0 - 1) < wtO E o (K.getD i 0 - 1) := fun j hj => by
        subst hj
        have := lv_rise HO.out hii
        rw [HK.out] at this; exact this
      rw [HK.out] at hat hrow
      have i1 := hR.ix i hlt
      have l0 := hR.cell i hlt 0 (by omega)
      rw [add_zero] at l0
      have l1 : wr.cell? ⟨(LA i).block, (LA i).off + 1, none⟩ = some (lvC k E o K i 1) := hR.cell i hlt 1 (by omega)
      have l2 : wr.cell? ⟨(LA i).block, (LA i).off + 2, none⟩ = some (lvC k E o K i 2) := hR.cell i hlt 2 (by omega)
      have l3 : wr.cell? ⟨(LA i).block, (LA i).off + 3, none⟩ = some (lvC k E o K i 3) := hR.cell i hlt 3 (by omega)
      obtain ⟨j, hj⟩ : ∃ j, K.getD i 0 = j := ⟨_, rfl⟩
      have e0 : lvC k E o K i 0 = .int .i64 (wtO E o (j - 1)) := by unfold lvC lvV; rw [hj]; rfl
      obtain ⟨r1, hr1⟩ : ∃ r, lgN k (labO E (o.take j)) (lbL (labO E (o.take j)) k) = r := ⟨_, rfl⟩
      obtain ⟨r2, hr2⟩ : ∃ r, cntN k (labO E (o.take j)) = r := ⟨_, rfl⟩
      obtain ⟨r3, hr3⟩ : ∃ r, sqN k (labO E (o.take j)) (lbL (labO E (o.take j)) k) = r := ⟨_, rfl⟩
      have e1 : lvC k E o K i 1 = .int .i64 (r1 : Nat) := by unfold lvC lvV; rw [hj, ← hr1]; rfl
      have e2 : lvC k E o K i 2 = .int .i64 (r2 : Nat) := by unfold lvC lvV; rw [hj, ← hr2]; rfl
      have e3 : lvC k E o K i 3 = .int .i64 (r3 : Nat) := by unfold lvC lvV; rw [hj, ← hr3]; rfl
      rw [e0] at l0; rw [e1] at l1; rw [e2] at l2; rw [e3] at l3
      rw [hj] at hat hrow hnx hup
      have HC := Lib.hid (fun W (hb : Below w4.heap.size w4 W) => cv_row (HV4.out.at hb) (wtO E o (j - 1)))
      have HR3 : Hid (∀ i, i < 3 → (#[Value.int .i64 (r1 : Nat), .int .i64 (r2 : Nat), .int .i64 (r3 : Nat)] : Array Value).getD i undef = rwF k (labO E (o.take j)) i) := Lib.hid fun i hi => by
        unfold rwF; rw [hr1, hr2, hr3]
      unfold RowRes at HC
      rw [hrow, hr1, hr2, hr3] at HC
      obtain ⟨t, ht⟩ : ∃ t, wtO E o (j - 1) = t := ⟨_, rfl⟩
      rw [ht] at l0 HC hup
      have HNx := Lib.hid hnx; have HT := Lib.hid ht
      have hstart : (i = 0 ∧ decide ((i : Int) > 0) = false ∧ decide ((0 : Int) < (i : Int)) = false ∧ decide (0 < i) = false) ∨ ∃ j', i = j' + 1 := by
        by_cases h0 : i = 0
        · exact .inl ⟨h0, decide_eq_false (by omega), decide_eq_false (by omega), decide_eq_false (by omega)⟩
        · exact .inr ⟨i - 1, by omega⟩
      clear hat hrow hnx e0 e1 e2 e3 hr1 hr2 hr3 ht hii
      rcases hstart with ⟨h0, kz, kz', kz''⟩ | ⟨j', hkj⟩
      · clear hup h0
        have hb0 : (LA i).block < w4.heap.size := hR.lt i hlt
        clear hR
        have HS : (fun w' => w'.cell? (LA i) = some (.int .i64 t) ∧ w'.cell? ⟨(LA i).block, (LA i).off + 1, none⟩ = some (.int .i64 (r1 : Nat)) ∧ w'.cell? ⟨(LA i).block, (LA i).off + 2, none⟩ = some (.int .i64 (r2 : Nat)) ∧ w'.cell? ⟨(LA i).block, (LA i).off + 3, none⟩ = some (.int .i64 (r3 : Nat))) wr.drew := ⟨l0, l1, l2, l3⟩
        have HKp : Hid (∀ W, Below w4.heap.size w4 W → (fun w' => w'.cell? (LA i) = some (.int .i64 t) ∧ w'.cell? ⟨(LA i).block, (LA i).off + 1, none⟩ = some (.int .i64 (r1 : Nat)) ∧ w'.cell? ⟨(LA i).block, (LA i).off + 2, none⟩ = some (.int .i64 (r2 : Nat)) ∧ w'.cell? ⟨(LA i).block, (LA i).off + 3, none⟩ = some (.int .i64 (r3 : Nat))) W) := Lib.hid fun W hb => ⟨(hb.cell (p := LA i) hb0).trans (((BW.out.cell (p := LA i) hb0)).symm.trans l0), (hb.cell (p := ⟨(LA i).block, (LA i).off + 1, none⟩) hb0).trans (((BW.out.cell (p := ⟨(LA i).block, (LA i).off + 1, none⟩) hb0)).symm.trans l1), (hb.cell (p := ⟨(LA i).block, (LA i).off + 2, none⟩) hb0).trans (((BW.out.cell (p := ⟨(LA i).block, (LA i).off + 2, none⟩) hb0)).symm.trans l2), (hb.cell (p := ⟨(LA i).block, (LA i).off + 3, none⟩) hb0).trans (((BW.out.cell (p := ⟨(LA i).block, (LA i).off + 3, none⟩) hb0)).symm.trans l3)⟩
        go_wp2_with fail
        refine region_plain (fun w' => w'.cell? (LA i) = some (.int .i64 t) ∧ w'.cell? ⟨(LA i).block, (LA i).off + 1, none⟩ = some (.int .i64 (r1 : Nat)) ∧ w'.cell? ⟨(LA i).block, (LA i).off + 2, none⟩ = some (.int .i64 (r2 : Nat)) ∧ w'.cell? ⟨(LA i).block, (LA i).off + 3, none⟩ = some (.int .i64 (r3 : Nat))) (by kernel_rfl) ?_
        refine take_at (i := 0) (d := 62) (v := ?_) rfl rfl (by kernel_rfl) (by kernel_rfl) (by kernel_rfl) (fun _ _ _ _ => NormalOnly.any) rfl ?hy1 HS ?rest1
        case hy1 => intro w' hSw; (try dsimp only at hSw); go_simp; try (with_reducible rfl)
        try simp only [List.setIfInBounds_toArray, List.set_cons_zero, List.set_cons_succ]
        refine take_at (i := 1) (d := 63) (v := ?_) rfl rfl (by kernel_rfl) (by kernel_rfl) (by kernel_rfl) (fun _ _ _ _ => NormalOnly.any) rfl ?hy2 HS ?rest2
        case hy2 => intro w' hSw; (try dsimp only at hSw); go_simp; try (with_reducible rfl)
        try simp only [List.setIfInBounds_toArray, List.set_cons_zero, List.set_cons_succ]
        refine take_at (i := 2) (d := 64) (v := ?_) rfl rfl (by kernel_rfl) (by kernel_rfl) (by kernel_rfl) (fun _ _ _ _ => NormalOnly.any) rfl ?hy3 HS ?rest3
        case hy3 => intro w' hSw; (try dsimp only at hSw); go_simp; try (with_reducible rfl)
        try simp only [List.setIfInBounds_toArray, List.set_cons_zero, List.set_cons_succ]
        refine skip_lv (i := 3) (d := 65) rfl rfl (by kernel_rfl) (by kernel_rfl) (by kernel_rfl) (fun _ _ _ _ => NormalOnly.any) rfl HS ?_
        try simp only [List.setIfInBounds_toArray, List.set_cons_zero, List.set_cons_succ]
        refine skip_lv (i := 4) (d := 66) rfl rfl (by kernel_rfl) (by kernel_rfl) (by kernel_rfl) (fun _ _ _ _ => NormalOnly.any) rfl HS ?_
        try simp only [List.setIfInBounds_toArray, List.set_cons_zero, List.set_cons_succ]
        refine skip_lv (i := 5) (d := 67) rfl rfl (by kernel_rfl) (by kernel_rfl) (by kernel_rfl) (fun _ _ _ _ => NormalOnly.any) rfl HS ?_
        try simp only [List.setIfInBounds_toArray, List.set_cons_zero, List.set_cons_succ]
        refine skip_lv (i := 6) (d := 68) rfl rfl (by kernel_rfl) (by kernel_rfl) (by kernel_rfl) (fun _ _ _ _ => NormalOnly.any) rfl HS ?_
        try simp only [List.setIfInBounds_toArray, List.set_cons_zero, List.set_cons_succ]
        refine skip_lv (i := 7) (d := 69) rfl rfl (by kernel_rfl) (by kernel_rfl) (by kernel_rfl) (fun _ _ _ _ => NormalOnly.any) rfl HS ?_
        try simp only [List.setIfInBounds_toArray, List.set_cons_zero, List.set_cons_succ]
        refine skip_lv (i := 8) (d := 70) rfl rfl (by kernel_rfl) (by kernel_rfl) (by kernel_rfl) (fun _ _ _ _ => NormalOnly.any) rfl HS ?_
        try simp only [List.setIfInBounds_toArray, List.set_cons_zero, List.set_cons_succ]
        refine skip_lv (i := 9) (d := 71) rfl rfl (by kernel_rfl) (by kernel_rfl) (by kernel_rfl) (fun _ _ _ _ => NormalOnly.any) rfl HS ?_
        try simp only [List.setIfInBounds_toArray, List.set_cons_zero, List.set_cons_succ]
        refine skip_lv (i := 10) (d := 72) rfl rfl (by kernel_rfl) (by kernel_rfl) (by kernel_rfl) (fun _ _ _ _ => NormalOnly.any) rfl HS ?_
        try simp only [List.setIfInBounds_toArray, List.set_cons_zero, List.set_cons_succ]
        refine skip_lv (i := 11) (d := 73) rfl rfl (by kernel_rfl) (by kernel_rfl) (by kernel_rfl) (fun _ _ _ _ => NormalOnly.any) rfl HS ?_
        try simp only [List.setIfInBounds_toArray, List.set_cons_zero, List.set_cons_succ]
        refine skip_lv (i := 12) (d := 74) rfl rfl (by kernel_rfl) (by kernel_rfl) (by kernel_rfl) (fun _ _ _ _ => NormalOnly.any) rfl HS ?_
        try simp only [List.setIfInBounds_toArray, List.set_cons_zero, List.set_cons_succ]
        refine skip_lv (i := 13) (d := 75) rfl rfl (by kernel_rfl) (by kernel_rfl) (by kernel_rfl) (fun _ _ _ _ => NormalOnly.any) rfl HS ?_
        try simp only [List.setIfInBounds_toArray, List.set_cons_zero, List.set_cons_succ]
        refine skip_lv (i := 14) (d := 76) rfl rfl (by kernel_rfl) (by kernel_rfl) (by kernel_rfl) (fun _ _ _ _ => NormalOnly.any) rfl HS ?_
        try simp only [List.setIfInBounds_toArray, List.set_cons_zero, List.set_cons_succ]
        refine take_at (i := 15) (d := 77) (v := ?_) rfl rfl (by kernel_rfl) (by kernel_rfl) (by kernel_rfl) (fun _ _ _ _ => NormalOnly.any) rfl ?hy4 HS ?rest4
        case hy4 => intro w' hSw; (try dsimp only at hSw); go_simp; try (with_reducible rfl)
        try simp only [List.setIfInBounds_toArray, List.set_cons_zero, List.set_cons_succ]
        refine take_at (i := 16) (d := 78) (v := ?_) rfl rfl (by kernel_rfl) (by kernel_rfl) (by kernel_rfl) (fun _ _ _ _ => NormalOnly.any) rfl ?hy5 HS ?rest5
        case hy5 => intro w' hSw; (try dsimp only at hSw); go_simp; try (with_reducible rfl)
        try simp only [List.setIfInBounds_toArray, List.set_cons_zero, List.set_cons_succ]
        refine take_at (i := 17) (d := 79) (v := ?_) rfl rfl (by kernel_rfl) (by kernel_rfl) (by kernel_rfl) (fun _ _ _ _ => NormalOnly.any) rfl ?hy6 HS ?rest6
        case hy6 => intro w' hSw; (try dsimp only at hSw); go_simp; try (with_reducible rfl)
        try simp only [List.setIfInBounds_toArray, List.set_cons_zero, List.set_cons_succ]
        refine take_at (i := 18) (d := 80) (v := ?_) rfl rfl (by kernel_rfl) (by kernel_rfl) (by kernel_rfl) (fun _ _ _ _ => NormalOnly.any) rfl ?hy7 HS ?rest7
        case hy7 => intro w' hSw; (try dsimp only at hSw); go_simp; try (with_reducible rfl)
        try simp only [List.setIfInBounds_toArray, List.set_cons_zero, List.set_cons_succ]
        refine take_at (i := 19) (d := 81) (v := ?_) rfl rfl (by kernel_rfl) (by kernel_rfl) (by kernel_rfl) (fun _ _ _ _ => NormalOnly.any) rfl ?hy8 HS ?rest8
        case hy8 => intro w' hSw; (try dsimp only at hSw); go_simp; try (with_reducible rfl)
        try simp only [List.setIfInBounds_toArray, List.set_cons_zero, List.set_cons_succ]
        refine take_at (i := 20) (d := 82) (v := ?_) rfl rfl (by kernel_rfl) (by kernel_rfl) (by kernel_rfl) (fun _ _ _ _ => NormalOnly.any) rfl ?hy9 HS ?rest9
        case hy9 => intro w' hSw; (try dsimp only at hSw); go_simp; try (with_reducible rfl)
        try simp only [List.setIfInBounds_toArray, List.set_cons_zero, List.set_cons_succ]
        refine take_at (i := 21) (d := 83) (v := ?_) rfl rfl (by kernel_rfl) (by kernel_rfl) (by kernel_rfl) (fun _ _ _ _ => NormalOnly.any) rfl ?hy10 HS ?rest10
        case hy10 => intro w' hSw; (try dsimp only at hSw); go_simp; try (with_reducible rfl)
        try simp only [List.setIfInBounds_toArray, List.set_cons_zero, List.set_cons_succ]
        refine take_at (i := 22) (d := 84) (v := ?_) rfl rfl (by kernel_rfl) (by kernel_rfl) (by kernel_rfl) (fun _ _ _ _ => NormalOnly.any) rfl ?hy11 HS ?rest11
        case hy11 => intro w' hSw; (try dsimp only at hSw); go_simp; try (with_reducible rfl)
        try simp only [List.setIfInBounds_toArray, List.set_cons_zero, List.set_cons_succ]
        refine take_at (i := 23) (d := 85) (v := ?_) rfl rfl (by kernel_rfl) (by kernel_rfl) (by kernel_rfl) (fun _ _ _ _ => NormalOnly.any) rfl ?hy12 HS ?rest12
        case hy12 => intro w' hSw; (try dsimp only at hSw); go_simp; try (with_reducible rfl)
        try simp only [List.setIfInBounds_toArray, List.set_cons_zero, List.set_cons_succ]
        refine take_at (i := 24) (d := 86) (v := ?_) rfl rfl (by kernel_rfl) (by kernel_rfl) (by kernel_rfl) (fun _ _ _ _ => NormalOnly.any) rfl ?hy13 HS ?rest13
        case hy13 => intro w' hSw; (try dsimp only at hSw); go_simp; try (with_reducible rfl)
        try simp only [List.setIfInBounds_toArray, List.set_cons_zero, List.set_cons_succ]
        refine take_at (i := 25) (d := 87) (v := ?_) rfl rfl (by kernel_rfl) (by kernel_rfl) (by kernel_rfl) (fun _ _ _ _ => NormalOnly.any) rfl ?hy14 HS ?rest14
        case hy14 => intro w' hSw; (try dsimp only at hSw); go_simp; try (with_reducible rfl)
        try simp only [List.setIfInBounds_toArray, List.set_cons_zero, List.set_cons_succ]
        refine take_at (i := 26) (d := 88) (v := ?_) rfl rfl (by kernel_rfl) (by kernel_rfl) (by kernel_rfl) (fun _ _ _ _ => NormalOnly.any) rfl ?hy15 HS ?rest15
        case hy15 => intro w' hSw; (try dsimp only at hSw); go_simp; try (with_reducible rfl)
        try simp only [List.setIfInBounds_toArray, List.set_cons_zero, List.set_cons_succ]
        refine take_at (i := 27) (d := 89) (v := ?_) rfl rfl (by kernel_rfl) (by kernel_rfl) (by kernel_rfl) (fun _ _ _ _ => NormalOnly.any) rfl ?hy16 HS ?rest16
        case hy16 => intro w' hSw; (try dsimp only at hSw); go_simp; try (with_reducible rfl)
        try simp only [List.setIfInBounds_toArray, List.set_cons_zero, List.set_cons_succ]
        refine wpAnyH_ready (rs := [28]) (by kernel_rfl) (by simp) ?_
        refine AllReadyH.cons rfl (fun KK hK => ?_) AllReadyH.nil
        go_simp
        refine (HC.out _ (below_drewN BW.out 1)).mono ?_
        rintro e w5 ⟨rfl, b5⟩
        have BW5 := Lib.hid (BW.out.trans (((Below.refl _ wr).drew.trans b5).mono BW.out.size))
        have HX5 := Lib.hid (HX.out.below ((Below.refl _ wr).drew.trans b5) HZ.out)
        have HZ5 : Hid (w4.heap.size < w5.heap.size) := Lib.hid (Nat.lt_of_lt_of_le HZ.out b5.size)
        have HS := HKp.out w5 BW5.out
        refine hK.out _ _ HS (fun _ => ?_)
        clear hK b5
        try simp only [Act.put, List.setIfInBounds_toArray, List.set_cons_zero, List.set_cons_succ]
        refine take_at (i := 29) (d := 91) (v := ?_) rfl rfl (by kernel_rfl) (by kernel_rfl) (by kernel_rfl) (fun _ _ _ _ => NormalOnly.any) rfl ?hy17 HS ?rest17
        case hy17 => intro w' hSw; (try dsimp only at hSw); go_simp; try (with_reducible rfl)
        try simp only [List.setIfInBounds_toArray, List.set_cons_zero, List.set_cons_succ]
        refine take_at (i := 30) (d := 92) (v := ?_) rfl rfl (by kernel_rfl) (by kernel_rfl) (by kernel_rfl) (fun _ _ _ _ => NormalOnly.any) rfl ?hy18 HS ?rest18
        case hy18 => intro w' hSw; (try dsimp only at hSw); go_simp; try (with_reducible rfl)
        try simp only [List.setIfInBounds_toArray, List.set_cons_zero, List.set_cons_succ]
        refine wpAnyH_done (by kernel_rfl) ⟨rfl, ?_⟩ _
        obtain ⟨l0, l1, l2, l3⟩ := HS
        clear BW HX HZ HKp
        have x0 := HX5.out.cell (i := 0) (by omega); have x1 := HX5.out.cell (i := 1) (by omega); have x2 := HX5.out.cell (i := 2) (by omega)
        have f0 := HX5.out.frozen 0; have f1 := HX5.out.frozen 1; have f2 := HX5.out.frozen 2
        by_cases hc : t ≤ θ
        · have kt : decide (t ≤ θ) = true := decide_eq_true hc
          have hnew : lvF E o θ (K.take (i + 1)) = j := by rw [HNx.out]; unfold lvS; rw [HT.out, if_pos hc]
          have HNw := Lib.hid hnew
          clear hnew hc
          go_wp2_with fail
          go_roundw
          case rel =>
            refine ⟨i + 1, by omega, by go_num, Lib.hid (((BW5.out.setCell (Nat.le_refl _) _).setCell (Nat.le_refl _) _).setCell (Nat.le_refl _) _), Lib.hid (by simpa [World.setCell] using HZ5.out), Lib.hid ?_⟩
            rw [HNw.out]
            exact (((HX5.out.set 0 _).set 1 _).set 2 _).congr fun c hc => by
              rw [← HR3.out c hc]
              match c, hc with
              | 0, _ => rfl
              | 1, _ => rfl
              | 2, _ => rfl
              | q + 3, e => omega
          case measure => simp only [intOf]; omega
        · have kt : decide (t ≤ θ) = false := decide_eq_false hc
          have hnew : lvF E o θ (K.take (i + 1)) = lvF E o θ (K.take i) := by rw [HNx.out]; unfold lvS; rw [HT.out, if_neg hc]
          have HNw := Lib.hid hnew
          clear hnew hc
          go_wp2_with fail
          go_roundw
          case rel => exact ⟨i + 1, by omega, by go_num, BW5, HZ5, by rw [HNw.out]; exact HX5⟩
          case measure => simp only [intOf]; omega
      · have kz : decide ((i : Int) > 0) = true := decide_eq_true (by omega)
        have kz' : decide ((0 : Int) < (i : Int)) = true := decide_eq_true (by omega)
        have kz2 : decide (0 < i) = true := decide_eq_true (by omega)
        have hw1 : IntKind.i64.wrap ((i : Int) - 1) = ((j' : Nat) : Int) := by rw [IntWalk.i64_in _ (by omega)]; omega
        have i2 := hR.ix j' (by omega)
        have l4 := hR.cell j' (by omega) 0 (by omega)
        rw [add_zero] at l4
        have hsr := hup j' hkj
        obtain ⟨s, hs⟩ : ∃ s, wtO E o (K.getD j' 0 - 1) = s := ⟨_, rfl⟩
        rw [hs] at hsr
        have e4 : lvC k E o K j' 0 = .int .i64 s := by unfold lvC lvV; rw [← hs]; rfl
        rw [e4] at l4
        have d0 : decide (s ≥ t) = false := decide_eq_false (by omega)
        have d0' : decide (t ≤ s) = false := decide_eq_false (by omega)
        have hb0 : (LA i).block < w4.heap.size := hR.lt i hlt
        have hb1 : (LA j').block < w4.heap.size := hR.lt j' (by omega)
        clear hup hkj e4 hs hR hsr
        have HS : (fun w' => w'.cell? (LA i) = some (.int .i64 t) ∧ w'.cell? ⟨(LA i).block, (LA i).off + 1, none⟩ = some (.int .i64 (r1 : Nat)) ∧ w'.cell? ⟨(LA i).block, (LA i).off + 2, none⟩ = some (.int .i64 (r2 : Nat)) ∧ w'.cell? ⟨(LA i).block, (LA i).off + 3, none⟩ = some (.int .i64 (r3 : Nat)) ∧ w'.cell? (LA j') = some (.int .i64 s)) wr.drew := ⟨l0, l1, l2, l3, l4⟩
        have HKp : Hid (∀ W, Below w4.heap.size w4 W → (fun w' => w'.cell? (LA i) = some (.int .i64 t) ∧ w'.cell? ⟨(LA i).block, (LA i).off + 1, none⟩ = some (.int .i64 (r1 : Nat)) ∧ w'.cell? ⟨(LA i).block, (LA i).off + 2, none⟩ = some (.int .i64 (r2 : Nat)) ∧ w'.cell? ⟨(LA i).block, (LA i).off + 3, none⟩ = some (.int .i64 (r3 : Nat)) ∧ w'.cell? (LA j') = some (.int .i64 s)) W) := Lib.hid fun W hb => ⟨(hb.cell (p := LA i) hb0).trans (((BW.out.cell (p := LA i) hb0)).symm.trans l0), (hb.cell (p := ⟨(LA i).block, (LA i).off + 1, none⟩) hb0).trans (((BW.out.cell (p := ⟨(LA i).block, (LA i).off + 1, none⟩) hb0)).symm.trans l1), (hb.cell (p := ⟨(LA i).block, (LA i).off + 2, none⟩) hb0).trans (((BW.out.cell (p := ⟨(LA i).block, (LA i).off + 2, none⟩) hb0)).symm.trans l2), (hb.cell (p := ⟨(LA i).block, (LA i).off + 3, none⟩) hb0).trans (((BW.out.cell (p := ⟨(LA i).block, (LA i).off + 3, none⟩) hb0)).symm.trans l3), (hb.cell (p := LA j') hb1).trans ((BW.out.cell (p := LA j') hb1).symm.trans l4)⟩
        go_wp2_with fail
        refine region_plain (fun w' => w'.cell? (LA i) = some (.int .i64 t) ∧ w'.cell? ⟨(LA i).block, (LA i).off + 1, none⟩ = some (.int .i64 (r1 : Nat)) ∧ w'.cell? ⟨(LA i).block, (LA i).off + 2, none⟩ = some (.int .i64 (r2 : Nat)) ∧ w'.cell? ⟨(LA i).block, (LA i).off + 3, none⟩ = some (.int .i64 (r3 : Nat)) ∧ w'.cell? (LA j') = some (.int .i64 s)) (by kernel_rfl) ?_
        refine take_at (i := 0) (d := 62) (v := ?_) rfl rfl (by kernel_rfl) (by kernel_rfl) (by kernel_rfl) (fun _ _ _ _ => NormalOnly.any) rfl ?hy19 HS ?rest19
        case hy19 => intro w' hSw; (try dsimp only at hSw); go_simp; try (with_reducible rfl)
        try simp only [List.setIfInBounds_toArray, List.set_cons_zero, List.set_cons_succ]
        refine take_at (i := 1) (d := 63) (v := ?_) rfl rfl (by kernel_rfl) (by kernel_rfl) (by kernel_rfl) (fun _ _ _ _ => NormalOnly.any) rfl ?hy20 HS ?rest20
        case hy20 => intro w' hSw; (try dsimp only at hSw); go_simp; try (with_reducible rfl)
        try simp only [List.setIfInBounds_toArray, List.set_cons_zero, List.set_cons_succ]
        refine take_at (i := 2) (d := 64) (v := ?_) rfl rfl (by kernel_rfl) (by kernel_rfl) (by kernel_rfl) (fun _ _ _ _ => NormalOnly.any) rfl ?hy21 HS ?rest21
        case hy21 => intro w' hSw; (try dsimp only at hSw); go_simp; try (with_reducible rfl)
        try simp only [List.setIfInBounds_toArray, List.set_cons_zero, List.set_cons_succ]
        refine take_at (i := 3) (d := 65) (v := ?_) rfl rfl (by kernel_rfl) (by kernel_rfl) (by kernel_rfl) (fun _ _ _ _ => NormalOnly.any) rfl ?hy22 HS ?rest22
        case hy22 => intro w' hSw; (try dsimp only at hSw); go_simp; try (with_reducible rfl)
        try simp only [List.setIfInBounds_toArray, List.set_cons_zero, List.set_cons_succ]
        refine take_at (i := 4) (d := 66) (v := ?_) rfl rfl (by kernel_rfl) (by kernel_rfl) (by kernel_rfl) (fun _ _ _ _ => NormalOnly.any) rfl ?hy23 HS ?rest23
        case hy23 => intro w' hSw; (try dsimp only at hSw); go_simp; try (with_reducible rfl)
        try simp only [List.setIfInBounds_toArray, List.set_cons_zero, List.set_cons_succ]
        refine take_at (i := 5) (d := 67) (v := ?_) rfl rfl (by kernel_rfl) (by kernel_rfl) (by kernel_rfl) (fun _ _ _ _ => NormalOnly.any) rfl ?hy24 HS ?rest24
        case hy24 => intro w' hSw; (try dsimp only at hSw); go_simp; try (with_reducible rfl)
        try simp only [List.setIfInBounds_toArray, List.set_cons_zero, List.set_cons_succ]
        refine take_at (i := 6) (d := 68) (v := ?_) rfl rfl (by kernel_rfl) (by kernel_rfl) (by kernel_rfl) (fun _ _ _ _ => NormalOnly.any) rfl ?hy25 HS ?rest25
        case hy25 => intro w' hSw; (try dsimp only at hSw); go_simp; try (with_reducible rfl)
        try simp only [List.setIfInBounds_toArray, List.set_cons_zero, List.set_cons_succ]
        refine take_at (i := 7) (d := 69) (v := ?_) rfl rfl (by kernel_rfl) (by kernel_rfl) (by kernel_rfl) (fun _ _ _ _ => NormalOnly.any) rfl ?hy26 HS ?rest26
        case hy26 => intro w' hSw; (try dsimp only at hSw); go_simp; try (with_reducible rfl)
        try simp only [List.setIfInBounds_toArray, List.set_cons_zero, List.set_cons_succ]
        refine take_at (i := 8) (d := 70) (v := ?_) rfl rfl (by kernel_rfl) (by kernel_rfl) (by kernel_rfl) (fun _ _ _ _ => NormalOnly.any) rfl ?hy27 HS ?rest27
        case hy27 => intro w' hSw; (try dsimp only at hSw); go_simp; try (with_reducible rfl)
        try simp only [List.setIfInBounds_toArray, List.set_cons_zero, List.set_cons_succ]
        refine take_at (i := 9) (d := 71) (v := ?_) rfl rfl (by kernel_rfl) (by kernel_rfl) (by kernel_rfl) (fun _ _ _ _ => NormalOnly.any) rfl ?hy28 HS ?rest28
        case hy28 => intro w' hSw; (try dsimp only at hSw); go_simp; try (with_reducible rfl)
        try simp only [List.setIfInBounds_toArray, List.set_cons_zero, List.set_cons_succ]
        refine take_at (i := 10) (d := 72) (v := ?_) rfl rfl (by kernel_rfl) (by kernel_rfl) (by kernel_rfl) (fun _ _ _ _ => NormalOnly.any) rfl ?hy29 HS ?rest29
        case hy29 => intro w' hSw; (try dsimp only at hSw); go_simp; try (with_reducible rfl)
        try simp only [List.setIfInBounds_toArray, List.set_cons_zero, List.set_cons_succ]
        refine take_at (i := 11) (d := 73) (v := ?_) rfl rfl (by kernel_rfl) (by kernel_rfl) (by kernel_rfl) (fun _ _ _ _ => NormalOnly.any) rfl ?hy30 HS ?rest30
        case hy30 => intro w' hSw; (try dsimp only at hSw); go_simp; try (with_reducible rfl)
        try simp only [List.setIfInBounds_toArray, List.set_cons_zero, List.set_cons_succ]
        refine take_at (i := 12) (d := 74) (v := ?_) rfl rfl (by kernel_rfl) (by kernel_rfl) (by kernel_rfl) (fun _ _ _ _ => NormalOnly.any) rfl ?hy31 HS ?rest31
        case hy31 => intro w' hSw; (try dsimp only at hSw); go_simp; try (with_reducible rfl)
        try simp only [List.setIfInBounds_toArray, List.set_cons_zero, List.set_cons_succ]
        refine take_at (i := 13) (d := 75) (v := ?_) rfl rfl (by kernel_rfl) (by kernel_rfl) (by kernel_rfl) (fun _ _ _ _ => NormalOnly.any) rfl ?hy32 HS ?rest32
        case hy32 => intro w' hSw; (try dsimp only at hSw); go_simp; try (with_reducible rfl)
        try simp only [List.setIfInBounds_toArray, List.set_cons_zero, List.set_cons_succ]
        refine take_at (i := 14) (d := 76) (v := ?_) rfl rfl (by kernel_rfl) (by kernel_rfl) (by kernel_rfl) (fun _ _ _ _ => NormalOnly.any) rfl ?hy33 HS ?rest33
        case hy33 => intro w' hSw; (try dsimp only at hSw); go_simp; try (with_reducible rfl)
        try simp only [List.setIfInBounds_toArray, List.set_cons_zero, List.set_cons_succ]
        refine take_at (i := 15) (d := 77) (v := ?_) rfl rfl (by kernel_rfl) (by kernel_rfl) (by kernel_rfl) (fun _ _ _ _ => NormalOnly.any) rfl ?hy34 HS ?rest34
        case hy34 => intro w' hSw; (try dsimp only at hSw); go_simp; try (with_reducible rfl)
        try simp only [List.setIfInBounds_toArray, List.set_cons_zero, List.set_cons_succ]
        refine take_at (i := 16) (d := 78) (v := ?_) rfl rfl (by kernel_rfl) (by kernel_rfl) (by kernel_rfl) (fun _ _ _ _ => NormalOnly.any) rfl ?hy35 HS ?rest35
        case hy35 => intro w' hSw; (try dsimp only at hSw); go_simp; try (with_reducible rfl)
        try simp only [List.setIfInBounds_toArray, List.set_cons_zero, List.set_cons_succ]
        refine take_at (i := 17) (d := 79) (v := ?_) rfl rfl (by kernel_rfl) (by kernel_rfl) (by kernel_rfl) (fun _ _ _ _ => NormalOnly.any) rfl ?hy36 HS ?rest36
        case hy36 => intro w' hSw; (try dsimp only at hSw); go_simp; try (with_reducible rfl)
        try simp only [List.setIfInBounds_toArray, List.set_cons_zero, List.set_cons_succ]
        refine take_at (i := 18) (d := 80) (v := ?_) rfl rfl (by kernel_rfl) (by kernel_rfl) (by kernel_rfl) (fun _ _ _ _ => NormalOnly.any) rfl ?hy37 HS ?rest37
        case hy37 => intro w' hSw; (try dsimp only at hSw); go_simp; try (with_reducible rfl)
        try simp only [List.setIfInBounds_toArray, List.set_cons_zero, List.set_cons_succ]
        refine take_at (i := 19) (d := 81) (v := ?_) rfl rfl (by kernel_rfl) (by kernel_rfl) (by kernel_rfl) (fun _ _ _ _ => NormalOnly.any) rfl ?hy38 HS ?rest38
        case hy38 => intro w' hSw; (try dsimp only at hSw); go_simp; try (with_reducible rfl)
        try simp only [List.setIfInBounds_toArray, List.set_cons_zero, List.set_cons_succ]
        refine take_at (i := 20) (d := 82) (v := ?_) rfl rfl (by kernel_rfl) (by kernel_rfl) (by kernel_rfl) (fun _ _ _ _ => NormalOnly.any) rfl ?hy39 HS ?rest39
        case hy39 => intro w' hSw; (try dsimp only at hSw); go_simp; try (with_reducible rfl)
        try simp only [List.setIfInBounds_toArray, List.set_cons_zero, List.set_cons_succ]
        refine take_at (i := 21) (d := 83) (v := ?_) rfl rfl (by kernel_rfl) (by kernel_rfl) (by kernel_rfl) (fun _ _ _ _ => NormalOnly.any) rfl ?hy40 HS ?rest40
        case hy40 => intro w' hSw; (try dsimp only at hSw); go_simp; try (with_reducible rfl)
        try simp only [List.setIfInBounds_toArray, List.set_cons_zero, List.set_cons_succ]
        refine take_at (i := 22) (d := 84) (v := ?_) rfl rfl (by kernel_rfl) (by kernel_rfl) (by kernel_rfl) (fun _ _ _ _ => NormalOnly.any) rfl ?hy41 HS ?rest41
        case hy41 => intro w' hSw; (try dsimp only at hSw); go_simp; try (with_reducible rfl)
        try simp only [List.setIfInBounds_toArray, List.set_cons_zero, List.set_cons_succ]
        refine take_at (i := 23) (d := 85) (v := ?_) rfl rfl (by kernel_rfl) (by kernel_rfl) (by kernel_rfl) (fun _ _ _ _ => NormalOnly.any) rfl ?hy42 HS ?rest42
        case hy42 => intro w' hSw; (try dsimp only at hSw); go_simp; try (with_reducible rfl)
        try simp only [List.setIfInBounds_toArray, List.set_cons_zero, List.set_cons_succ]
        refine take_at (i := 24) (d := 86) (v := ?_) rfl rfl (by kernel_rfl) (by kernel_rfl) (by kernel_rfl) (fun _ _ _ _ => NormalOnly.any) rfl ?hy43 HS ?rest43
        case hy43 => intro w' hSw; (try dsimp only at hSw); go_simp; try (with_reducible rfl)
        try simp only [List.setIfInBounds_toArray, List.set_cons_zero, List.set_cons_succ]
        refine take_at (i := 25) (d := 87) (v := ?_) rfl rfl (by kernel_rfl) (by kernel_rfl) (by kernel_rfl) (fun _ _ _ _ => NormalOnly.any) rfl ?hy44 HS ?rest44
        case hy44 => intro w' hSw; (try dsimp only at hSw); go_simp; try (with_reducible rfl)
        try simp only [List.setIfInBounds_toArray, List.set_cons_zero, List.set_cons_succ]
        refine take_at (i := 26) (d := 88) (v := ?_) rfl rfl (by kernel_rfl) (by kernel_rfl) (by kernel_rfl) (fun _ _ _ _ => NormalOnly.any) rfl ?hy45 HS ?rest45
        case hy45 => intro w' hSw; (try dsimp only at hSw); go_simp; try (with_reducible rfl)
        try simp only [List.setIfInBounds_toArray, List.set_cons_zero, List.set_cons_succ]
        refine take_at (i := 27) (d := 89) (v := ?_) rfl rfl (by kernel_rfl) (by kernel_rfl) (by kernel_rfl) (fun _ _ _ _ => NormalOnly.any) rfl ?hy46 HS ?rest46
        case hy46 => intro w' hSw; (try dsimp only at hSw); go_simp; try (with_reducible rfl)
        try simp only [List.setIfInBounds_toArray, List.set_cons_zero, List.set_cons_succ]
        refine wpAnyH_ready (rs := [28]) (by kernel_rfl) (by simp) ?_
        refine AllReadyH.cons rfl (fun KK hK => ?_) AllReadyH.nil
        go_simp
        refine (HC.out _ (below_drewN BW.out 1)).mono ?_
        rintro e w5 ⟨rfl, b5⟩
        have BW5 := Lib.hid (BW.out.trans (((Below.refl _ wr).drew.trans b5).mono BW.out.size))
        have HX5 := Lib.hid (HX.out.below ((Below.refl _ wr).drew.trans b5) HZ.out)
        have HZ5 : Hid (w4.heap.size < w5.heap.size) := Lib.hid (Nat.lt_of_lt_of_le HZ.out b5.size)
        have HS := HKp.out w5 BW5.out
        refine hK.out _ _ HS (fun _ => ?_)
        clear hK b5
        try simp only [Act.put, List.setIfInBounds_toArray, List.set_cons_zero, List.set_cons_succ]
        refine take_at (i := 29) (d := 91) (v := ?_) rfl rfl (by kernel_rfl) (by kernel_rfl) (by kernel_rfl) (fun _ _ _ _ => NormalOnly.any) rfl ?hy47 HS ?rest47
        case hy47 => intro w' hSw; (try dsimp only at hSw); go_simp; try (with_reducible rfl)
        try simp only [List.setIfInBounds_toArray, List.set_cons_zero, List.set_cons_succ]
        refine take_at (i := 30) (d := 92) (v := ?_) rfl rfl (by kernel_rfl) (by kernel_rfl) (by kernel_rfl) (fun _ _ _ _ => NormalOnly.any) rfl ?hy48 HS ?rest48
        case hy48 => intro w' hSw; (try dsimp only at hSw); go_simp; try (with_reducible rfl)
        try simp only [List.setIfInBounds_toArray, List.set_cons_zero, List.set_cons_succ]
        refine wpAnyH_done (by kernel_rfl) ⟨rfl, ?_⟩ _
        obtain ⟨l0, l1, l2, l3, l4⟩ := HS
        clear BW HX HZ HKp
        have x0 := HX5.out.cell (i := 0) (by omega); have x1 := HX5.out.cell (i := 1) (by omega); have x2 := HX5.out.cell (i := 2) (by omega)
        have f0 := HX5.out.frozen 0; have f1 := HX5.out.frozen 1; have f2 := HX5.out.frozen 2
        by_cases hc : t ≤ θ
        · have kt : decide (t ≤ θ) = true := decide_eq_true hc
          have hnew : lvF E o θ (K.take (i + 1)) = j := by rw [HNx.out]; unfold lvS; rw [HT.out, if_pos hc]
          have HNw := Lib.hid hnew
          clear hnew hc
          go_wp2_with fail
          go_roundw
          case rel =>
            refine ⟨i + 1, by omega, by go_num, Lib.hid (((BW5.out.setCell (Nat.le_refl _) _).setCell (Nat.le_refl _) _).setCell (Nat.le_refl _) _), Lib.hid (by simpa [World.setCell] using HZ5.out), Lib.hid ?_⟩
            rw [HNw.out]
            exact (((HX5.out.set 0 _).set 1 _).set 2 _).congr fun c hc => by
              rw [← HR3.out c hc]
              match c, hc with
              | 0, _ => rfl
              | 1, _ => rfl
              | 2, _ => rfl
              | q + 3, e => omega
          case measure => simp only [intOf]; omega
        · have kt : decide (t ≤ θ) = false := decide_eq_false hc
          have hnew : lvF E o θ (K.take (i + 1)) = lvF E o θ (K.take i) := by rw [HNx.out]; unfold lvS; rw [HT.out, if_neg hc]
          have HNw := Lib.hid hnew
          clear hnew hc
          go_wp2_with fail
          go_roundw
          case rel => exact ⟨i + 1, by omega, by go_num, BW5, HZ5, by rw [HNw.out]; exact HX5⟩
          case measure => simp only [intOf]; omega
    · obtain rfl : i = m := by omega
      have kl : decide ((i : Int) < (i : Nat)) = false := decide_eq_false (by omega)
      have hKm : lvF E o θ (K.take i) = lvF E o θ (lvK E o (o.length + 1)) := by rw [HK.out, List.take_of_length_le (by have := HM.out; omega)]
      have hrow := lvF_row HO.out θ
      rw [← hKm] at hrow
      rw [hrow] at HX
      have HC := Lib.hid (cv_row (HV4.out.at (below_drewN BW.out 1)) θ)
      unfold RowRes at HC
      unfold rwF at HX
      obtain ⟨s1, hs1⟩ : ∃ r, lgN k (lbW E θ) (lbL (lbW E θ) k) = r := ⟨_, rfl⟩
      obtain ⟨s2, hs2⟩ : ∃ r, cntN k (lbW E θ) = r := ⟨_, rfl⟩
      obtain ⟨s3, hs3⟩ : ∃ r, sqN k (lbW E θ) (lbL (lbW E θ) k) = r := ⟨_, rfl⟩
      rw [hs1, hs2, hs3] at HX HC
      have x0 := HX.out.cell (i := 0) (by omega); have x1 := HX.out.cell (i := 1) (by omega); have x2 := HX.out.cell (i := 2) (by omega)
      have HS : (fun w' : World => w'.cell? ⟨w4.heap.size, 0, none⟩ = some (.int .i64 (s1 : Nat)) ∧ w'.cell? ⟨w4.heap.size, 1, none⟩ = some (.int .i64 (s2 : Nat)) ∧ w'.cell? ⟨w4.heap.size, 2, none⟩ = some (.int .i64 (s3 : Nat))) wr.drew := ⟨x0, x1, x2⟩
      have HKp : Hid (∀ W, Below wr.heap.size wr W → (fun w' : World => w'.cell? ⟨w4.heap.size, 0, none⟩ = some (.int .i64 (s1 : Nat)) ∧ w'.cell? ⟨w4.heap.size, 1, none⟩ = some (.int .i64 (s2 : Nat)) ∧ w'.cell? ⟨w4.heap.size, 2, none⟩ = some (.int .i64 (s3 : Nat))) W) := Lib.hid fun W hb => ⟨(hb.cell (p := ⟨w4.heap.size, 0, none⟩) HZ.out).trans x0, (hb.cell (p := ⟨w4.heap.size, 1, none⟩) HZ.out).trans x1, (hb.cell (p := ⟨w4.heap.size, 2, none⟩) HZ.out).trans x2⟩
      have HB5 := Lib.hid (HB4.out.trans (BW.out.mono HB4.out.size))
      clear hKm hrow hs1 hs2 hs3 HX x0 x1 x2 BW
      go_wp2_with fail
      refine region_plain (fun w' => w'.cell? ⟨w4.heap.size, 0, none⟩ = some (.int .i64 (s1 : Nat)) ∧ w'.cell? ⟨w4.heap.size, 1, none⟩ = some (.int .i64 (s2 : Nat)) ∧ w'.cell? ⟨w4.heap.size, 2, none⟩ = some (.int .i64 (s3 : Nat))) (by kernel_rfl) ?_
      refine take_at (i := 0) (d := 105) (v := ?_) rfl rfl (by kernel_rfl) (by kernel_rfl) (by kernel_rfl) (fun _ _ _ _ => NormalOnly.any) rfl ?hy49 HS ?rest49
      case hy49 => intro w' hSw; (try dsimp only at hSw); go_simp; try (with_reducible rfl)
      try simp only [List.setIfInBounds_toArray, List.set_cons_zero, List.set_cons_succ]
      refine take_at (i := 1) (d := 106) (v := ?_) rfl rfl (by kernel_rfl) (by kernel_rfl) (by kernel_rfl) (fun _ _ _ _ => NormalOnly.any) rfl ?hy50 HS ?rest50
      case hy50 => intro w' hSw; (try dsimp only at hSw); go_simp; try (with_reducible rfl)
      try simp only [List.setIfInBounds_toArray, List.set_cons_zero, List.set_cons_succ]
      refine take_at (i := 3) (d := 108) (v := ?_) rfl rfl (by kernel_rfl) (by kernel_rfl) (by kernel_rfl) (fun _ _ _ _ => NormalOnly.any) rfl ?hy51 HS ?rest51
      case hy51 => intro w' hSw; (try dsimp only at hSw); go_simp; try (with_reducible rfl)
      try simp only [List.setIfInBounds_toArray, List.set_cons_zero, List.set_cons_succ]
      refine wpAnyH_ready (rs := [2]) (by kernel_rfl) (by simp) ?_
      refine AllReadyH.cons rfl (fun KK hK => ?_) AllReadyH.nil
      go_simp
      refine HC.out.mono ?_
      rintro e w5 ⟨rfl, b5⟩
      have b6 := (Below.refl _ wr).drew.trans b5
      have HB6 := Lib.hid (HB5.out.trans (b6.mono HB5.out.size))
      have HS := HKp.out w5 b6
      refine hK.out _ _ HS (fun _ => ?_)
      clear hK b5
      try simp only [Act.put, List.setIfInBounds_toArray, List.set_cons_zero, List.set_cons_succ]
      refine take_at (i := 4) (d := 109) (v := ?_) rfl rfl (by kernel_rfl) (by kernel_rfl) (by kernel_rfl) (fun _ _ _ _ => NormalOnly.any) rfl ?hy52 HS ?rest52
      case hy52 => intro w' hSw; (try dsimp only at hSw); go_simp; try (with_reducible rfl)
      try simp only [List.setIfInBounds_toArray, List.set_cons_zero, List.set_cons_succ]
      refine take_at (i := 5) (d := 110) (v := ?_) rfl rfl (by kernel_rfl) (by kernel_rfl) (by kernel_rfl) (fun _ _ _ _ => NormalOnly.any) rfl ?hy53 HS ?rest53
      case hy53 => intro w' hSw; (try dsimp only at hSw); go_simp; try (with_reducible rfl)
      try simp only [List.setIfInBounds_toArray, List.set_cons_zero, List.set_cons_succ]
      refine wpAnyH_ready (rs := [6]) (by kernel_rfl) (by simp) ?_
      refine AllReadyH.cons rfl (fun KK hK => ?_) AllReadyH.nil
      go_simp
      refine (HW.out _).mono ?_
      rintro e w6 ⟨rfl, b7⟩
      have HS := HKp.out w6 (b6.trans (b7.mono b6.size))
      have HB7 := Lib.hid (HB6.out.trans (b7.mono HB6.out.size))
      refine hK.out _ _ HS (fun _ => ?_)
      clear hK b6 b7
      try simp only [Act.put, List.setIfInBounds_toArray, List.set_cons_zero, List.set_cons_succ]
      refine take_at (i := 7) (d := 112) (v := ?_) rfl rfl (by kernel_rfl) (by kernel_rfl) (by kernel_rfl) (fun _ _ _ _ => NormalOnly.any) rfl ?hy54 HS ?rest54
      case hy54 => intro w' hSw; (try dsimp only at hSw); go_simp; try (with_reducible rfl)
      try simp only [List.setIfInBounds_toArray, List.set_cons_zero, List.set_cons_succ]
      refine take_at (i := 8) (d := 6) (v := ?_) rfl rfl (by kernel_rfl) (by kernel_rfl) (by kernel_rfl) (fun _ _ _ _ => NormalOnly.any) rfl ?hy55 HS ?rest55
      case hy55 => intro w' hSw; (try dsimp only at hSw); go_simp; try (with_reducible rfl)
      try simp only [List.setIfInBounds_toArray, List.set_cons_zero, List.set_cons_succ]
      refine wpAnyH_done (by kernel_rfl) ⟨rfl, ?_⟩ _
      clear HS HKp
      go_wp2_with fail
      go_ret
      exact ⟨rfl, HB7.out⟩
end Go.Proofs.YtpbgophogneecaaGreat
