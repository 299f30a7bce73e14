/- The walk of works of the statements about bridge: the chapter's example. No conditions. -/
import Derived.Test.YtcpikabhcjkkmaaBrSm
namespace Go.Proofs.Ytcpikabhcjkkmaa
open Go.RowKit

/-- the answers, as lists -/
def BriOut (E : List Ed) (w : World) (e : Ending) (w' : World) : Prop := ∃ v, e = .returned v ∧ RdI w' w'.heap.size v (briL E) ∧ Below w.heap.size w w'
def CutOut (n : Nat) (E : List Ed) (w : World) (e : Ending) (w' : World) : Prop := ∃ v, e = .returned v ∧ RdI w' w'.heap.size v (cutL n E) ∧ Below w.heap.size w w'
def LabOut (n : Nat) (E : List Ed) (w : World) (e : Ending) (w' : World) : Prop := ∃ v, e = .returned v ∧ RdI w' w'.heap.size v ((List.range n).map (labO E (nbL E))) ∧ Below w.heap.size w w'
def BlkOut (E : List Ed) (w : World) (e : Ending) (w' : World) : Prop := ∃ v, e = .returned v ∧ BMem w' w'.heap.size v (bkL E) ∧ Below w.heap.size w w'
section
variable (B : Nat) (g : Option Addr) (n : Nat) (E : List Ed) (o : Option (Nat × List Ed)) (ho : o = some (n, E) ∨ o = none ∧ n = 0 ∧ E = []) (w : World) (h : GV w B (.pointer g) o) (hB : B ≤ w.heap.size)
include ho h
theorem gok_of : GOk n E := by
  rcases ho with rfl | ⟨rfl, rfl, rfl⟩
  · exact h.good
  · exact ⟨by decide, by decide, fun i hi => absurd hi (by simp)⟩
include hB
theorem bridges_out : Calls Try.prog 16 #[.pointer g] w (BriOut E w) := by
  refine (bridges_any B g n E o ho w h hB).mono ?_
  rintro e w' ⟨v, l, rfl, h1, h2, h3, h4⟩
  obtain rfl := bri_list h2 h3
  exact ⟨v, rfl, ownI_rd h1, h4⟩
theorem cuts_out : Calls Try.prog 18 #[.pointer g] w (CutOut n E w) := by
  refine (cuts_any B g n E o ho w h hB).mono ?_
  rintro e w' ⟨v, f, rfl, h1, h2, h3⟩
  rw [cut_list (gok_of B g n E o ho w h) h1] at h2
  exact ⟨v, rfl, ownI_rd h2, h3⟩
theorem labels_out : Calls Try.prog 20 #[.pointer g] w (LabOut n E w) := by
  refine (labels_any B g n E o ho w h hB).mono ?_
  rintro e w' ⟨v, k, rfl, h1, h2, h3⟩
  obtain rfl := lab_list h1
  exact ⟨v, rfl, h2, h3⟩
theorem blocks_out : Calls Try.prog 22 #[.pointer g] w (BlkOut E w) := by
  refine (blocks_any B g n E o ho w h hB).mono ?_
  rintro e w' ⟨v, X, rfl, h1, h2, h3⟩
  obtain rfl := blk_list (gok_of B g n E o ho w h) h1
  exact ⟨v, rfl, h2, h3⟩
end
theorem ex6_err : gErr 6 ex6 = 0 := gErr_ok ex6_ok
theorem cycL_ex (p : Nat) (hp : p < 6) {l r : List Nat} (h : CycL 6 ex6 (p : Nat) l) (hr : ∀ {d : Nat → Int}, DistF ex6 (NE ex6 p) 6 (edP ex6 p).2 d → cyc ex6 p d (edP ex6 p).1 = r) : l = r := by
  obtain ⟨d, h1, h2⟩ := h.2 p rfl hp
  rw [h2, hr h1]
set_option maxRecDepth 100000 in
set_option maxHeartbeats 4000000 in
theorem works_any (w : World) : Calls Try.prog 14 #[] w fun e w' => e = .returned (.bool true) ∧ Below w.heap.size w w' := by
  go_enter Try.func14, Try.ntmps14
  go_wp2_with fail
  refine (example_any _).mono ?_
  rintro e w1 ⟨A1, rfl, hE1, b1⟩
  have HE1 := Lib.hid hE1; have B1 := Lib.hid b1
  clear hE1 b1
  go_wp2_with fail
  refine (gnew_any w1.heap.size _ _ A1 6 ex6 w1 HE1.out (Nat.le_refl _) (by decide)).mono ?_
  rintro e w2 ⟨b2, ⟨h0, _⟩ | ⟨gb, k2, hk2, -, rfl, hG2⟩⟩
  · exact absurd ex6_err h0
  obtain rfl : k2 = 6 := by omega
  have HG := Lib.hid (show GV w2 w2.heap.size (.pointer (some ⟨gb, 0, none⟩)) (some (6, ex6)) from ⟨gb, rfl, hG2⟩)
  have B2 := Lib.hid (B1.out.trans (b2.mono B1.out.size))
  clear b2 hG2
  go_wp2_with fail
  refine (blocks_out w2.heap.size (some ⟨gb, 0, none⟩) 6 ex6 (some (6, ex6)) (.inl rfl) w2 HG.out (Nat.le_refl _)).mono ?_
  rintro e w3 ⟨v3, rfl, hM3, b3⟩
  rw [ex6_blk] at hM3
  obtain ⟨a3, c3, A3, RV, rfl, hR3, hL3⟩ := hM3
  have hR3 : Rd 33 1 w3 w3.heap.size (.slice a3 (3 : Nat) c3) 3 (fun i _ => RV i) A3 := hR3
  have r0 : RdI w3 w3.heap.size (RV 0) [0, 1, 2] := (hL3 0 (by decide)).1
  have r1 : RdI w3 w3.heap.size (RV 1) [3] := (hL3 1 (by decide)).1
  have r2 : RdI w3 w3.heap.size (RV 2) [4, 5] := (hL3 2 (by decide)).1
  clear hL3
  simp only [List.length_cons, List.length_nil, Nat.reduceAdd]
  have i0 : ∀ w', (Instr.indexAt 33 (.slice a3 3 c3) (.int .i64 0)).run Try.prog w' = .ok (.pointer (some (A3 0))) w' := hR3.ix 0 (by decide)
  have i1 : ∀ w', (Instr.indexAt 33 (.slice a3 3 c3) (.int .i64 1)).run Try.prog w' = .ok (.pointer (some (A3 1))) w' := hR3.ix 1 (by decide)
  have i2 : ∀ w', (Instr.indexAt 33 (.slice a3 3 c3) (.int .i64 2)).run Try.prog w' = .ok (.pointer (some (A3 2))) w' := hR3.ix 2 (by decide)
  have HR3 := Lib.hid hR3
  have B3 := Lib.hid (B2.out.trans (b3.mono B2.out.size))
  have HG3 := Lib.hid (HG.out.below b3)
  have hz3 := b3.size
  have c0 := hR3.cell 0 (by decide) 0 (by decide)
  rw [add_zero] at c0
  have HS0 := Lib.hid (same_true (RV 0) [0, 1, 2] w3 r0 #[.int .i64 0, .int .i64 1, .int .i64 2] 3 rfl rfl (by decide))
  have R1 := Lib.hid r1; have R2 := Lib.hid r2
  clear hR3 b3 r0 r1 r2 HG
  go_wp2_with fail
  refine HS0.out.mono ?_
  rintro e w4 ⟨rfl, b4⟩
  have HR4 := HR3.out.below b4
  have c1 := HR4.cell 1 (by decide) 0 (by decide)
  rw [add_zero] at c1
  have HS1 := Lib.hid (same_true (RV 1) [3] w4 ((R1.out.below b4).mono b4.size) #[.int .i64 3] 1 rfl rfl (by decide))
  have R24 := Lib.hid ((R2.out.below b4).mono b4.size)
  have HR4 := Lib.hid (HR4.mono b4.size)
  have B4 := Lib.hid (B3.out.trans (b4.mono B3.out.size))
  have HG4 := Lib.hid (HG3.out.below (b4.mono hz3))
  have hz4 := Nat.le_trans hz3 b4.size
  clear b4 HS0 c0 i0 HR3 R1 R2 B3 HG3
  go_wp2_with fail
  refine HS1.out.mono ?_
  rintro e w5 ⟨rfl, b5⟩
  have c2 := (HR4.out.below b5).cell 2 (by decide) 0 (by decide)
  rw [add_zero] at c2
  have HS2 := Lib.hid (same_true (RV 2) [4, 5] w5 ((R24.out.below b5).mono b5.size) #[.int .i64 4, .int .i64 5] 2 rfl rfl (by decide))
  have B5 := Lib.hid (B4.out.trans (b5.mono B4.out.size))
  have HG5 := Lib.hid (HG4.out.below (b5.mono hz4))
  have hz5 := Nat.le_trans hz4 b5.size
  clear b5 HS1 c1 i1 HR4 R24 B4 HG4
  go_wp2_with fail
  refine HS2.out.mono ?_
  rintro e w6 ⟨rfl, b6⟩
  have B6 := Lib.hid (B5.out.trans (b6.mono B5.out.size))
  have HG6 := Lib.hid (HG5.out.below (b6.mono hz5))
  have hz6 := Nat.le_trans hz5 b6.size
  clear b6 HS2 c2 i2 B5 HG5
  have HC := Lib.hid (bridges_out w2.heap.size (some ⟨gb, 0, none⟩) 6 ex6 (some (6, ex6)) (.inl rfl) w6 HG6.out hz6)
  go_wp2_with fail
  refine HC.out.mono ?_
  clear HC
  rintro e w7 ⟨v7, rfl, hv, b⟩
  rw [ex6_bri] at hv
  have HS := Lib.hid (same_true v7 [3] w7 hv #[.int .i64 3] 1 rfl rfl (by decide))
  have B7 := Lib.hid (B6.out.trans (b.mono B6.out.size))
  have HG7 := Lib.hid (HG6.out.below (b.mono hz6))
  have hz7 := Nat.le_trans hz6 b.size
  clear b hv B6 HG6
  go_wp2_with fail
  refine HS.out.mono ?_
  clear HS
  rintro e w8 ⟨rfl, b⟩
  have B8 := Lib.hid (B7.out.trans (b.mono B7.out.size))
  have HG8 := Lib.hid (HG7.out.below (b.mono hz7))
  have hz8 := Nat.le_trans hz7 b.size
  clear b B7 HG7
  have HC := Lib.hid (cuts_out w2.heap.size (some ⟨gb, 0, none⟩) 6 ex6 (some (6, ex6)) (.inl rfl) w8 HG8.out hz8)
  go_wp2_with fail
  refine HC.out.mono ?_
  clear HC
  rintro e w9 ⟨v9, rfl, hv, b⟩
  rw [ex6_cut] at hv
  have HS := Lib.hid (same_true v9 [2, 3] w9 hv #[.int .i64 2, .int .i64 3] 2 rfl rfl (by decide))
  have B9 := Lib.hid (B8.out.trans (b.mono B8.out.size))
  have HG9 := Lib.hid (HG8.out.below (b.mono hz8))
  have hz9 := Nat.le_trans hz8 b.size
  clear b hv B8 HG8
  go_wp2_with fail
  refine HS.out.mono ?_
  clear HS
  rintro e w10 ⟨rfl, b⟩
  have B10 := Lib.hid (B9.out.trans (b.mono B9.out.size))
  have HG10 := Lib.hid (HG9.out.below (b.mono hz9))
  have hz10 := Nat.le_trans hz9 b.size
  clear b B9 HG9
  have HC := Lib.hid (labels_out w2.heap.size (some ⟨gb, 0, none⟩) 6 ex6 (some (6, ex6)) (.inl rfl) w10 HG10.out hz10)
  go_wp2_with fail
  refine HC.out.mono ?_
  clear HC
  rintro e w11 ⟨v11, rfl, hv, b⟩
  rw [ex6_lab] at hv
  have HS := Lib.hid (same_true v11 [0, 0, 0, 3, 3, 5] w11 hv #[.int .i64 0, .int .i64 0, .int .i64 0, .int .i64 3, .int .i64 3, .int .i64 5] 6 rfl rfl (by decide))
  have B11 := Lib.hid (B10.out.trans (b.mono B10.out.size))
  have HG11 := Lib.hid (HG10.out.below (b.mono hz10))
  have hz11 := Nat.le_trans hz10 b.size
  clear b hv B10 HG10
  go_wp2_with fail
  refine HS.out.mono ?_
  clear HS
  rintro e w12 ⟨rfl, b⟩
  have B12 := Lib.hid (B11.out.trans (b.mono B11.out.size))
  have HG12 := Lib.hid (HG11.out.below (b.mono hz11))
  have hz12 := Nat.le_trans hz11 b.size
  clear b B11 HG11
  have HC := Lib.hid (cycle_any w2.heap.size (some ⟨gb, 0, none⟩) 6 ex6 (some (6, ex6)) (.inl rfl) ((0 : Nat) : Int) w12 HG12.out hz12)
  go_wp2_with fail
  refine HC.out.mono ?_
  clear HC
  rintro e w13 ⟨v13, l13, rfl, hc, hv, b⟩
  obtain rfl := cycL_ex 0 (by decide) hc ex6_cyc0
  have HS := Lib.hid (same_true v13 [0, 2, 1] w13 hv #[.int .i64 0, .int .i64 2, .int .i64 1] 3 rfl rfl (by decide))
  have B13 := Lib.hid (B12.out.trans (b.mono B12.out.size))
  have HG13 := Lib.hid (HG12.out.below (b.mono hz12))
  have hz13 := Nat.le_trans hz12 b.size
  clear b hv hc B12 HG12
  go_wp2_with fail
  refine HS.out.mono ?_
  clear HS
  rintro e w14 ⟨rfl, b⟩
  have B14 := Lib.hid (B13.out.trans (b.mono B13.out.size))
  have HG14 := Lib.hid (HG13.out.below (b.mono hz13))
  have hz14 := Nat.le_trans hz13 b.size
  clear b B13 HG13
  have HC := Lib.hid (cycle_any w2.heap.size (some ⟨gb, 0, none⟩) 6 ex6 (some (6, ex6)) (.inl rfl) ((4 : Nat) : Int) w14 HG14.out hz14)
  go_wp2_with fail
  refine HC.out.mono ?_
  clear HC
  rintro e w15 ⟨v15, l15, rfl, hc, hv, b⟩
  obtain rfl := cycL_ex 4 (by decide) hc ex6_cyc4
  have HS := Lib.hid (same_true v15 [4, 5] w15 hv #[.int .i64 4, .int .i64 5] 2 rfl rfl (by decide))
  have B15 := Lib.hid (B14.out.trans (b.mono B14.out.size))
  have HG15 := Lib.hid (HG14.out.below (b.mono hz14))
  have hz15 := Nat.le_trans hz14 b.size
  clear b hv hc B14 HG14
  go_wp2_with fail
  refine HS.out.mono ?_
  clear HS
  rintro e w16 ⟨rfl, b⟩
  have B16 := Lib.hid (B15.out.trans (b.mono B15.out.size))
  have HG16 := Lib.hid (HG15.out.below (b.mono hz15))
  have hz16 := Nat.le_trans hz15 b.size
  clear b B15 HG15
  have HC := Lib.hid (cycle_any w2.heap.size (some ⟨gb, 0, none⟩) 6 ex6 (some (6, ex6)) (.inl rfl) ((3 : Nat) : Int) w16 HG16.out hz16)
  go_wp2_with fail
  refine HC.out.mono ?_
  clear HC
  rintro e w17 ⟨v17, l17, rfl, hc, hv, b⟩
  obtain rfl := cycL_ex 3 (by decide) hc ex6_cyc3
  have B17 := Lib.hid (B16.out.trans (b.mono B16.out.size))
  obtain ⟨va, vc, vA, rfl, _⟩ := hv
  clear b hc
  go_wp2_with fail
  go_ret
  exact ⟨rfl, B17.out⟩
end Go.Proofs.Ytcpikabhcjkkmaa
