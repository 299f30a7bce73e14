/- The walk of the law ClusterKnown: the examples and the limits. No conditions. -/
import Derived.Test.YtibdggbejogciaaCk
import Derived.Test.YtibdggbejogciaaCvGp
namespace Go.Proofs.Ytibdggbejogciaa
open Go.RowKit

/-- the edges with the least and the greatest number -/
def wT : List Ed := [⟨0, 1, -9223372036854775808⟩, ⟨1, 2, 9223372036854775807⟩]
theorem wV_all : gpL 6 (lbW wV 2) = [(0, 1), (1, 2), (3, 2), (5, 1)] := by decide +kernel
theorem wV_count : cntN 6 (lbW wV 1) = 6 := by decide +kernel
theorem wV_labs : intsN (labs 6 (lbW wV 3)) = [0, 0, 0, 3, 3, 5] := by decide +kernel
theorem wZ_count : cntN 0 (lbW [] 0) = 0 := by decide +kernel
theorem wZ_row : lgN 0 (lbW [] 0) (lbL (lbW [] 0) 0) = 0 ∧ sqN 0 (lbW [] 0) (lbL (lbW [] 0) 0) = 0 := by decide +kernel
theorem wZ_stp {o : List Nat} (h : OrdOf [] o) : stp [] (frs [] o) = [] := by
  obtain rfl := h.uniq (o' := []) ⟨by decide, by decide⟩
  decide +kernel
theorem wT_c1 : cntN 3 (lbW wT (-9223372036854775808)) = 2 := by decide +kernel
theorem wT_c2 : cntN 3 (lbW wT 9223372036854775806) = 2 := by decide +kernel
theorem wT_c3 : cntN 3 (lbW wT 9223372036854775807) = 1 := by decide +kernel
theorem wT_stp {o : List Nat} (h : OrdOf wT o) : stp wT (frs wT o) = [-9223372036854775808, 9223372036854775807] := by
  obtain rfl := h.uniq (o' := [0, 1]) ⟨by decide, by decide⟩
  decide +kernel
set_option maxRecDepth 100000 in
set_option maxHeartbeats 8000000 in
theorem cknown_walk (w : World) : Calls Try.prog 8 #[] w fun e w' => e = .returned (.bool true) ∧ Below w.heap.size w w' := by
  have hre := fun w => crow_neq 0 0 0 0 0 0 w
  simp only [decide_true, Bool.and_self, Bool.not_true] at hre
  go_enter Try.func8, Try.ntmps8
  go_wp2_with fail
  refine (example_any _).mono ?_
  rintro e w1 ⟨A1, rfl, hE1, bb⟩
  have HE1 := Lib.hid hE1
  clear hE1
  have Bw1 := Lib.hid bb
  clear bb
  go_wp2_with fail
  refine (cnew_any w1.heap.size _ _ A1 6 wV w1 HE1.out (Nat.le_refl _) (by decide)).mono ?_
  rintro e w2 ⟨bb, ⟨h0, _⟩ | ⟨k, vb, hk, G, rfl, hv⟩⟩
  · exact absurd wV_err h0
  obtain rfl : k = 6 := by omega
  have HVw2 := Lib.hid hv
  clear hv hk G HE1
  have Bw2 := Lib.hid (Bw1.out.trans (bb.mono Bw1.out.size))
  clear Bw1 bb
  go_wp2_with fail
  refine (cv_all HVw2.out 2).mono ?_
  rintro e w3 h6
  obtain ⟨pa, pc, PA, rfl, hP, bb⟩ := h6.rdP
  rw [wV_all] at hP ⊢
  have HP := Lib.hid hP
  clear hP h6
  have HVw3 := Lib.hid (HVw2.out.at bb)
  have Bw3 := Lib.hid (Bw2.out.trans (bb.mono Bw2.out.size))
  clear HVw2 Bw2 bb
  have r := lit_pairs [(0, 1), (1, 2), (3, 2), (5, 1)] #[.int .i64 0, .int .i64 1, .int .i64 1, .int .i64 2, .int .i64 3, .int .i64 2, .int .i64 5, .int .i64 1] 4 rfl 4 rfl w3 45
  have bb : Below w3.heap.size w3 (w3.alloc (.cells #[.int .i64 0, .int .i64 1, .int .i64 1, .int .i64 2, .int .i64 3, .int .i64 2, .int .i64 5, .int .i64 1] 45)) := (Below.refl _ _).alloc (Nat.le_refl _) _
  have HG := Lib.hid (groups_any (w3.heap.size + 1) 4 4 pa (some ⟨w3.heap.size, 0, none⟩) pc 4 PA _ [(0, 1), (1, 2), (3, 2), (5, 1)] [(0, 1), (1, 2), (3, 2), (5, 1)] _ rfl rfl ((HP.out.below bb).mono (by omega)) r (by decide))
  clear r HP
  have HVx := Lib.hid (HVw3.out.at bb)
  have Bx := Lib.hid (Bw3.out.trans (bb.mono Bw3.out.size))
  clear HVw3 Bw3 bb
  go_wp2_with fail
  refine HG.out.mono ?_
  rintro e w' ⟨rfl, q, rfl⟩
  simp only [decide_true]
  obtain ⟨w4, hx⟩ : ∃ x, x = (w3.alloc (.cells #[.int .i64 0, .int .i64 1, .int .i64 1, .int .i64 2, .int .i64 3, .int .i64 2, .int .i64 5, .int .i64 1] 45)).drewN q := ⟨_, rfl⟩
  have HVw4 := Lib.hid (HVx.out.at (below_drewN (Below.refl _ _) q))
  have Bw4 := Lib.hid (below_drewN Bx.out q)
  rw [← hx] at HVw4 Bw4 ⊢
  clear hx HVx Bx HG
  go_wp2_with fail
  refine (cv_count HVw4.out 1).mono ?_
  rintro e w5 ⟨rfl, bb⟩
  rw [wV_count]
  have HVw5 := Lib.hid (HVw4.out.at bb)
  have Bw5 := Lib.hid (Bw4.out.trans (bb.mono Bw4.out.size))
  clear HVw4 Bw4 bb
  go_wp2_with fail
  refine (clabels_any vb 6 _ 3 w5 HVw5.out).mono ?_
  rintro e w6 ⟨v2, rfl, hl2, bb⟩
  obtain ⟨la, lc, LA, rfl, hLA⟩ := hl2.rd
  unfold LabR at hLA
  rw [wV_labs] at hLA
  have HLA := Lib.hid hLA
  clear hLA hl2
  have HVw6 := Lib.hid (HVw5.out.at bb)
  have Bw6 := Lib.hid (Bw5.out.trans (bb.mono Bw5.out.size))
  clear HVw5 Bw5 bb
  have r := lit_nums [0, 0, 0, 3, 3, 5] #[.int .i64 0, .int .i64 0, .int .i64 0, .int .i64 3, .int .i64 3, .int .i64 5] 6 rfl etI 6 rfl w6 3
  have bb : Below w6.heap.size w6 (w6.alloc (.cells #[.int .i64 0, .int .i64 0, .int .i64 0, .int .i64 3, .int .i64 3, .int .i64 5] 3)) := (Below.refl _ _).alloc (Nat.le_refl _) _
  have HG := Lib.hid (numbers_n (w6.heap.size + 1) 6 6 la (some ⟨w6.heap.size, 0, none⟩) lc 6 LA _ [0, 0, 0, 3, 3, 5] [0, 0, 0, 3, 3, 5] _ rfl rfl ((HLA.out.below bb).mono (by omega)) r (by decide))
  clear r HLA
  have HVx := Lib.hid (HVw6.out.at bb)
  have Bx := Lib.hid (Bw6.out.trans (bb.mono Bw6.out.size))
  clear HVw6 Bw6 bb
  go_wp2_with fail
  refine HG.out.mono ?_
  rintro e w' ⟨rfl, q, rfl⟩
  simp only [decide_true]
  obtain ⟨w7, hx⟩ : ∃ x, x = (w6.alloc (.cells #[.int .i64 0, .int .i64 0, .int .i64 0, .int .i64 3, .int .i64 3, .int .i64 5] 3)).drewN q := ⟨_, rfl⟩
  have HVw7 := Lib.hid (HVx.out.at (below_drewN (Below.refl _ _) q))
  have Bw7 := Lib.hid (below_drewN Bx.out q)
  rw [← hx] at HVw7 Bw7 ⊢
  clear hx HVx Bx HG
  go_wp2_with fail
  refine (of_out vb 6 6 _ 0 w7 HVw7.out (by decide)).mono ?_
  rintro e w8 ⟨rfl, bb⟩
  have hgv : grpV 0 0 = #[.int .i64 0, .int .i64 0] := rfl
  rw [hgv]
  clear hgv
  have HVw8 := Lib.hid (HVw7.out.at bb)
  have Bw8 := Lib.hid (Bw7.out.trans (bb.mono Bw7.out.size))
  clear HVw7 Bw7 bb
  have bb : Below w8.heap.size w8 (w8.alloc (.cells #[.int .i64 0, .int .i64 0] 45)) := (Below.refl _ _).alloc (Nat.le_refl _) _
  have HVy := Lib.hid (HVw8.out.at bb)
  have By := Lib.hid (Bw8.out.trans (bb.mono Bw8.out.size))
  clear HVw8 Bw8 bb
  go_wp2_with fail
  refine (members_out vb 6 (-1) _ 0 _ HVy.out (by decide)).mono ?_
  rintro e w' ⟨rfl, rfl⟩
  obtain ⟨w9, hx⟩ : ∃ x, x = w8.alloc (.cells #[.int .i64 0, .int .i64 0] 45) := ⟨_, rfl⟩
  rw [← hx] at HVy By ⊢
  have HVw9 := HVy; have Bw9 := By
  clear hx HVy By
  have r := lit_es [⟨4, 5, 0⟩] #[.int .i64 4, .int .i64 5, .int .i64 0] 1 rfl w9 29
  have bb : Below w9.heap.size w9 (w9.alloc (.cells #[.int .i64 4, .int .i64 5, .int .i64 0] 29)) := (Below.refl _ _).alloc (Nat.le_refl _) _
  have HN := Lib.hid (cnew_any (w9.heap.size + 1) _ 1 _ 5 [⟨4, 5, 0⟩] (w9.alloc (.cells #[.int .i64 4, .int .i64 5, .int .i64 0] 29)) r (by simp) (by decide))
  have Bx := Lib.hid (Bw9.out.trans (bb.mono Bw9.out.size))
  clear r bb Bw9
  go_wp2_with fail
  refine (HN.out).mono ?_
  rintro e w10 ⟨bb, ⟨h0, rfl⟩ | ⟨k, vd, hk, G, _, _⟩⟩
  rotate_left
  · obtain rfl : k = 5 := by omega
    exact absurd (gErr_ok G) (by decide +kernel)
  have hg : gErr 5 [⟨4, 5, 0⟩] = 3 := by decide +kernel
  rw [hg]
  have Bw10 := Lib.hid (Bx.out.trans (bb.mono Bx.out.size))
  clear hg h0 bb Bx HN
  have r := lit_es [⟨4, 4, 0⟩] #[.int .i64 4, .int .i64 4, .int .i64 0] 1 rfl w10 29
  have bb : Below w10.heap.size w10 (w10.alloc (.cells #[.int .i64 4, .int .i64 4, .int .i64 0] 29)) := (Below.refl _ _).alloc (Nat.le_refl _) _
  have HN := Lib.hid (cnew_any (w10.heap.size + 1) _ 1 _ 5 [⟨4, 4, 0⟩] (w10.alloc (.cells #[.int .i64 4, .int .i64 4, .int .i64 0] 29)) r (by simp) (by decide))
  have Bx := Lib.hid (Bw10.out.trans (bb.mono Bw10.out.size))
  clear r bb Bw10
  go_wp2_with fail
  refine (HN.out).mono ?_
  rintro e w11 ⟨bb, ⟨h0, rfl⟩ | ⟨k, vd, hk, G, _, _⟩⟩
  rotate_left
  · obtain rfl : k = 5 := by omega
    exact absurd (gErr_ok G) (by decide +kernel)
  have hg : gErr 5 [⟨4, 4, 0⟩] = 9 := by decide +kernel
  rw [hg]
  have Bw11 := Lib.hid (Bx.out.trans (bb.mono Bx.out.size))
  clear hg h0 bb Bx HN
  go_wp2_with fail
  refine (cnew_any w11.heap.size none 0 (fun _ => ⟨0, 0, none⟩) (-1) [] w11 (Rd.nil _) (Nat.le_refl _) (by decide)).mono ?_
  rintro e w12 ⟨bb, ⟨h0, rfl⟩ | ⟨k, vd, hk, G, _, _⟩⟩
  rotate_left
  · omega
  have hg : gErr (-1) [] = 2 := by decide +kernel
  rw [hg]
  clear hg h0
  have Bw12 := Lib.hid (Bw11.out.trans (bb.mono Bw11.out.size))
  clear Bw11 bb
  go_wp2_with fail
  refine (cnew_any w12.heap.size none 0 (fun _ => ⟨0, 0, none⟩) 0 [] w12 (Rd.nil _) (Nat.le_refl _) (by decide)).mono ?_
  rintro e w13 ⟨bb, ⟨h0, _⟩ | ⟨k, ve, hk, G, rfl, hv⟩⟩
  · exact absurd (by decide +kernel) h0
  obtain rfl : k = 0 := by omega
  have HZw13 := Lib.hid hv
  clear hv hk G
  have Bw13 := Lib.hid (Bw12.out.trans (bb.mono Bw12.out.size))
  clear Bw12 bb
  go_wp2_with fail
  refine (cv_count HZw13.out 0).mono ?_
  rintro e w14 ⟨rfl, bb⟩
  rw [wZ_count]
  have HZw14 := Lib.hid (HZw13.out.at bb)
  have Bw14 := Lib.hid (Bw13.out.trans (bb.mono Bw13.out.size))
  clear HZw13 Bw13 bb
  go_wp2_with fail
  refine (cv_row HZw14.out 0).mono ?_
  rintro e w15 ⟨rfl, bb⟩
  rw [wZ_row.1, wZ_count, wZ_row.2]
  have HZw15 := Lib.hid (HZw14.out.at bb)
  have Bw15 := Lib.hid (Bw14.out.trans (bb.mono Bw14.out.size))
  clear HZw14 Bw14 bb
  go_wp2_with fail
  refine (steps_any ve 0 [] w15 HZw15.out).mono ?_
  rintro e w16 ⟨o, ho, hs⟩
  rw [wZ_stp ho] at hs
  obtain ⟨sa, sc, SA, rfl, _, bb⟩ := hs.rds
  clear ho hs
  have HZw16 := Lib.hid (HZw15.out.at bb)
  have Bw16 := Lib.hid (Bw15.out.trans (bb.mono Bw15.out.size))
  clear HZw15 Bw15 bb
  have r := lit_es wT #[.int .i64 0, .int .i64 1, .int .i64 (-9223372036854775808), .int .i64 1, .int .i64 2, .int .i64 9223372036854775807] 2 rfl w16 29
  have bb : Below w16.heap.size w16 (w16.alloc (.cells #[.int .i64 0, .int .i64 1, .int .i64 (-9223372036854775808), .int .i64 1, .int .i64 2, .int .i64 9223372036854775807] 29)) := (Below.refl _ _).alloc (Nat.le_refl _) _
  have HN := Lib.hid (cnew_any (w16.heap.size + 1) _ 2 _ 3 wT (w16.alloc (.cells #[.int .i64 0, .int .i64 1, .int .i64 (-9223372036854775808), .int .i64 1, .int .i64 2, .int .i64 9223372036854775807] 29)) r (by simp) (by decide))
  have Bx := Lib.hid (Bw16.out.trans (bb.mono Bw16.out.size))
  clear r bb Bw16 HZw16
  go_wp2_with fail
  refine (HN.out).mono ?_
  rintro e w17 ⟨bb, ⟨h0, _⟩ | ⟨k, vt, hk, G, rfl, hv⟩⟩
  · exact absurd (by decide +kernel) h0
  obtain rfl : k = 3 := by omega
  have HTw17 := Lib.hid hv
  have Bw17 := Lib.hid (Bx.out.trans (bb.mono Bx.out.size))
  clear hv hk G bb Bx HN
  go_wp2_with fail
  refine (cv_count HTw17.out (-9223372036854775808)).mono ?_
  rintro e w18 ⟨rfl, bb⟩
  rw [wT_c1]
  have HTw18 := Lib.hid (HTw17.out.at bb)
  have Bw18 := Lib.hid (Bw17.out.trans (bb.mono Bw17.out.size))
  clear HTw17 Bw17 bb
  go_wp2_with fail
  refine (cv_count HTw18.out 9223372036854775806).mono ?_
  rintro e w19 ⟨rfl, bb⟩
  rw [wT_c2]
  have HTw19 := Lib.hid (HTw18.out.at bb)
  have Bw19 := Lib.hid (Bw18.out.trans (bb.mono Bw18.out.size))
  clear HTw18 Bw18 bb
  go_wp2_with fail
  refine (cv_count HTw19.out 9223372036854775807).mono ?_
  rintro e w20 ⟨rfl, bb⟩
  rw [wT_c3]
  have HTw20 := Lib.hid (HTw19.out.at bb)
  have Bw20 := Lib.hid (Bw19.out.trans (bb.mono Bw19.out.size))
  clear HTw19 Bw19 bb
  go_wp2_with fail
  refine (steps_any vt 3 wT w20 HTw20.out).mono ?_
  rintro e w21 ⟨o, ho, hs⟩
  rw [wT_stp ho] at hs
  obtain ⟨ta, tc, TA, rfl, hTS, bb⟩ := hs.rds
  have HTS := Lib.hid hTS
  clear ho hs hTS
  have HTw21 := Lib.hid (HTw20.out.at bb)
  have Bw21 := Lib.hid (Bw20.out.trans (bb.mono Bw20.out.size))
  clear HTw20 Bw20 bb
  have r := lit_nums [-9223372036854775808, 9223372036854775807] #[.int .i64 (-9223372036854775808), .int .i64 9223372036854775807] 2 rfl etI64 2 rfl w21 2
  have bb : Below w21.heap.size w21 (w21.alloc (.cells #[.int .i64 (-9223372036854775808), .int .i64 9223372036854775807] 2)) := (Below.refl _ _).alloc (Nat.le_refl _) _
  have HG := Lib.hid (weights_n (w21.heap.size + 1) 2 2 ta (some ⟨w21.heap.size, 0, none⟩) tc 2 TA _ [-9223372036854775808, 9223372036854775807] [-9223372036854775808, 9223372036854775807] _ rfl rfl ((HTS.out.below bb).mono (by omega)) r (by decide))
  have Bx := Lib.hid (Bw21.out.trans (bb.mono Bw21.out.size))
  clear r HTS HTw21 Bw21 bb
  go_wp2_with fail
  refine HG.out.mono ?_
  rintro e w' ⟨rfl, q, rfl⟩
  simp only [decide_true]
  go_wp2_with fail
  refine (works_any _).mono ?_
  rintro e w' ⟨rfl, bb⟩
  go_wp2_with fail
  go_ret
  exact ⟨rfl, (below_drewN Bx.out q).trans (bb.mono (by have := Bx.out.size; simpa using this))⟩
end Go.Proofs.Ytibdggbejogciaa
