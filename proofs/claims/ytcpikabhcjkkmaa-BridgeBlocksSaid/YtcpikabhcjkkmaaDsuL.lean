/- The walk of Labels of package dsu. Conditions: the sets were made by New. -/
import Derived.Test.YtcpikabhcjkkmaaDsuN
import Derived.Test.YtcpikabhcjkkmaaMe
namespace Go.Proofs.Ytcpikabhcjkkmaa
open Go.RowKit

/-- what Labels answers -/
def DLabRes (z : Zone) (b n : Nat) (lab : Nat → Nat) (w : World) (e : Ending) (w' : World) : Prop :=
  e = .returned (.slice (some ⟨w.heap.size, 0, none⟩) n n) ∧ Row w' w.heap.size n (natC lab) ∧ DS w' z b n lab ∧ Below z.low w w'
set_option maxRecDepth 100000 in
set_option maxHeartbeats 2000000 in
theorem dlabels_any (z : Zone) (b n : Nat) (lab : Nat → Nat) (w : World) (hD : DS w z b n lab) (hz : z.high ≤ w.heap.size) (hn : n ≤ 65536) :
    Calls Try.prog 63 #[.pointer (some ⟨b, 0, none⟩)] w (DLabRes z b n lab w) := by
  obtain ⟨ub, lb, sb, up, ls, sz, h, H, hM, hU, hK, hls⟩ := hD
  have hmk : ∀ w, (Instr.makeSlice 29 (.int .i64 (n : Nat)) (.int .i64 (n : Nat))).run Try.prog w = .ok (.slice (some ⟨w.heap.size, 0, none⟩) n n) (w.alloc (.cells (madeCells #[.int .i64 0] n) 3)) := fun w =>
    run_make_row' (P := Try.prog) 29 3 (.int .i64 0) 8 Try.underlying29 Try.infoI rfl .i64 .i64 n (by omega) (by omega) w
  have c0 : w.cell? ⟨b, 0, none⟩ = some (.pointer (some ⟨b, 0, none⟩)) := hM.st.cell (i := 0) (by omega)
  have c1 : w.cell? ⟨b, 1, none⟩ = some (.slice (some ⟨ub, 0, none⟩) n n) := hM.st.cell (i := 1) (by omega)
  have HV := Lib.hid (dvalid_is b w c0)
  have HM := Lib.hid hM; have HU := Lib.hid hU; have HK := Lib.hid hK; have HLS := Lib.hid hls
  have hbz := hM.lo.1.2
  have hzl := hM.lo.1.1
  clear hM hU hK hls c0
  go_enter Try.func63, Try.ntmps63
  go_wp2_with fail
  refine HV.out.mono ?_
  rintro e wx ⟨rfl, rfl⟩
  clear HV
  rename World => w0
  go_wp2_with fail
  have HMa := Lib.hid (HM.out.below ((Below.refl _ _).alloc (Nat.le_refl _) (.cells (madeCells #[.int .i64 0] n) 3)))
  have HRa := Lib.hid ((Row.made w0 (.int .i64 0) n 3).congr (f' := fun j => if j < 0 then .int .i64 (lab j : Nat) else .int .i64 0) fun j _ => by simp)
  have HBa := Lib.hid (show Below z.low w0 (w0.alloc (.cells (madeCells #[.int .i64 0] n) 3)) from (Below.refl _ _).alloc (by omega) _)
  generalize hwa : w0.alloc (.cells (madeCells #[.int .i64 0] n) 3) = wa at *
  clear hwa hmk c1
  go_loopw [16] (fun iv wr => ∃ (i : Nat) (u : Nat → Nat), i ≤ n ∧ iv = .int .i64 (i : Nat) ∧ Hid (Row wr w0.heap.size n (fun j => if j < i then .int .i64 (lab j : Nat) else .int .i64 0)) ∧ Hid (DsM wr z b ub lb sb n u ls sz (cntN n lab)) ∧ Hid (UF n u lab h H) ∧ Hid (∀ j, j < n → (u j = j ↔ up j = j)) ∧ Hid (Below z.low w0 wr)) (fun iv _ => n - (intOf iv).toNat)
  case atStart => exact ⟨0, up, Nat.zero_le _, rfl, HRa, HMa, HU, Lib.hid (fun _ _ => Iff.rfl), HBa⟩
  case round =>
    clear HM HU HRa HMa HBa
    obtain ⟨i, u, hi, rfl, HR, HM, HU, HI, HB⟩ := hrel
    by_cases hlt : i < n
    · have HS : wr.drew.cell? ⟨b, 2, none⟩ = some (.slice (some ⟨lb, 0, none⟩) n n) := HM.out.st.cell (i := 2) (by omega)
      have HRt := Lib.hid (droot_any z b ub lb sb n (cntN n lab) u ls sz lab h H i wr.drew HM.out.drew HU.out hlt)
      have hiv : (0 : Int) ≤ i ∧ (i : Int) < n := by omega
      go_wp2_with fail
      refine region_plain (fun w' => w'.cell? ⟨b, 2, none⟩ = some (.slice (some ⟨lb, 0, none⟩) n n)) (by kernel_rfl) ?_
      refine take_at (i := 0) (d := 19) (v := ?_) rfl rfl (by kernel_rfl) (by kernel_rfl) (by kernel_rfl) (fun _ _ _ _ => NormalOnly.any) rfl ?hy1 HS ?rest1
      case hy1 => intro w' hSw; (try dsimp only at hSw); go_simp; try (with_reducible rfl)
      try simp only [List.setIfInBounds_toArray, List.set_cons_zero, List.set_cons_succ]
      refine take_at (i := 1) (d := 20) (v := ?_) rfl rfl (by kernel_rfl) (by kernel_rfl) (by kernel_rfl) (fun _ _ _ _ => NormalOnly.any) rfl ?hy2 HS ?rest2
      case hy2 => intro w' hSw; (try dsimp only at hSw); go_simp; try (with_reducible rfl)
      try simp only [List.setIfInBounds_toArray, List.set_cons_zero, List.set_cons_succ]
      refine take_at (i := 2) (d := 21) (v := ?_) rfl rfl (by kernel_rfl) (by kernel_rfl) (by kernel_rfl) (fun _ _ _ _ => NormalOnly.any) rfl ?hy3 HS ?rest3
      case hy3 => intro w' hSw; (try dsimp only at hSw); go_simp; try (with_reducible rfl)
      try simp only [List.setIfInBounds_toArray, List.set_cons_zero, List.set_cons_succ]
      refine take_at (i := 3) (d := 22) (v := ?_) rfl rfl (by kernel_rfl) (by kernel_rfl) (by kernel_rfl) (fun _ _ _ _ => NormalOnly.any) rfl ?hy4 HS ?rest4
      case hy4 => intro w' hSw; (try dsimp only at hSw); go_simp; try (with_reducible rfl)
      try simp only [List.setIfInBounds_toArray, List.set_cons_zero, List.set_cons_succ]
      refine take_at (i := 4) (d := 23) (v := ?_) rfl rfl (by kernel_rfl) (by kernel_rfl) (by kernel_rfl) (fun _ _ _ _ => NormalOnly.any) rfl ?hy5 HS ?rest5
      case hy5 => intro w' hSw; (try dsimp only at hSw); go_simp; try (with_reducible rfl)
      try simp only [List.setIfInBounds_toArray, List.set_cons_zero, List.set_cons_succ]
      refine take_at (i := 5) (d := 24) (v := ?_) rfl rfl (by kernel_rfl) (by kernel_rfl) (by kernel_rfl) (fun _ _ _ _ => NormalOnly.any) rfl ?hy6 HS ?rest6
      case hy6 => intro w' hSw; (try dsimp only at hSw); go_simp; try (with_reducible rfl)
      try simp only [List.setIfInBounds_toArray, List.set_cons_zero, List.set_cons_succ]
      refine take_at (i := 6) (d := 25) (v := ?_) rfl rfl (by kernel_rfl) (by kernel_rfl) (by kernel_rfl) (fun _ _ _ _ => NormalOnly.any) rfl ?hy7 HS ?rest7
      case hy7 => intro w' hSw; (try dsimp only at hSw); go_simp; try (with_reducible rfl)
      try simp only [List.setIfInBounds_toArray, List.set_cons_zero, List.set_cons_succ]
      refine take_at (i := 7) (d := 26) (v := ?_) rfl rfl (by kernel_rfl) (by kernel_rfl) (by kernel_rfl) (fun _ _ _ _ => NormalOnly.any) rfl ?hy8 HS ?rest8
      case hy8 => intro w' hSw; (try dsimp only at hSw); go_simp; try (with_reducible rfl)
      try simp only [List.setIfInBounds_toArray, List.set_cons_zero, List.set_cons_succ]
      refine wpAnyH_ready (rs := [8]) (by kernel_rfl) (by simp) ?_
      refine AllReadyH.cons rfl (fun K hK => ?_) AllReadyH.nil
      go_simp
      refine HRt.out.mono ?_
      rintro e w4 ⟨r, u4, rfl, hr, hrr, hrl, hM4, hU4, hI4, hin⟩
      have HS4 : w4.cell? ⟨b, 2, none⟩ = some (.slice (some ⟨lb, 0, none⟩) n n) := hM4.st.cell (i := 2) (by omega)
      refine hK.out _ _ HS4 (fun HS => ?_)
      clear hK HRt
      have hri : (0 : Int) ≤ r ∧ (r : Int) < n := by omega
      have cr : w4.cell? ⟨lb, r, none⟩ = some (.int .i64 (lab i : Nat)) := by
        rw [hM4.rls.cell hr, natC, (HLS.out r hr ((HI.out r hr).1 ((hI4 r hr).1 hrr))).1, hrl]
      have hR4 : Row w4 w0.heap.size n (fun j => if j < i then .int .i64 (lab j : Nat) else .int .i64 0) := (show Row wr.drew w0.heap.size n _ from HR.out).inner hin (fun c => by have := c.2; omega)
      have cs := hR4.cell hlt
      have fs := hR4.frozen i
      have HS5 : (w4.setCell ⟨w0.heap.size, i, none⟩ (.int .i64 (lab i : Nat))).cell? ⟨b, 2, none⟩ = some (.slice (some ⟨lb, 0, none⟩) n n) := by
        rw [World.cell?_setCell_other (h := fun e => by cases e; omega)]; exact HS4
      have HR5 := Lib.hid ((hR4.set i (.int .i64 (lab i : Nat))).congr (f' := fun j => if j < i + 1 then .int .i64 (lab j : Nat) else .int .i64 0) fun j _ => by
        by_cases e : j = i
        · subst e; rw [if_pos rfl, if_pos (by omega)]
        · rw [if_neg e]
          by_cases e2 : j < i
          · rw [if_pos e2, if_pos (by omega)]
          · rw [if_neg e2, if_neg (by omega)])
      have hlo := hM4.lo
      have HM5 := Lib.hid (show DsM (w4.setCell ⟨w0.heap.size, i, none⟩ (.int .i64 (lab i : Nat))) z b ub lb sb n u4 ls sz (cntN n lab) from
        ⟨hM4.st.setOther (by have := hlo.1.2; show b ≠ w0.heap.size; omega) _, hM4.rup.setOther (by have := hlo.2.1.2; show ub ≠ w0.heap.size; omega) _, hM4.rls.setOther (by have := hlo.2.2.1.2; show lb ≠ w0.heap.size; omega) _, hM4.rsz.setOther (by have := hlo.2.2.2.2; show sb ≠ w0.heap.size; omega) _, hM4.ne, hlo⟩)
      have HU5 := Lib.hid hU4
      have HI5 := Lib.hid (fun j hj => (hI4 j hj).trans (HI.out j hj))
      have HB5 := Lib.hid ((HB.out.drew.trans hin.bel).setCell (p := ⟨w0.heap.size, i, none⟩) (by show z.low ≤ w0.heap.size; omega) (.int .i64 (lab i : Nat)))
      clear HR HM HU HI HB hM4 hU4 hI4 hin hR4 hlo hrr hrl
      refine take_at (i := 9) (d := 28) (v := ?_) rfl rfl (by kernel_rfl) (by kernel_rfl) (by kernel_rfl) (fun _ _ _ _ => NormalOnly.any) rfl ?hy9 HS ?rest9
      case hy9 => intro w' hSw; (try dsimp only at hSw); go_simp; try (with_reducible rfl)
      try simp only [List.setIfInBounds_toArray, List.set_cons_zero, List.set_cons_succ]
      refine wpAnyH_ready (rs := [10]) (by kernel_rfl) (by simp) ?_
      refine AllReadyH.cons rfl (fun K hK => ?_) AllReadyH.nil
      go_simp
      refine hK.out _ _ HS4 (fun HS => ?_)
      clear hK
      refine take_at (i := 11) (d := 30) (v := ?_) rfl rfl (by kernel_rfl) (by kernel_rfl) (by kernel_rfl) (fun _ _ _ _ => NormalOnly.any) rfl ?hy10 HS ?rest10
      case hy10 => intro w' hSw; (try dsimp only at hSw); go_simp; try (with_reducible rfl)
      try simp only [List.setIfInBounds_toArray, List.set_cons_zero, List.set_cons_succ]
      refine wpAnyH_ready (rs := [12]) (by kernel_rfl) (by simp) ?_
      refine AllReadyH.cons rfl (fun K hK => ?_) AllReadyH.nil
      go_simp
      refine hK.out _ _ HS5 (fun _ => ?_)
      clear hK
      refine wpAnyH_done (by kernel_rfl) ⟨rfl, ?_⟩ _
      clear HS HS4 HS5 cs fs cr
      go_wp2_with fail
      go_roundw
      case rel => exact ⟨i + 1, u4, by omega, by go_num, HR5, HM5, HU5, HI5, HB5⟩
      case measure => simp only [intOf]; omega
    · obtain rfl : i = n := by omega
      go_wp2_with fail
      go_ret
      exact ⟨rfl, HR.out.congr fun j hj => by rw [if_pos hj]; rfl, ⟨ub, lb, sb, u, ls, sz, h, H, HM.out, HU.out, HK.out, fun j hj hj2 => HLS.out j hj ((HI.out j hj).1 hj2)⟩, HB.out⟩
end Go.Proofs.Ytcpikabhcjkkmaa
