/- The walk of Even of package tally. Conditions: the number is small. -/
import Derived.Test.YtpbgophogneecaaGreatTwa
namespace Go.Proofs.YtpbgophogneecaaGreat
open Go.RowKit

theorem Tryz.infoTw : (Tryz.prog.info? 2).map (fun i => (i.zero, i.size, i.bytes)) = some (some (.int .i64 0), 1, 8) := by kernel_rfl
theorem even1_any (i : Int) (w : World) : Calls Tryz.prog 27 #[.int .i64 i] w fun e w' => e = .returned (.int .i64 1) ∧ w = w' := by
  go_enter Tryz.func27, Tryz.ntmps27
  go_wp2_with fail
  go_ret
  exact ⟨rfl, rfl⟩
/-- a tally whose own address is not yet written -/
structure TalN (W : World) (z : Zone) (tb db wb bb n : Nat) : Prop where
  ds : DS W z db n id
  row : Row W tb 4 (fun i => (#[Value.pointer none, .pointer (some ⟨db, 0, none⟩), .slice (some ⟨wb, 0, none⟩) n n, .pointer (some ⟨bb, 0, none⟩)] : Array Value).getD i undef)
  wt : Row W wb n (natC fun _ => 0)
  bag : BagAt W bb .nil
  hi : z.high ≤ W.heap.size
  lo : z.low ≤ z.high ∧ z.high ≤ tb ∧ z.high ≤ wb ∧ z.high ≤ bb
  ne : tb ≠ wb ∧ tb ≠ bb ∧ wb ≠ bb
theorem TalN.on {W : World} {z : Zone} {tb db wb bb n : Nat} (h : TalN W z tb db wb bb n) : TalQ (W.setCell ⟨tb, 0, none⟩ (.pointer (some ⟨tb, 0, none⟩))) z tb db wb bb n id (fun i => if i < 0 then 1 else 0) .nil := by
  have hB : Below z.high W (W.setCell ⟨tb, 0, none⟩ (.pointer (some ⟨tb, 0, none⟩))) := (Below.refl _ W).setCell (p := ⟨tb, 0, none⟩) h.lo.2.1 _
  refine ⟨h.ds.zone hB (Nat.le_refl _), (h.row.set 0 _).congr fun i hi => ?_, (h.wt.setOther (fun e => h.ne.1 e.symm) _).congr fun i _ => ?_, h.bag.keep fun j hj => Below.heap_setCell _ _ _ _ (fun e => ?_), by have := h.hi; simpa [World.setCell] using this, ⟨h.lo.1, h.lo.2.1, h.lo.2.2.1, h.lo.2.2.2, fun j hj => by simp [Tn.bl] at hj⟩, h.ne.1, h.ne.2.1, h.ne.2.2, by simp [Tn.bl], by simp [Tn.bl]⟩
  · match i, hi with
    | 0, _ => rfl
    | 1, _ => rfl
    | 2, _ => rfl
    | 3, _ => rfl
    | n + 4, h => omega
  · unfold natC; simp
  · have e2 : j = tb := e
    simp [Tn.bl] at hj
    exact h.ne.2.1 (by rw [← e2, hj])
theorem talLit (w : World) (db wb bb n : Nat) : Row (w.alloc (.cells #[.pointer none, .pointer (some ⟨db, 0, none⟩), .slice (some ⟨wb, 0, none⟩) n n, .pointer (some ⟨bb, 0, none⟩)] 114)) w.heap.size 4 (fun i => (#[Value.pointer none, .pointer (some ⟨db, 0, none⟩), .slice (some ⟨wb, 0, none⟩) n n, .pointer (some ⟨bb, 0, none⟩)] : Array Value).getD i undef) := Row.lit w _ _ (by simp) fun i hi => by
  match i, hi with
  | 0, _ => rfl
  | 1, _ => rfl
  | 2, _ => rfl
  | 3, _ => rfl
  | n + 4, h => omega
set_option maxRecDepth 100000 in
set_option maxHeartbeats 16000000 in
theorem tbuild_any (n : Nat) (w : World) (hn : n ≤ 4096) : Calls Tryz.prog 26 #[.int .i64 (n : Nat), .func (.func 27) #[] #[]] w fun e w' => ∃ tb, e = .returned (.tuple #[.pointer (some ⟨tb, 0, none⟩), .int .i64 0]) ∧ TalAt w' w.heap.size tb n id ∧ Below w.heap.size w w' := by
  have hmk : ∀ w, (Instr.makeSlice 55 (.int .i64 (n : Nat)) (.int .i64 (n : Nat))).run Tryz.prog w = .ok (.slice (some ⟨w.heap.size, 0, none⟩) n n) (w.alloc (.cells (madeCells #[.int .i64 0] n) 2)) := fun w =>
    run_make_row' (P := Tryz.prog) 55 2 (.int .i64 0) 8 Tryz.underlying55 Tryz.infoTw rfl .i64 .i64 n (by omega) (by omega) w
  have hen : ∀ (i : Int) (w : World), (callFunc 27 #[.int .i64 i]).run Tryz.prog w = .ok (.enter 27 #[.int .i64 i]) w := fun i w => callFunc_go Tryz.func27 (by kernel_rfl) (by kernel_rfl) _ _
  have HD := Lib.hid (dnew_any n w (by omega))
  go_enter Tryz.func26, Tryz.ntmps26
  go_wp2_with fail
  refine HD.out.mono ?_
  rintro e w1 ⟨db, rfl, hd, b1⟩
  have HDS := Lib.hid hd; have HB1 := Lib.hid b1
  clear hd b1 HD
  go_wp2_with fail
  have HS : True := trivial
  refine region_plain (fun _ => True) (by kernel_rfl) ?_
  refine take_at (i := 0) (d := 19) (v := ?_) rfl rfl (by kernel_rfl) (by kernel_rfl) (by kernel_rfl) (fun _ _ _ _ => NormalOnly.any) rfl ?hy1 HS ?rest1
  case hy1 => intro w' hSw; (try dsimp only at hSw); go_simp; try (with_reducible rfl)
  try simp only [List.setIfInBounds_toArray, List.set_cons_zero, List.set_cons_succ]
  refine take_at (i := 1) (d := 20) (v := ?_) rfl rfl (by kernel_rfl) (by kernel_rfl) (by kernel_rfl) (fun _ _ _ _ => NormalOnly.any) rfl ?hy2 HS ?rest2
  case hy2 => intro w' hSw; (try dsimp only at hSw); go_simp; try (with_reducible rfl)
  try simp only [List.setIfInBounds_toArray, List.set_cons_zero, List.set_cons_succ]
  refine wpAnyH_ready (rs := [2, 3]) (by kernel_rfl) (by simp) ?_
  refine AllReadyH.cons rfl (fun K hK => ?_) (AllReadyH.cons rfl (fun K hK => ?_) AllReadyH.nil)
  · go_simp
    have hA := Row.made w1 (.int .i64 0) n 2
    have hAB : Below w1.heap.size w1 (w1.alloc (.cells (madeCells #[.int .i64 0] n) 2)).drew := ((Below.refl _ w1).alloc (Nat.le_refl _) _).drew
    have hAr : Row (w1.alloc (.cells (madeCells #[.int .i64 0] n) 2)).drew w1.heap.size n (fun _ => .int .i64 0) := hA.of_block rfl
    have hAs : (w1.alloc (.cells (madeCells #[.int .i64 0] n) 2)).drew.heap.size = w1.heap.size + 1 := by simp
    generalize (w1.alloc (.cells (madeCells #[.int .i64 0] n) 2)).drew = wA at *
    have HAs := Lib.hid hAs
    clear hAs
    refine hK.out _ _ trivial (fun _ => ?_)
    clear hK hA
    refine wpAnyH_ready (rs := [3]) (by kernel_rfl) (by simp) ?_
    refine AllReadyH.cons rfl (fun K hK => ?_) AllReadyH.nil
    go_simp
    refine (bagnew_any wA).mono ?_
    rintro e w2 ⟨rfl, hbag, hb2, hs2⟩
    have HS2 := Lib.hid hs2
    clear hs2
    refine hK.out _ _ trivial (fun _ => ?_)
    clear hK
    refine take_at (i := 4) (d := 23) (v := ?_) rfl rfl (by kernel_rfl) (by kernel_rfl) (by kernel_rfl) (fun _ _ _ _ => NormalOnly.any) rfl ?hy3 HS ?rest3
    case hy3 => intro w' hSw; (try dsimp only at hSw); go_simp; try (with_reducible rfl)
    try simp only [List.setIfInBounds_toArray, List.set_cons_zero, List.set_cons_succ]
    refine wpAnyH_ready (rs := [5]) (by kernel_rfl) (by simp) ?_
    refine AllReadyH.cons rfl (fun K hK => ?_) AllReadyH.nil
    go_simp
    have hB3 : Below w2.heap.size w2 (w2.alloc (.cells #[.pointer none, .pointer (some ⟨db, 0, none⟩), .slice (some ⟨w1.heap.size, 0, none⟩) n n, .pointer (some ⟨wA.heap.size, 0, none⟩)] 114)) := (Below.refl _ w2).alloc (Nat.le_refl _) _
    have hlit := talLit w2 db w1.heap.size wA.heap.size n
    have hs3 : (w2.alloc (.cells #[.pointer none, .pointer (some ⟨db, 0, none⟩), .slice (some ⟨w1.heap.size, 0, none⟩) n n, .pointer (some ⟨wA.heap.size, 0, none⟩)] 114)).heap.size = w2.heap.size + 1 := by simp
    have hAs := HAs.out; have hs2 := HS2.out
    have hb12 : Below w1.heap.size w1 w2 := hAB.trans (hb2.mono (by omega))
    have hN : TalN (w2.alloc (.cells #[.pointer none, .pointer (some ⟨db, 0, none⟩), .slice (some ⟨w1.heap.size, 0, none⟩) n n, .pointer (some ⟨wA.heap.size, 0, none⟩)] 114)) ⟨w.heap.size, w1.heap.size⟩ w2.heap.size db w1.heap.size wA.heap.size n :=
      ⟨HDS.out.below (hb12.trans (hB3.mono hb12.size)), hlit, (((hAr.below hb2 (by omega)).below hB3 (by omega))).congr fun i _ => rfl, hbag.keep fun j hj => hB3.block j (hbag.lt j hj), by show w1.heap.size ≤ _; omega, by have := HB1.out.size; exact ⟨this, by show w1.heap.size ≤ _; omega, Nat.le_refl _, by show w1.heap.size ≤ _; omega⟩, by omega, by omega, by omega⟩
    have HN := Lib.hid hN
    have HB3 := Lib.hid (HB1.out.trans ((hb12.trans (hB3.mono hb12.size)).mono HB1.out.size))
    clear hB3 hlit hs3 hb12 hN hbag hb2 hs2 hAB hAr hAs
    generalize w2.alloc (.cells #[.pointer none, .pointer (some ⟨db, 0, none⟩), .slice (some ⟨w1.heap.size, 0, none⟩) n n, .pointer (some ⟨wA.heap.size, 0, none⟩)] 114) = w3 at *
    obtain ⟨wb, hwb⟩ : ∃ x, w1.heap.size = x := ⟨_, rfl⟩
    obtain ⟨bb, hbb⟩ : ∃ x, wA.heap.size = x := ⟨_, rfl⟩
    obtain ⟨tb, htb⟩ : ∃ x, w2.heap.size = x := ⟨_, rfl⟩
    obtain ⟨z, hz⟩ : ∃ z : Zone, z = ⟨w.heap.size, w1.heap.size⟩ := ⟨_, rfl⟩
    have hzl : w.heap.size ≤ z.low := by rw [hz]; exact Nat.le_refl _
    rw [← hz] at HN
    rw [hwb, hbb, htb] at HN ⊢
    clear hwb hbb htb hz
    refine hK.out _ _ trivial (fun _ => ?_)
    clear hK HDS HB1
    refine take_at (i := 6) (d := 8) (v := ?_) rfl rfl (by kernel_rfl) (by kernel_rfl) (by kernel_rfl) (fun _ _ _ _ => NormalOnly.any) rfl ?hy4 HS ?rest4
    case hy4 => intro w' hSw; (try dsimp only at hSw); go_simp; try (with_reducible rfl)
    try simp only [List.setIfInBounds_toArray, List.set_cons_zero, List.set_cons_succ]
    refine wpAnyH_done (by kernel_rfl) ⟨rfl, ?_⟩ _
    have d0 : w3.cell? ⟨tb, 0, none⟩ = some (.pointer none) := HN.out.row.cell (i := 0) (by omega)
    have f0 := HN.out.row.frozen 0
    go_wp2_with fail
    have HQ0 := Lib.hid HN.out.on
    have HB4 := Lib.hid (HB3.out.setCell (p := ⟨tb, 0, none⟩) (Nat.le_trans hzl (Nat.le_trans HN.out.lo.1 HN.out.lo.2.1)) (.pointer (some ⟨tb, 0, none⟩)))
    clear HN HB3 d0 f0 hmk
    generalize w3.setCell ⟨tb, 0, none⟩ (.pointer (some ⟨tb, 0, none⟩)) = w4 at *
    go_loopw [30] (fun iv wr => ∃ (k : Nat) (t : Tn), k ≤ n ∧ iv = .int .i64 (k : Nat) ∧ Hid (TalQ wr z tb db wb bb n id (fun i => if i < k then 1 else 0) t) ∧ Hid (Rep t.ino (List.replicate k 1)) ∧ Hid (Below w.heap.size w wr)) (fun iv _ => n - (intOf iv).toNat)
    case atStart => exact ⟨0, .nil, Nat.zero_le _, rfl, HQ0, Lib.hid ⟨by simp [SrtC, Tn.ino], fun q hq => by simp [Tn.ino] at hq, fun x => by simp [Tn.ino, getC]⟩, HB4⟩
    case round =>
      clear HQ0 HB4
      obtain ⟨k, t, hk, rfl, HQ, HRp, BW⟩ := hrel
      by_cases hlt : k < n
      · have hki : (0 : Int) ≤ k ∧ (k : Int) < n := by omega
        have c2 : wr.cell? ⟨tb, 2, none⟩ = some (.slice (some ⟨wb, 0, none⟩) n n) := HQ.out.c2
        have xk : wr.drew.cell? ⟨wb, k, none⟩ = some (natC (fun i => if i < k then 1 else 0) k) := HQ.out.wt.cell hlt
        have fk : wr.drew.frozen? ⟨wb, k, none⟩ = false := HQ.out.wt.frozen k
        go_wp2_with fail
        have HS : wr.drew.cell? ⟨tb, 2, none⟩ = some (.slice (some ⟨wb, 0, none⟩) n n) := c2
        refine region_plain (fun w' => w'.cell? ⟨tb, 2, none⟩ = some (.slice (some ⟨wb, 0, none⟩) n n)) (by kernel_rfl) ?_
        refine take_at (i := 0) (d := 33) (v := ?_) rfl rfl (by kernel_rfl) (by kernel_rfl) (by kernel_rfl) (fun _ _ _ _ => NormalOnly.any) rfl ?hy5 HS ?rest5
        case hy5 => intro w' hSw; (try dsimp only at hSw); go_simp; try (with_reducible rfl)
        try simp only [List.setIfInBounds_toArray, List.set_cons_zero, List.set_cons_succ]
        refine take_at (i := 1) (d := 34) (v := ?_) rfl rfl (by kernel_rfl) (by kernel_rfl) (by kernel_rfl) (fun _ _ _ _ => NormalOnly.any) rfl ?hy6 HS ?rest6
        case hy6 => intro w' hSw; (try dsimp only at hSw); go_simp; try (with_reducible rfl)
        try simp only [List.setIfInBounds_toArray, List.set_cons_zero, List.set_cons_succ]
        refine take_at (i := 2) (d := 35) (v := ?_) rfl rfl (by kernel_rfl) (by kernel_rfl) (by kernel_rfl) (fun _ _ _ _ => NormalOnly.any) rfl ?hy7 HS ?rest7
        case hy7 => intro w' hSw; (try dsimp only at hSw); go_simp; try (with_reducible rfl)
        try simp only [List.setIfInBounds_toArray, List.set_cons_zero, List.set_cons_succ]
        refine take_at (i := 3) (d := 36) (v := ?_) rfl rfl (by kernel_rfl) (by kernel_rfl) (by kernel_rfl) (fun _ _ _ _ => NormalOnly.any) rfl ?hy8 HS ?rest8
        case hy8 => intro w' hSw; (try dsimp only at hSw); go_simp; try (with_reducible rfl)
        try simp only [List.setIfInBounds_toArray, List.set_cons_zero, List.set_cons_succ]
        refine take_at (i := 4) (d := 37) (v := ?_) rfl rfl (by kernel_rfl) (by kernel_rfl) (by kernel_rfl) (fun _ _ _ _ => NormalOnly.any) rfl ?hy9 HS ?rest9
        case hy9 => intro w' hSw; (try dsimp only at hSw); go_simp; try (with_reducible rfl)
        try simp only [List.setIfInBounds_toArray, List.set_cons_zero, List.set_cons_succ]
        refine take_at (i := 5) (d := 38) (v := ?_) rfl rfl (by kernel_rfl) (by kernel_rfl) (by kernel_rfl) (fun _ _ _ _ => NormalOnly.any) rfl ?hy10 HS ?rest10
        case hy10 => intro w' hSw; (try dsimp only at hSw); go_simp; try (with_reducible rfl)
        try simp only [List.setIfInBounds_toArray, List.set_cons_zero, List.set_cons_succ]
        refine take_at (i := 6) (d := 39) (v := ?_) rfl rfl (by kernel_rfl) (by kernel_rfl) (by kernel_rfl) (fun _ _ _ _ => NormalOnly.any) rfl ?hy11 HS ?rest11
        case hy11 => intro w' hSw; (try dsimp only at hSw); go_simp; try (with_reducible rfl)
        try simp only [List.setIfInBounds_toArray, List.set_cons_zero, List.set_cons_succ]
        refine wpAnyH_ready (rs := [7]) (by kernel_rfl) (by simp) ?_
        refine AllReadyH.cons rfl (fun K hK => ?_) AllReadyH.nil
        go_simp
        refine (even1_any _ _).mono ?_
        rintro e w' ⟨rfl, rfl⟩
        refine hK.out _ _ HS (fun _ => ?_)
        clear hK
        refine take_at (i := 8) (d := 41) (v := ?_) rfl rfl (by kernel_rfl) (by kernel_rfl) (by kernel_rfl) (fun _ _ _ _ => NormalOnly.any) rfl ?hy12 HS ?rest12
        case hy12 => intro w' hSw; (try dsimp only at hSw); go_simp; try (with_reducible rfl)
        try simp only [List.setIfInBounds_toArray, List.set_cons_zero, List.set_cons_succ]
        refine wpAnyH_ready (rs := [9]) (by kernel_rfl) (by simp) ?_
        refine AllReadyH.cons rfl (fun K hK => ?_) AllReadyH.nil
        go_simp
        have hQ1 := (HQ.out.setW k 1).drew
        have hB1 : Below w.heap.size w (wr.setCell ⟨wb, k, none⟩ (.int .i64 1)).drew := (BW.out.setCell (p := ⟨wb, k, none⟩) (Nat.le_trans hzl (Nat.le_trans HQ.out.lo.1 HQ.out.lo.2.2.1)) (.int .i64 1)).drew
        have hQ1 : TalQ (wr.setCell ⟨wb, k, none⟩ (.int .i64 1)).drew z tb db wb bb n id (fun i => if i < k + 1 then 1 else 0) t := by
          have he : (fun i => if i = k then 1 else if i < k then 1 else 0) = fun i => if i < k + 1 then 1 else 0 := funext fun i => stp_b k i
          rw [← he]; exact hQ1
        refine hK.out _ _ hQ1.c2 (fun _ => ?_)
        clear hK
        refine wpAnyH_done (by kernel_rfl) ⟨rfl, ?_⟩ _
        have HQ1 := Lib.hid hQ1; have HB1 := Lib.hid hB1
        clear hQ1 hB1 c2 xk fk HQ BW HS
        generalize (wr.setCell ⟨wb, k, none⟩ (.int .i64 1)).drew = w5 at *
        go_wp2_with fail
        have c2 : w5.cell? ⟨tb, 2, none⟩ = some (.slice (some ⟨wb, 0, none⟩) n n) := HQ1.out.c2
        have c3 : w5.cell? ⟨tb, 3, none⟩ = some (.pointer (some ⟨bb, 0, none⟩)) := HQ1.out.c3
        have cx : w5.cell? ⟨wb, k, none⟩ = some (.int .i64 1) := by rw [HQ1.out.wt.cell hlt]; unfold natC; simp
        have HS : w5.drew.cell? ⟨tb, 2, none⟩ = some (.slice (some ⟨wb, 0, none⟩) n n) ∧ w5.drew.cell? ⟨tb, 3, none⟩ = some (.pointer (some ⟨bb, 0, none⟩)) ∧ w5.drew.cell? ⟨wb, k, none⟩ = some (.int .i64 1) := ⟨c2, c3, cx⟩
        have hbd := szs_bd HRp.out (by simp; omega) t rfl
        have HB := Lib.hid (bagadd_any 1 (HQ1.out.drew).bag hbd.1 hbd.2)
        clear c2 c3 cx hbd
        refine region_plain (fun w' => w'.cell? ⟨tb, 2, none⟩ = some (.slice (some ⟨wb, 0, none⟩) n n) ∧ w'.cell? ⟨tb, 3, none⟩ = some (.pointer (some ⟨bb, 0, none⟩)) ∧ w'.cell? ⟨wb, k, none⟩ = some (.int .i64 1)) (by kernel_rfl) ?_
        refine take_at (i := 0) (d := 42) (v := ?_) rfl rfl (by kernel_rfl) (by kernel_rfl) (by kernel_rfl) (fun _ _ _ _ => NormalOnly.any) rfl ?hy13 HS ?rest13
        case hy13 => intro w' hSw; (try dsimp only at hSw); go_simp; try (with_reducible rfl)
        try simp only [List.setIfInBounds_toArray, List.set_cons_zero, List.set_cons_succ]
        refine take_at (i := 1) (d := 43) (v := ?_) rfl rfl (by kernel_rfl) (by kernel_rfl) (by kernel_rfl) (fun _ _ _ _ => NormalOnly.any) rfl ?hy14 HS ?rest14
        case hy14 => intro w' hSw; (try dsimp only at hSw); go_simp; try (with_reducible rfl)
        try simp only [List.setIfInBounds_toArray, List.set_cons_zero, List.set_cons_succ]
        refine take_at (i := 2) (d := 44) (v := ?_) rfl rfl (by kernel_rfl) (by kernel_rfl) (by kernel_rfl) (fun _ _ _ _ => NormalOnly.any) rfl ?hy15 HS ?rest15
        case hy15 => intro w' hSw; (try dsimp only at hSw); go_simp; try (with_reducible rfl)
        try simp only [List.setIfInBounds_toArray, List.set_cons_zero, List.set_cons_succ]
        refine take_at (i := 3) (d := 45) (v := ?_) rfl rfl (by kernel_rfl) (by kernel_rfl) (by kernel_rfl) (fun _ _ _ _ => NormalOnly.any) rfl ?hy16 HS ?rest16
        case hy16 => intro w' hSw; (try dsimp only at hSw); go_simp; try (with_reducible rfl)
        try simp only [List.setIfInBounds_toArray, List.set_cons_zero, List.set_cons_succ]
        refine take_at (i := 4) (d := 46) (v := ?_) rfl rfl (by kernel_rfl) (by kernel_rfl) (by kernel_rfl) (fun _ _ _ _ => NormalOnly.any) rfl ?hy17 HS ?rest17
        case hy17 => intro w' hSw; (try dsimp only at hSw); go_simp; try (with_reducible rfl)
        try simp only [List.setIfInBounds_toArray, List.set_cons_zero, List.set_cons_succ]
        refine take_at (i := 5) (d := 47) (v := ?_) rfl rfl (by kernel_rfl) (by kernel_rfl) (by kernel_rfl) (fun _ _ _ _ => NormalOnly.any) rfl ?hy18 HS ?rest18
        case hy18 => intro w' hSw; (try dsimp only at hSw); go_simp; try (with_reducible rfl)
        try simp only [List.setIfInBounds_toArray, List.set_cons_zero, List.set_cons_succ]
        refine take_at (i := 6) (d := 48) (v := ?_) rfl rfl (by kernel_rfl) (by kernel_rfl) (by kernel_rfl) (fun _ _ _ _ => NormalOnly.any) rfl ?hy19 HS ?rest19
        case hy19 => intro w' hSw; (try dsimp only at hSw); go_simp; try (with_reducible rfl)
        try simp only [List.setIfInBounds_toArray, List.set_cons_zero, List.set_cons_succ]
        refine take_at (i := 7) (d := 49) (v := ?_) rfl rfl (by kernel_rfl) (by kernel_rfl) (by kernel_rfl) (fun _ _ _ _ => NormalOnly.any) rfl ?hy20 HS ?rest20
        case hy20 => intro w' hSw; (try dsimp only at hSw); go_simp; try (with_reducible rfl)
        try simp only [List.setIfInBounds_toArray, List.set_cons_zero, List.set_cons_succ]
        refine take_at (i := 8) (d := 50) (v := ?_) rfl rfl (by kernel_rfl) (by kernel_rfl) (by kernel_rfl) (fun _ _ _ _ => NormalOnly.any) rfl ?hy21 HS ?rest21
        case hy21 => intro w' hSw; (try dsimp only at hSw); go_simp; try (with_reducible rfl)
        try simp only [List.setIfInBounds_toArray, List.set_cons_zero, List.set_cons_succ]
        refine take_at (i := 9) (d := 51) (v := ?_) rfl rfl (by kernel_rfl) (by kernel_rfl) (by kernel_rfl) (fun _ _ _ _ => NormalOnly.any) rfl ?hy22 HS ?rest22
        case hy22 => intro w' hSw; (try dsimp only at hSw); go_simp; try (with_reducible rfl)
        try simp only [List.setIfInBounds_toArray, List.set_cons_zero, List.set_cons_succ]
        refine take_at (i := 10) (d := 52) (v := ?_) rfl rfl (by kernel_rfl) (by kernel_rfl) (by kernel_rfl) (fun _ _ _ _ => NormalOnly.any) rfl ?hy23 HS ?rest23
        case hy23 => intro w' hSw; (try dsimp only at hSw); go_simp; try (with_reducible rfl)
        try simp only [List.setIfInBounds_toArray, List.set_cons_zero, List.set_cons_succ]
        refine wpAnyH_ready (rs := [11]) (by kernel_rfl) (by simp) ?_
        refine AllReadyH.cons rfl (fun K hK => ?_) AllReadyH.nil
        go_simp
        refine HB.out.mono ?_
        rintro e w6 hb
        obtain ⟨rfl, t1, hQ, hi, hB⟩ := (HQ1.out.drew).bagged hb
        have hR := HRp.out.add 1
        rw [← hi] at hR
        have HS : w6.cell? ⟨tb, 2, none⟩ = some (.slice (some ⟨wb, 0, none⟩) n n) ∧ w6.cell? ⟨tb, 3, none⟩ = some (.pointer (some ⟨bb, 0, none⟩)) ∧ w6.cell? ⟨wb, k, none⟩ = some (.int .i64 1) := ⟨hQ.c2, hQ.c3, by rw [hQ.wt.cell hlt]; unfold natC; simp⟩
        refine hK.out _ _ HS (fun _ => ?_)
        clear hK
        have HQ6 := Lib.hid hQ; have HR6 := Lib.hid hR
        have HB6 := Lib.hid (HB1.out.trans ((((TSt.refl z tb wb bb w5 t).drew).trans hB).below HQ1.out hzl))
        clear hb hQ hi hB hR HB HB1 HQ1
        refine take_at (i := 12) (d := 10) (v := ?_) rfl rfl (by kernel_rfl) (by kernel_rfl) (by kernel_rfl) (fun _ _ _ _ => NormalOnly.any) rfl ?hy24 HS ?rest24
        case hy24 => intro w' hSw; (try dsimp only at hSw); go_simp; try (with_reducible rfl)
        try simp only [List.setIfInBounds_toArray, List.set_cons_zero, List.set_cons_succ]
        clear HS
        refine wpAnyH_done (by kernel_rfl) ⟨rfl, ?_⟩ _
        go_wp2_with fail
        go_roundw
        case rel => exact ⟨k + 1, t1, by omega, by go_num, HQ6, Lib.hid (by have := HR6.out; rw [List.replicate_succ]; exact this), HB6⟩
        case measure => simp only [intOf]; omega
      · have hkn : k = n := by omega
        subst hkn
        have HF := Lib.hid (show TalAt wr w.heap.size tb k id from ⟨z, db, wb, bb, _, t, hzl, HQ.out, fun i hi _ => by rw [if_pos hi, clsN_id hi], by rw [szs_id]; exact HRp.out⟩)
        clear HQ HRp
        go_wp2_with fail
        go_ret2
        exact ⟨tb, rfl, HF.out, BW.out⟩
  · go_simp
    refine (bagnew_any w1.drew).mono ?_
    rintro e w2 ⟨rfl, hbag, hb2, hs2⟩
    have hb12 : Below w1.heap.size w1 w2 := ((Below.refl _ w1).drew).trans hb2
    have HS2 := Lib.hid (show w2.heap.size = w1.heap.size + 1 from hs2)
    clear hs2
    have hbag : BagAt w2 w1.heap.size .nil := hbag
    refine hK.out _ _ trivial (fun _ => ?_)
    clear hK
    refine wpAnyH_ready (rs := [2]) (by kernel_rfl) (by simp) ?_
    refine AllReadyH.cons rfl (fun K hK => ?_) AllReadyH.nil
    go_simp
    have hAr := Row.made w2 (.int .i64 0) n 2
    have hAB : Below w2.heap.size w2 (w2.alloc (.cells (madeCells #[.int .i64 0] n) 2)) := (Below.refl _ w2).alloc (Nat.le_refl _) _
    have hAs : (w2.alloc (.cells (madeCells #[.int .i64 0] n) 2)).heap.size = w2.heap.size + 1 := by simp
    generalize w2.alloc (.cells (madeCells #[.int .i64 0] n) 2) = wA at *
    have HAs := Lib.hid hAs
    clear hAs
    refine hK.out _ _ trivial (fun _ => ?_)
    clear hK
    refine take_at (i := 4) (d := 23) (v := ?_) rfl rfl (by kernel_rfl) (by kernel_rfl) (by kernel_rfl) (fun _ _ _ _ => NormalOnly.any) rfl ?hy25 HS ?rest25
    case hy25 => intro w' hSw; (try dsimp only at hSw); go_simp; try (with_reducible rfl)
    try simp only [List.setIfInBounds_toArray, List.set_cons_zero, List.set_cons_succ]
    refine wpAnyH_ready (rs := [5]) (by kernel_rfl) (by simp) ?_
    refine AllReadyH.cons rfl (fun K hK => ?_) AllReadyH.nil
    go_simp
    have hB3 : Below wA.heap.size wA (wA.alloc (.cells #[.pointer none, .pointer (some ⟨db, 0, none⟩), .slice (some ⟨w2.heap.size, 0, none⟩) n n, .pointer (some ⟨w1.heap.size, 0, none⟩)] 114)) := (Below.refl _ wA).alloc (Nat.le_refl _) _
    have hlit := talLit wA db w2.heap.size w1.heap.size n
    have hs3 : (wA.alloc (.cells #[.pointer none, .pointer (some ⟨db, 0, none⟩), .slice (some ⟨w2.heap.size, 0, none⟩) n n, .pointer (some ⟨w1.heap.size, 0, none⟩)] 114)).heap.size = wA.heap.size + 1 := by simp
    have hAs := HAs.out; have hs2 := HS2.out
    have hb1A : Below w1.heap.size w1 wA := hb12.trans (hAB.mono (by omega))
    have hN : TalN (wA.alloc (.cells #[.pointer none, .pointer (some ⟨db, 0, none⟩), .slice (some ⟨w2.heap.size, 0, none⟩) n n, .pointer (some ⟨w1.heap.size, 0, none⟩)] 114)) ⟨w.heap.size, w1.heap.size⟩ wA.heap.size db w2.heap.size w1.heap.size n :=
      ⟨HDS.out.below (hb1A.trans (hB3.mono hb1A.size)), hlit, (hAr.below hB3 (by omega)).congr fun i _ => rfl, (hbag.keep fun j hj => hAB.block j (hbag.lt j hj)).keep fun j hj => hB3.block j (by have := hbag.lt j hj; omega), by show w1.heap.size ≤ _; omega, by have := HB1.out.size; exact ⟨this, by show w1.heap.size ≤ _; omega, by show w1.heap.size ≤ _; omega, Nat.le_refl _⟩, by omega, by omega, by omega⟩
    have HN := Lib.hid hN
    have HB3 := Lib.hid (HB1.out.trans ((hb1A.trans (hB3.mono hb1A.size)).mono HB1.out.size))
    clear hB3 hlit hs3 hb1A hb12 hN hbag hb2 hs2 hAB hAr hAs
    generalize wA.alloc (.cells #[.pointer none, .pointer (some ⟨db, 0, none⟩), .slice (some ⟨w2.heap.size, 0, none⟩) n n, .pointer (some ⟨w1.heap.size, 0, none⟩)] 114) = w3 at *
    obtain ⟨wb, hwb⟩ : ∃ x, w2.heap.size = x := ⟨_, rfl⟩
    obtain ⟨bb, hbb⟩ : ∃ x, w1.heap.size = x := ⟨_, rfl⟩
    obtain ⟨tb, htb⟩ : ∃ x, wA.heap.size = x := ⟨_, rfl⟩
    obtain ⟨z, hz⟩ : ∃ z : Zone, z = ⟨w.heap.size, w1.heap.size⟩ := ⟨_, rfl⟩
    have hzl : w.heap.size ≤ z.low := by rw [hz]; exact Nat.le_refl _
    rw [← hz] at HN
    rw [hwb, hbb, htb] at HN ⊢
    clear hwb hbb htb hz
    refine hK.out _ _ trivial (fun _ => ?_)
    clear hK HDS HB1
    refine take_at (i := 6) (d := 8) (v := ?_) rfl rfl (by kernel_rfl) (by kernel_rfl) (by kernel_rfl) (fun _ _ _ _ => NormalOnly.any) rfl ?hy26 HS ?rest26
    case hy26 => intro w' hSw; (try dsimp only at hSw); go_simp; try (with_reducible rfl)
    try simp only [List.setIfInBounds_toArray, List.set_cons_zero, List.set_cons_succ]
    refine wpAnyH_done (by kernel_rfl) ⟨rfl, ?_⟩ _
    have d0 : w3.cell? ⟨tb, 0, none⟩ = some (.pointer none) := HN.out.row.cell (i := 0) (by omega)
    have f0 := HN.out.row.frozen 0
    go_wp2_with fail
    have HQ0 := Lib.hid HN.out.on
    have HB4 := Lib.hid (HB3.out.setCell (p := ⟨tb, 0, none⟩) (Nat.le_trans hzl (Nat.le_trans HN.out.lo.1 HN.out.lo.2.1)) (.pointer (some ⟨tb, 0, none⟩)))
    clear HN HB3 d0 f0 hmk
    generalize w3.setCell ⟨tb, 0, none⟩ (.pointer (some ⟨tb, 0, none⟩)) = w4 at *
    go_loopw [30] (fun iv wr => ∃ (k : Nat) (t : Tn), k ≤ n ∧ iv = .int .i64 (k : Nat) ∧ Hid (TalQ wr z tb db wb bb n id (fun i => if i < k then 1 else 0) t) ∧ Hid (Rep t.ino (List.replicate k 1)) ∧ Hid (Below w.heap.size w wr)) (fun iv _ => n - (intOf iv).toNat)
    case atStart => exact ⟨0, .nil, Nat.zero_le _, rfl, HQ0, Lib.hid ⟨by simp [SrtC, Tn.ino], fun q hq => by simp [Tn.ino] at hq, fun x => by simp [Tn.ino, getC]⟩, HB4⟩
    case round =>
      clear HQ0 HB4
      obtain ⟨k, t, hk, rfl, HQ, HRp, BW⟩ := hrel
      by_cases hlt : k < n
      · have hki : (0 : Int) ≤ k ∧ (k : Int) < n := by omega
        have c2 : wr.cell? ⟨tb, 2, none⟩ = some (.slice (some ⟨wb, 0, none⟩) n n) := HQ.out.c2
        have xk : wr.drew.cell? ⟨wb, k, none⟩ = some (natC (fun i => if i < k then 1 else 0) k) := HQ.out.wt.cell hlt
        have fk : wr.drew.frozen? ⟨wb, k, none⟩ = false := HQ.out.wt.frozen k
        go_wp2_with fail
        have HS : wr.drew.cell? ⟨tb, 2, none⟩ = some (.slice (some ⟨wb, 0, none⟩) n n) := c2
        refine region_plain (fun w' => w'.cell? ⟨tb, 2, none⟩ = some (.slice (some ⟨wb, 0, none⟩) n n)) (by kernel_rfl) ?_
        refine take_at (i := 0) (d := 33) (v := ?_) rfl rfl (by kernel_rfl) (by kernel_rfl) (by kernel_rfl) (fun _ _ _ _ => NormalOnly.any) rfl ?hy27 HS ?rest27
        case hy27 => intro w' hSw; (try dsimp only at hSw); go_simp; try (with_reducible rfl)
        try simp only [List.setIfInBounds_toArray, List.set_cons_zero, List.set_cons_succ]
        refine take_at (i := 1) (d := 34) (v := ?_) rfl rfl (by kernel_rfl) (by kernel_rfl) (by kernel_rfl) (fun _ _ _ _ => NormalOnly.any) rfl ?hy28 HS ?rest28
        case hy28 => intro w' hSw; (try dsimp only at hSw); go_simp; try (with_reducible rfl)
        try simp only [List.setIfInBounds_toArray, List.set_cons_zero, List.set_cons_succ]
        refine take_at (i := 2) (d := 35) (v := ?_) rfl rfl (by kernel_rfl) (by kernel_rfl) (by kernel_rfl) (fun _ _ _ _ => NormalOnly.any) rfl ?hy29 HS ?rest29
        case hy29 => intro w' hSw; (try dsimp only at hSw); go_simp; try (with_reducible rfl)
        try simp only [List.setIfInBounds_toArray, List.set_cons_zero, List.set_cons_succ]
        refine take_at (i := 3) (d := 36) (v := ?_) rfl rfl (by kernel_rfl) (by kernel_rfl) (by kernel_rfl) (fun _ _ _ _ => NormalOnly.any) rfl ?hy30 HS ?rest30
        case hy30 => intro w' hSw; (try dsimp only at hSw); go_simp; try (with_reducible rfl)
        try simp only [List.setIfInBounds_toArray, List.set_cons_zero, List.set_cons_succ]
        refine take_at (i := 4) (d := 37) (v := ?_) rfl rfl (by kernel_rfl) (by kernel_rfl) (by kernel_rfl) (fun _ _ _ _ => NormalOnly.any) rfl ?hy31 HS ?rest31
        case hy31 => intro w' hSw; (try dsimp only at hSw); go_simp; try (with_reducible rfl)
        try simp only [List.setIfInBounds_toArray, List.set_cons_zero, List.set_cons_succ]
        refine take_at (i := 5) (d := 38) (v := ?_) rfl rfl (by kernel_rfl) (by kernel_rfl) (by kernel_rfl) (fun _ _ _ _ => NormalOnly.any) rfl ?hy32 HS ?rest32
        case hy32 => intro w' hSw; (try dsimp only at hSw); go_simp; try (with_reducible rfl)
        try simp only [List.setIfInBounds_toArray, List.set_cons_zero, List.set_cons_succ]
        refine take_at (i := 6) (d := 39) (v := ?_) rfl rfl (by kernel_rfl) (by kernel_rfl) (by kernel_rfl) (fun _ _ _ _ => NormalOnly.any) rfl ?hy33 HS ?rest33
        case hy33 => intro w' hSw; (try dsimp only at hSw); go_simp; try (with_reducible rfl)
        try simp only [List.setIfInBounds_toArray, List.set_cons_zero, List.set_cons_succ]
        refine wpAnyH_ready (rs := [7]) (by kernel_rfl) (by simp) ?_
        refine AllReadyH.cons rfl (fun K hK => ?_) AllReadyH.nil
        go_simp
        refine (even1_any _ _).mono ?_
        rintro e w' ⟨rfl, rfl⟩
        refine hK.out _ _ HS (fun _ => ?_)
        clear hK
        refine take_at (i := 8) (d := 41) (v := ?_) rfl rfl (by kernel_rfl) (by kernel_rfl) (by kernel_rfl) (fun _ _ _ _ => NormalOnly.any) rfl ?hy34 HS ?rest34
        case hy34 => intro w' hSw; (try dsimp only at hSw); go_simp; try (with_reducible rfl)
        try simp only [List.setIfInBounds_toArray, List.set_cons_zero, List.set_cons_succ]
        refine wpAnyH_ready (rs := [9]) (by kernel_rfl) (by simp) ?_
        refine AllReadyH.cons rfl (fun K hK => ?_) AllReadyH.nil
        go_simp
        have hQ1 := (HQ.out.setW k 1).drew
        have hB1 : Below w.heap.size w (wr.setCell ⟨wb, k, none⟩ (.int .i64 1)).drew := (BW.out.setCell (p := ⟨wb, k, none⟩) (Nat.le_trans hzl (Nat.le_trans HQ.out.lo.1 HQ.out.lo.2.2.1)) (.int .i64 1)).drew
        have hQ1 : TalQ (wr.setCell ⟨wb, k, none⟩ (.int .i64 1)).drew z tb db wb bb n id (fun i => if i < k + 1 then 1 else 0) t := by
          have he : (fun i => if i = k then 1 else if i < k then 1 else 0) = fun i => if i < k + 1 then 1 else 0 := funext fun i => stp_b k i
          rw [← he]; exact hQ1
        refine hK.out _ _ hQ1.c2 (fun _ => ?_)
        clear hK
        refine wpAnyH_done (by kernel_rfl) ⟨rfl, ?_⟩ _
        have HQ1 := Lib.hid hQ1; have HB1 := Lib.hid hB1
        clear hQ1 hB1 c2 xk fk HQ BW HS
        generalize (wr.setCell ⟨wb, k, none⟩ (.int .i64 1)).drew = w5 at *
        go_wp2_with fail
        have c2 : w5.cell? ⟨tb, 2, none⟩ = some (.slice (some ⟨wb, 0, none⟩) n n) := HQ1.out.c2
        have c3 : w5.cell? ⟨tb, 3, none⟩ = some (.pointer (some ⟨bb, 0, none⟩)) := HQ1.out.c3
        have cx : w5.cell? ⟨wb, k, none⟩ = some (.int .i64 1) := by rw [HQ1.out.wt.cell hlt]; unfold natC; simp
        have HS : w5.drew.cell? ⟨tb, 2, none⟩ = some (.slice (some ⟨wb, 0, none⟩) n n) ∧ w5.drew.cell? ⟨tb, 3, none⟩ = some (.pointer (some ⟨bb, 0, none⟩)) ∧ w5.drew.cell? ⟨wb, k, none⟩ = some (.int .i64 1) := ⟨c2, c3, cx⟩
        have hbd := szs_bd HRp.out (by simp; omega) t rfl
        have HB := Lib.hid (bagadd_any 1 (HQ1.out.drew).bag hbd.1 hbd.2)
        clear c2 c3 cx hbd
        refine region_plain (fun w' => w'.cell? ⟨tb, 2, none⟩ = some (.slice (some ⟨wb, 0, none⟩) n n) ∧ w'.cell? ⟨tb, 3, none⟩ = some (.pointer (some ⟨bb, 0, none⟩)) ∧ w'.cell? ⟨wb, k, none⟩ = some (.int .i64 1)) (by kernel_rfl) ?_
        refine take_at (i := 0) (d := 42) (v := ?_) rfl rfl (by kernel_rfl) (by kernel_rfl) (by kernel_rfl) (fun _ _ _ _ => NormalOnly.any) rfl ?hy35 HS ?rest35
        case hy35 => intro w' hSw; (try dsimp only at hSw); go_simp; try (with_reducible rfl)
        try simp only [List.setIfInBounds_toArray, List.set_cons_zero, List.set_cons_succ]
        refine take_at (i := 1) (d := 43) (v := ?_) rfl rfl (by kernel_rfl) (by kernel_rfl) (by kernel_rfl) (fun _ _ _ _ => NormalOnly.any) rfl ?hy36 HS ?rest36
        case hy36 => intro w' hSw; (try dsimp only at hSw); go_simp; try (with_reducible rfl)
        try simp only [List.setIfInBounds_toArray, List.set_cons_zero, List.set_cons_succ]
        refine take_at (i := 2) (d := 44) (v := ?_) rfl rfl (by kernel_rfl) (by kernel_rfl) (by kernel_rfl) (fun _ _ _ _ => NormalOnly.any) rfl ?hy37 HS ?rest37
        case hy37 => intro w' hSw; (try dsimp only at hSw); go_simp; try (with_reducible rfl)
        try simp only [List.setIfInBounds_toArray, List.set_cons_zero, List.set_cons_succ]
        refine take_at (i := 3) (d := 45) (v := ?_) rfl rfl (by kernel_rfl) (by kernel_rfl) (by kernel_rfl) (fun _ _ _ _ => NormalOnly.any) rfl ?hy38 HS ?rest38
        case hy38 => intro w' hSw; (try dsimp only at hSw); go_simp; try (with_reducible rfl)
        try simp only [List.setIfInBounds_toArray, List.set_cons_zero, List.set_cons_succ]
        refine take_at (i := 4) (d := 46) (v := ?_) rfl rfl (by kernel_rfl) (by kernel_rfl) (by kernel_rfl) (fun _ _ _ _ => NormalOnly.any) rfl ?hy39 HS ?rest39
        case hy39 => intro w' hSw; (try dsimp only at hSw); go_simp; try (with_reducible rfl)
        try simp only [List.setIfInBounds_toArray, List.set_cons_zero, List.set_cons_succ]
        refine take_at (i := 5) (d := 47) (v := ?_) rfl rfl (by kernel_rfl) (by kernel_rfl) (by kernel_rfl) (fun _ _ _ _ => NormalOnly.any) rfl ?hy40 HS ?rest40
        case hy40 => intro w' hSw; (try dsimp only at hSw); go_simp; try (with_reducible rfl)
        try simp only [List.setIfInBounds_toArray, List.set_cons_zero, List.set_cons_succ]
        refine take_at (i := 6) (d := 48) (v := ?_) rfl rfl (by kernel_rfl) (by kernel_rfl) (by kernel_rfl) (fun _ _ _ _ => NormalOnly.any) rfl ?hy41 HS ?rest41
        case hy41 => intro w' hSw; (try dsimp only at hSw); go_simp; try (with_reducible rfl)
        try simp only [List.setIfInBounds_toArray, List.set_cons_zero, List.set_cons_succ]
        refine take_at (i := 7) (d := 49) (v := ?_) rfl rfl (by kernel_rfl) (by kernel_rfl) (by kernel_rfl) (fun _ _ _ _ => NormalOnly.any) rfl ?hy42 HS ?rest42
        case hy42 => intro w' hSw; (try dsimp only at hSw); go_simp; try (with_reducible rfl)
        try simp only [List.setIfInBounds_toArray, List.set_cons_zero, List.set_cons_succ]
        refine take_at (i := 8) (d := 50) (v := ?_) rfl rfl (by kernel_rfl) (by kernel_rfl) (by kernel_rfl) (fun _ _ _ _ => NormalOnly.any) rfl ?hy43 HS ?rest43
        case hy43 => intro w' hSw; (try dsimp only at hSw); go_simp; try (with_reducible rfl)
        try simp only [List.setIfInBounds_toArray, List.set_cons_zero, List.set_cons_succ]
        refine take_at (i := 9) (d := 51) (v := ?_) rfl rfl (by kernel_rfl) (by kernel_rfl) (by kernel_rfl) (fun _ _ _ _ => NormalOnly.any) rfl ?hy44 HS ?rest44
        case hy44 => intro w' hSw; (try dsimp only at hSw); go_simp; try (with_reducible rfl)
        try simp only [List.setIfInBounds_toArray, List.set_cons_zero, List.set_cons_succ]
        refine take_at (i := 10) (d := 52) (v := ?_) rfl rfl (by kernel_rfl) (by kernel_rfl) (by kernel_rfl) (fun _ _ _ _ => NormalOnly.any) rfl ?hy45 HS ?rest45
        case hy45 => intro w' hSw; (try dsimp only at hSw); go_simp; try (with_reducible rfl)
        try simp only [List.setIfInBounds_toArray, List.set_cons_zero, List.set_cons_succ]
        refine wpAnyH_ready (rs := [11]) (by kernel_rfl) (by simp) ?_
        refine AllReadyH.cons rfl (fun K hK => ?_) AllReadyH.nil
        go_simp
        refine HB.out.mono ?_
        rintro e w6 hb
        obtain ⟨rfl, t1, hQ, hi, hB⟩ := (HQ1.out.drew).bagged hb
        have hR := HRp.out.add 1
        rw [← hi] at hR
        have HS : w6.cell? ⟨tb, 2, none⟩ = some (.slice (some ⟨wb, 0, none⟩) n n) ∧ w6.cell? ⟨tb, 3, none⟩ = some (.pointer (some ⟨bb, 0, none⟩)) ∧ w6.cell? ⟨wb, k, none⟩ = some (.int .i64 1) := ⟨hQ.c2, hQ.c3, by rw [hQ.wt.cell hlt]; unfold natC; simp⟩
        refine hK.out _ _ HS (fun _ => ?_)
        clear hK
        have HQ6 := Lib.hid hQ; have HR6 := Lib.hid hR
        have HB6 := Lib.hid (HB1.out.trans ((((TSt.refl z tb wb bb w5 t).drew).trans hB).below HQ1.out hzl))
        clear hb hQ hi hB hR HB HB1 HQ1
        refine take_at (i := 12) (d := 10) (v := ?_) rfl rfl (by kernel_rfl) (by kernel_rfl) (by kernel_rfl) (fun _ _ _ _ => NormalOnly.any) rfl ?hy46 HS ?rest46
        case hy46 => intro w' hSw; (try dsimp only at hSw); go_simp; try (with_reducible rfl)
        try simp only [List.setIfInBounds_toArray, List.set_cons_zero, List.set_cons_succ]
        clear HS
        refine wpAnyH_done (by kernel_rfl) ⟨rfl, ?_⟩ _
        go_wp2_with fail
        go_roundw
        case rel => exact ⟨k + 1, t1, by omega, by go_num, HQ6, Lib.hid (by have := HR6.out; rw [List.replicate_succ]; exact this), HB6⟩
        case measure => simp only [intOf]; omega
      · have hkn : k = n := by omega
        subst hkn
        have HF := Lib.hid (show TalAt wr w.heap.size tb k id from ⟨z, db, wb, bb, _, t, hzl, HQ.out, fun i hi _ => by rw [if_pos hi, clsN_id hi], by rw [szs_id]; exact HRp.out⟩)
        clear HQ HRp
        go_wp2_with fail
        go_ret2
        exact ⟨tb, rfl, HF.out, BW.out⟩
set_option maxRecDepth 100000 in
set_option maxHeartbeats 1000000 in
theorem even_any (n : Nat) (w : World) (hn : n ≤ 4096) : Calls Tryz.prog 11 #[.int .i64 (n : Nat)] w fun e w' => ∃ tb, e = .returned (.tuple #[.pointer (some ⟨tb, 0, none⟩), .int .i64 0]) ∧ TalAt w' w.heap.size tb n id ∧ Below w.heap.size w w' := by
  have HB := Lib.hid (tbuild_any n w hn)
  go_enter Tryz.func11, Tryz.ntmps11
  go_wp2_with fail
  refine HB.out.mono ?_
  rintro e w1 ⟨tb, rfl, hT, b1⟩
  have HT := Lib.hid hT; have B1 := Lib.hid b1
  clear hT b1 HB
  go_wp2_with fail
  go_ret2
  exact ⟨tb, rfl, HT.out, B1.out⟩
end Go.Proofs.YtpbgophogneecaaGreat
