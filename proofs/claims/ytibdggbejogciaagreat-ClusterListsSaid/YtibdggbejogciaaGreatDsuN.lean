/- Disjoint sets: New. Conditions: none but that the number is accepted. -/
import Derived.Test.YtibdggbejogciaaGreatDsu
import Derived.BigRegion
namespace Go.Proofs.YtibdggbejogciaaGreat
open Go.RowKit

theorem clsN_id {n i : Nat} (hi : i < n) : clsN n id i = 1 := by
  unfold clsN
  induction n with
  | zero => omega
  | succ n ih =>
    rw [List.range_succ, List.filter_append, List.length_append]
    by_cases e : i = n
    · subst e
      rw [List.filter_eq_nil_iff.2 (fun j hj => by simp at hj ⊢; omega)]
      simp
    · rw [ih (by omega)]
      have : ¬ n = i := fun h => e h.symm
      simp [this]
theorem uf_id (n : Nat) : UF n id id (fun _ => 0) 0 := ⟨fun _ h => h, fun _ _ h => absurd rfl h, fun _ _ => Nat.le_refl _, fun _ _ => rfl, fun _ _ _ _ _ _ h => h⟩
theorem DsM.congr {w : World} {base : Zone} {b ub lb sb n cnt : Nat} {up ls sz up' ls' sz' : Nat → Nat} (h : DsM w base b ub lb sb n up ls sz cnt) (h1 : ∀ i, i < n → up i = up' i) (h2 : ∀ i, i < n → ls i = ls' i) (h3 : ∀ i, i < n → sz i = sz' i) : DsM w base b ub lb sb n up' ls' sz' cnt :=
  ⟨h.st, h.rup.congr fun i hi => by unfold natC; rw [h1 i hi], h.rls.congr fun i hi => by unfold natC; rw [h2 i hi], h.rsz.congr fun i hi => by unfold natC; rw [h3 i hi], h.ne, h.lo⟩
theorem stp_a (k i : Nat) : (if i = k then k else if i < k then i else 0) = if i < k + 1 then i else 0 := by
  by_cases h1 : i = k
  · rw [if_pos h1, if_pos (by omega), h1]
  · rw [if_neg h1]
    by_cases h2 : i < k
    · rw [if_pos h2, if_pos (by omega)]
    · rw [if_neg h2, if_neg (by omega)]
theorem stp_b (k i : Nat) : (if i = k then 1 else if i < k then 1 else 0) = if i < k + 1 then 1 else 0 := by
  by_cases h1 : i = k
  · rw [if_pos h1, if_pos (by omega)]
  · rw [if_neg h1]
    by_cases h2 : i < k
    · rw [if_pos h2, if_pos (by omega)]
    · rw [if_neg h2, if_neg (by omega)]
/-- what lies in memory behind the makes, and the store of the struct's own address -/
theorem dsu_made (w : World) (n x y z : Nat) (hx : x = w.heap.size ∨ x = w.heap.size + 1 ∨ x = w.heap.size + 1 + 1) (hy : y = w.heap.size ∨ y = w.heap.size + 1 ∨ y = w.heap.size + 1 + 1) (hz : z = w.heap.size ∨ z = w.heap.size + 1 ∨ z = w.heap.size + 1 + 1) (h1 : x ≠ y) (h2 : x ≠ z) (h3 : y ≠ z) :
    DsM (((((w.alloc (.cells (madeCells #[.int .i64 0] n) 3)).alloc (.cells (madeCells #[.int .i64 0] n) 3)).alloc (.cells (madeCells #[.int .i64 0] n) 3)).alloc (.cells #[.pointer (some ⟨w.heap.size + 1 + 1 + 1, 0, none⟩), .slice (some ⟨x, 0, none⟩) n n, .slice (some ⟨y, 0, none⟩) n n, .slice (some ⟨z, 0, none⟩) n n, .int .i64 (n : Nat)] 144)).drew)
      ⟨w.heap.size, w.heap.size + 1 + 1 + 1 + 1⟩ (w.heap.size + 1 + 1 + 1) x y z n (fun _ => 0) (fun _ => 0) (fun _ => 0) n ∧ Below w.heap.size w (((((w.alloc (.cells (madeCells #[.int .i64 0] n) 3)).alloc (.cells (madeCells #[.int .i64 0] n) 3)).alloc (.cells (madeCells #[.int .i64 0] n) 3)).alloc (.cells #[.pointer (some ⟨w.heap.size + 1 + 1 + 1, 0, none⟩), .slice (some ⟨x, 0, none⟩) n n, .slice (some ⟨y, 0, none⟩) n n, .slice (some ⟨z, 0, none⟩) n n, .int .i64 (n : Nat)] 144)).drew) := by
  obtain ⟨A1, hA1⟩ : ∃ A1, w.alloc (.cells (madeCells #[.int .i64 0] n) 3) = A1 := ⟨_, rfl⟩
  have r1 : Row A1 w.heap.size n (fun _ => .int .i64 0) := by rw [← hA1]; exact Row.made w (.int .i64 0) n 3
  have s1 : A1.heap.size = w.heap.size + 1 := by rw [← hA1]; simp
  have b1 : Below w.heap.size w A1 := by rw [← hA1]; exact (Below.refl _ w).alloc (Nat.le_refl _) _
  rw [hA1]
  obtain ⟨A2, hA2⟩ : ∃ A2, A1.alloc (.cells (madeCells #[.int .i64 0] n) 3) = A2 := ⟨_, rfl⟩
  have r2 : Row A2 (w.heap.size + 1) n (fun _ => .int .i64 0) := by rw [← hA2, ← s1]; exact Row.made A1 (.int .i64 0) n 3
  have r1 : Row A2 w.heap.size n (fun _ => .int .i64 0) := by rw [← hA2]; exact r1.alloc _
  have s2 : A2.heap.size = w.heap.size + 1 + 1 := by rw [← hA2, World.size_alloc, s1]
  have b2 : Below w.heap.size w A2 := by rw [← hA2]; exact b1.alloc (by omega) _
  rw [hA2]
  obtain ⟨A3, hA3⟩ : ∃ A3, A2.alloc (.cells (madeCells #[.int .i64 0] n) 3) = A3 := ⟨_, rfl⟩
  have r3 : Row A3 (w.heap.size + 1 + 1) n (fun _ => .int .i64 0) := by rw [← hA3, ← s2]; exact Row.made A2 (.int .i64 0) n 3
  have r1 : Row A3 w.heap.size n (fun _ => .int .i64 0) := by rw [← hA3]; exact r1.alloc _
  have r2 : Row A3 (w.heap.size + 1) n (fun _ => .int .i64 0) := by rw [← hA3]; exact r2.alloc _
  have s3 : A3.heap.size = w.heap.size + 1 + 1 + 1 := by rw [← hA3, World.size_alloc, s2]
  have b3 : Below w.heap.size w A3 := by rw [← hA3]; exact b2.alloc (by omega) _
  rw [hA3, ← s3]
  have r : ∀ q, (q = w.heap.size ∨ q = w.heap.size + 1 ∨ q = w.heap.size + 1 + 1) → Row A3 q n (natC fun _ => 0) := fun q hq => by
    rcases hq with rfl | rfl | rfl
    · exact r1
    · exact r2
    · exact r3
  have st : Row (A3.alloc (.cells #[.pointer (some ⟨A3.heap.size, 0, none⟩), .slice (some ⟨x, 0, none⟩) n n, .slice (some ⟨y, 0, none⟩) n n, .slice (some ⟨z, 0, none⟩) n n, .int .i64 (n : Nat)] 144)) A3.heap.size 5 (fun i => (#[Value.pointer (some ⟨A3.heap.size, 0, none⟩), .slice (some ⟨x, 0, none⟩) n n, .slice (some ⟨y, 0, none⟩) n n, .slice (some ⟨z, 0, none⟩) n n, .int .i64 (n : Nat)] : Array Value).getD i undef) :=
    Row.lit A3 _ _ (by simp) (fun i hi => by
      rw [Array.getD_eq_getD_getElem?, Array.getElem?_eq_getElem (by simpa using hi)]; rfl)
  refine ⟨DsM.drew ⟨st.congr fun i hi => ?_, (r x hx).alloc _, (r y hy).alloc _, (r z hz).alloc _, by omega, by simp only [Zone.has]; omega⟩, (b3.alloc (by omega) _).drew⟩
  have : i = 0 ∨ i = 1 ∨ i = 2 ∨ i = 3 ∨ i = 4 := by omega
  rcases this with rfl | rfl | rfl | rfl | rfl <;> rfl
set_option maxRecDepth 100000 in
set_option maxHeartbeats 4000000 in
theorem dnew_any (n : Nat) (w : World) (hn : n ≤ 65536) :
    Calls Tryz.prog 76 #[.int .i64 (n : Nat)] w fun e w' => ∃ b, e = .returned (.tuple #[.pointer (some ⟨b, 0, none⟩), .int .i64 0]) ∧ DS w' ⟨w.heap.size, w'.heap.size⟩ b n id ∧ Below w.heap.size w w' := by
  have k1 : decide ((n : Int) < 0) = false := decide_eq_false (by omega)
  have k2 : decide ((n : Int) > 65536) = false := decide_eq_false (by omega)
  have hmk : ∀ w, (Instr.makeSlice 37 (.int .i64 (n : Nat)) (.int .i64 (n : Nat))).run Tryz.prog w = .ok (.slice (some ⟨w.heap.size, 0, none⟩) n n) (w.alloc (.cells (madeCells #[.int .i64 0] n) 3)) := fun w =>
    run_make_row' (P := Tryz.prog) 37 3 (.int .i64 0) 8 Tryz.underlying37 Tryz.infoI rfl .i64 .i64 n (by omega) (by omega) w
  go_enter Tryz.func76, Tryz.ntmps76
  go_wp2_with fail
  go_region
  · obtain ⟨M, bel⟩ := dsu_made w n (w.heap.size) (w.heap.size + 1) (w.heap.size + 1 + 1) (by omega) (by omega) (by omega) (by omega) (by omega) (by omega)
    go_wp2_with fail
    generalize ((((w.alloc (.cells (madeCells #[.int .i64 0] n) 3)).alloc (.cells (madeCells #[.int .i64 0] n) 3)).alloc (.cells (madeCells #[.int .i64 0] n) 3)).alloc (.cells #[.pointer (some ⟨w.heap.size + 1 + 1 + 1, 0, none⟩), .slice (some ⟨w.heap.size, 0, none⟩) n n, .slice (some ⟨w.heap.size + 1, 0, none⟩) n n, .slice (some ⟨w.heap.size + 1 + 1, 0, none⟩) n n, .int .i64 (n : Nat)] 144)).drew = W at *
    have M0 := M.congr (up' := fun i => if i < 0 then i else 0) (ls' := fun i => if i < 0 then i else 0) (sz' := fun i => if i < 0 then 1 else 0) (fun i _ => by rw [if_neg (by omega)]) (fun i _ => by rw [if_neg (by omega)]) (fun i _ => by rw [if_neg (by omega)])
    clear hmk M
    go_loopw [26] (fun i wr => ∃ k : Nat, k ≤ n ∧ i = .int .i64 (k : Nat) ∧ Hid (DsM wr ⟨w.heap.size, w.heap.size + 1 + 1 + 1 + 1⟩ (w.heap.size + 1 + 1 + 1) (w.heap.size) (w.heap.size + 1) (w.heap.size + 1 + 1) n (fun i => if i < k then i else 0) (fun i => if i < k then i else 0) (fun i => if i < k then 1 else 0) n) ∧ Below w.heap.size w wr) (fun i _ => n - (intOf i).toNat)
    case atStart => exact ⟨0, Nat.zero_le _, rfl, Lib.hid M0, bel⟩
    case round =>
      clear M0 bel
      obtain ⟨k, hk, rfl, HM, bel⟩ := hrel
      by_cases hlt : k < n
      · have hki : (0 : Int) ≤ k ∧ (k : Int) < n := by omega
        have c1 : wr.cell? ⟨w.heap.size + 1 + 1 + 1, 1, none⟩ = some (.slice (some ⟨w.heap.size, 0, none⟩) n n) := HM.out.st.cell (i := 1) (by omega)
        have c2 : wr.cell? ⟨w.heap.size + 1 + 1 + 1, 2, none⟩ = some (.slice (some ⟨w.heap.size + 1, 0, none⟩) n n) := HM.out.st.cell (i := 2) (by omega)
        have c3 : wr.cell? ⟨w.heap.size + 1 + 1 + 1, 3, none⟩ = some (.slice (some ⟨w.heap.size + 1 + 1, 0, none⟩) n n) := HM.out.st.cell (i := 3) (by omega)
        have M1 := HM.out.setUp k k
        have M2 := M1.setLs k k
        have M3 := M2.setSz k 1
        have e1 := HM.out.rup.cell hlt
        have e2 := HM.out.rup.frozen k
        have e3 := M1.rls.cell hlt
        have e4 := M1.rls.frozen k
        have e5 := M2.rsz.cell hlt
        have e6 := M2.rsz.frozen k
        have HM3 := Lib.hid (M3.drew.congr (up' := fun i => if i < k + 1 then i else 0) (ls' := fun i => if i < k + 1 then i else 0) (sz' := fun i => if i < k + 1 then 1 else 0) (fun i _ => stp_a k i) (fun i _ => stp_a k i) (fun i _ => stp_b k i))
        have HB3 := Lib.hid ((((bel.setCell (p := ⟨w.heap.size, k, none⟩) HM.out.lo.2.1.1 (.int .i64 (k : Nat))).setCell (p := ⟨w.heap.size + 1, k, none⟩) HM.out.lo.2.2.1.1 (.int .i64 (k : Nat))).setCell (p := ⟨w.heap.size + 1 + 1, k, none⟩) HM.out.lo.2.2.2.1 (.int .i64 ((1 : Nat) : Int))).drew)
        have HS : wr.drew.cell? ⟨w.heap.size + 1 + 1 + 1, 1, none⟩ = some (.slice (some ⟨w.heap.size, 0, none⟩) n n) ∧ wr.drew.cell? ⟨w.heap.size + 1 + 1 + 1, 2, none⟩ = some (.slice (some ⟨w.heap.size + 1, 0, none⟩) n n) ∧ wr.drew.cell? ⟨w.heap.size + 1 + 1 + 1, 3, none⟩ = some (.slice (some ⟨w.heap.size + 1 + 1, 0, none⟩) n n) := ⟨c1, c2, c3⟩
        have HS1 := And.intro (M1.drew.st.cell (i := 1) (by omega)) (And.intro (M1.drew.st.cell (i := 2) (by omega)) (M1.drew.st.cell (i := 3) (by omega)))
        have HS2 := And.intro (M2.drew.st.cell (i := 1) (by omega)) (And.intro (M2.drew.st.cell (i := 2) (by omega)) (M2.drew.st.cell (i := 3) (by omega)))
        have HS3 := And.intro (M3.drew.st.cell (i := 1) (by omega)) (And.intro (M3.drew.st.cell (i := 2) (by omega)) (M3.drew.st.cell (i := 3) (by omega)))
        clear M1 M2 M3 HM
        simp only [natC] at e1 e3 e5
        go_wp2_with fail
        refine region_plain (fun w' => w'.cell? ⟨w.heap.size + 1 + 1 + 1, 1, none⟩ = some (.slice (some ⟨w.heap.size, 0, none⟩) n n) ∧ w'.cell? ⟨w.heap.size + 1 + 1 + 1, 2, none⟩ = some (.slice (some ⟨w.heap.size + 1, 0, none⟩) n n) ∧ w'.cell? ⟨w.heap.size + 1 + 1 + 1, 3, none⟩ = some (.slice (some ⟨w.heap.size + 1 + 1, 0, none⟩) n n)) (by kernel_rfl) ?_
        refine take_at (i := 0) (d := 29) (v := ?_) rfl rfl (by kernel_rfl) (by kernel_rfl) (by kernel_rfl) (fun _ _ _ _ => NormalOnly.any) rfl ?hy1 HS ?rest1
        case hy1 => intro w' hSw; (try dsimp only at hSw); go_simp; try (with_reducible rfl)
        try simp only [List.setIfInBounds_toArray, List.set_cons_zero, List.set_cons_succ]
        refine take_at (i := 1) (d := 30) (v := ?_) rfl rfl (by kernel_rfl) (by kernel_rfl) (by kernel_rfl) (fun _ _ _ _ => NormalOnly.any) rfl ?hy2 HS ?rest2
        case hy2 => intro w' hSw; (try dsimp only at hSw); go_simp; try (with_reducible rfl)
        try simp only [List.setIfInBounds_toArray, List.set_cons_zero, List.set_cons_succ]
        refine take_at (i := 2) (d := 31) (v := ?_) rfl rfl (by kernel_rfl) (by kernel_rfl) (by kernel_rfl) (fun _ _ _ _ => NormalOnly.any) rfl ?hy3 HS ?rest3
        case hy3 => intro w' hSw; (try dsimp only at hSw); go_simp; try (with_reducible rfl)
        try simp only [List.setIfInBounds_toArray, List.set_cons_zero, List.set_cons_succ]
        refine take_at (i := 3) (d := 32) (v := ?_) rfl rfl (by kernel_rfl) (by kernel_rfl) (by kernel_rfl) (fun _ _ _ _ => NormalOnly.any) rfl ?hy4 HS ?rest4
        case hy4 => intro w' hSw; (try dsimp only at hSw); go_simp; try (with_reducible rfl)
        try simp only [List.setIfInBounds_toArray, List.set_cons_zero, List.set_cons_succ]
        refine take_at (i := 4) (d := 33) (v := ?_) rfl rfl (by kernel_rfl) (by kernel_rfl) (by kernel_rfl) (fun _ _ _ _ => NormalOnly.any) rfl ?hy5 HS ?rest5
        case hy5 => intro w' hSw; (try dsimp only at hSw); go_simp; try (with_reducible rfl)
        try simp only [List.setIfInBounds_toArray, List.set_cons_zero, List.set_cons_succ]
        refine take_at (i := 5) (d := 34) (v := ?_) rfl rfl (by kernel_rfl) (by kernel_rfl) (by kernel_rfl) (fun _ _ _ _ => NormalOnly.any) rfl ?hy6 HS ?rest6
        case hy6 => intro w' hSw; (try dsimp only at hSw); go_simp; try (with_reducible rfl)
        try simp only [List.setIfInBounds_toArray, List.set_cons_zero, List.set_cons_succ]
        refine take_at (i := 6) (d := 35) (v := ?_) rfl rfl (by kernel_rfl) (by kernel_rfl) (by kernel_rfl) (fun _ _ _ _ => NormalOnly.any) rfl ?hy7 HS ?rest7
        case hy7 => intro w' hSw; (try dsimp only at hSw); go_simp; try (with_reducible rfl)
        try simp only [List.setIfInBounds_toArray, List.set_cons_zero, List.set_cons_succ]
        refine take_at (i := 7) (d := 36) (v := ?_) rfl rfl (by kernel_rfl) (by kernel_rfl) (by kernel_rfl) (fun _ _ _ _ => NormalOnly.any) rfl ?hy8 HS ?rest8
        case hy8 => intro w' hSw; (try dsimp only at hSw); go_simp; try (with_reducible rfl)
        try simp only [List.setIfInBounds_toArray, List.set_cons_zero, List.set_cons_succ]
        refine take_at (i := 8) (d := 37) (v := ?_) rfl rfl (by kernel_rfl) (by kernel_rfl) (by kernel_rfl) (fun _ _ _ _ => NormalOnly.any) rfl ?hy9 HS ?rest9
        case hy9 => intro w' hSw; (try dsimp only at hSw); go_simp; try (with_reducible rfl)
        try simp only [List.setIfInBounds_toArray, List.set_cons_zero, List.set_cons_succ]
        refine take_at (i := 9) (d := 38) (v := ?_) rfl rfl (by kernel_rfl) (by kernel_rfl) (by kernel_rfl) (fun _ _ _ _ => NormalOnly.any) rfl ?hy10 HS ?rest10
        case hy10 => intro w' hSw; (try dsimp only at hSw); go_simp; try (with_reducible rfl)
        try simp only [List.setIfInBounds_toArray, List.set_cons_zero, List.set_cons_succ]
        refine take_at (i := 10) (d := 39) (v := ?_) rfl rfl (by kernel_rfl) (by kernel_rfl) (by kernel_rfl) (fun _ _ _ _ => NormalOnly.any) rfl ?hy11 HS ?rest11
        case hy11 => intro w' hSw; (try dsimp only at hSw); go_simp; try (with_reducible rfl)
        try simp only [List.setIfInBounds_toArray, List.set_cons_zero, List.set_cons_succ]
        refine take_at (i := 11) (d := 40) (v := ?_) rfl rfl (by kernel_rfl) (by kernel_rfl) (by kernel_rfl) (fun _ _ _ _ => NormalOnly.any) rfl ?hy12 HS ?rest12
        case hy12 => intro w' hSw; (try dsimp only at hSw); go_simp; try (with_reducible rfl)
        try simp only [List.setIfInBounds_toArray, List.set_cons_zero, List.set_cons_succ]
        refine take_at (i := 12) (d := 41) (v := ?_) rfl rfl (by kernel_rfl) (by kernel_rfl) (by kernel_rfl) (fun _ _ _ _ => NormalOnly.any) rfl ?hy13 HS ?rest13
        case hy13 => intro w' hSw; (try dsimp only at hSw); go_simp; try (with_reducible rfl)
        try simp only [List.setIfInBounds_toArray, List.set_cons_zero, List.set_cons_succ]
        refine take_at (i := 13) (d := 42) (v := ?_) rfl rfl (by kernel_rfl) (by kernel_rfl) (by kernel_rfl) (fun _ _ _ _ => NormalOnly.any) rfl ?hy14 HS ?rest14
        case hy14 => intro w' hSw; (try dsimp only at hSw); go_simp; try (with_reducible rfl)
        try simp only [List.setIfInBounds_toArray, List.set_cons_zero, List.set_cons_succ]
        refine take_at (i := 14) (d := 43) (v := ?_) rfl rfl (by kernel_rfl) (by kernel_rfl) (by kernel_rfl) (fun _ _ _ _ => NormalOnly.any) rfl ?hy15 HS ?rest15
        case hy15 => intro w' hSw; (try dsimp only at hSw); go_simp; try (with_reducible rfl)
        try simp only [List.setIfInBounds_toArray, List.set_cons_zero, List.set_cons_succ]
        refine take_at (i := 15) (d := 44) (v := ?_) rfl rfl (by kernel_rfl) (by kernel_rfl) (by kernel_rfl) (fun _ _ _ _ => NormalOnly.any) rfl ?hy16 HS ?rest16
        case hy16 => intro w' hSw; (try dsimp only at hSw); go_simp; try (with_reducible rfl)
        try simp only [List.setIfInBounds_toArray, List.set_cons_zero, List.set_cons_succ]
        refine take_at (i := 16) (d := 45) (v := ?_) rfl rfl (by kernel_rfl) (by kernel_rfl) (by kernel_rfl) (fun _ _ _ _ => NormalOnly.any) rfl ?hy17 HS ?rest17
        case hy17 => intro w' hSw; (try dsimp only at hSw); go_simp; try (with_reducible rfl)
        try simp only [List.setIfInBounds_toArray, List.set_cons_zero, List.set_cons_succ]
        refine take_at (i := 17) (d := 46) (v := ?_) rfl rfl (by kernel_rfl) (by kernel_rfl) (by kernel_rfl) (fun _ _ _ _ => NormalOnly.any) rfl ?hy18 HS ?rest18
        case hy18 => intro w' hSw; (try dsimp only at hSw); go_simp; try (with_reducible rfl)
        try simp only [List.setIfInBounds_toArray, List.set_cons_zero, List.set_cons_succ]
        refine wpAnyH_ready (rs := [18]) (by kernel_rfl) (by simp) ?_
        refine AllReadyH.cons rfl (fun K hK => ?_) AllReadyH.nil
        go_simp
        refine hK.out _ _ HS1 (fun HS => ?_)
        clear hK
        refine take_at (i := 19) (d := 47) (v := ?_) rfl rfl (by kernel_rfl) (by kernel_rfl) (by kernel_rfl) (fun _ _ _ _ => NormalOnly.any) rfl ?hy19 HS ?rest19
        case hy19 => intro w' hSw; (try dsimp only at hSw); go_simp; try (with_reducible rfl)
        try simp only [List.setIfInBounds_toArray, List.set_cons_zero, List.set_cons_succ]
        refine wpAnyH_ready (rs := [20]) (by kernel_rfl) (by simp) ?_
        refine AllReadyH.cons rfl (fun K hK => ?_) AllReadyH.nil
        go_simp
        refine hK.out _ _ HS2 (fun HS => ?_)
        clear hK
        refine take_at (i := 21) (d := 48) (v := ?_) rfl rfl (by kernel_rfl) (by kernel_rfl) (by kernel_rfl) (fun _ _ _ _ => NormalOnly.any) rfl ?hy20 HS ?rest20
        case hy20 => intro w' hSw; (try dsimp only at hSw); go_simp; try (with_reducible rfl)
        try simp only [List.setIfInBounds_toArray, List.set_cons_zero, List.set_cons_succ]
        refine wpAnyH_ready (rs := [22]) (by kernel_rfl) (by simp) ?_
        refine AllReadyH.cons rfl (fun K hK => ?_) AllReadyH.nil
        go_simp
        refine hK.out _ _ HS3 (fun _ => ?_)
        clear hK
        refine wpAnyH_done (by kernel_rfl) ⟨rfl, ?_⟩ _
        go_wp2_with fail
        go_roundw
        case rel => exact ⟨k + 1, by omega, by go_num, HM3, HB3.out⟩
        case measure => simp only [intOf]; omega
      · have hke : k = n := by omega
        have HD : DS wr ⟨w.heap.size, wr.heap.size⟩ (w.heap.size + 1 + 1 + 1) n id := DS.widen (z := ⟨w.heap.size, w.heap.size + 1 + 1 + 1 + 1⟩) ⟨w.heap.size, w.heap.size + 1, w.heap.size + 1 + 1, id, id, fun _ => 1, fun _ => 0, 0, by
          rw [cntN_id]
          exact HM.out.congr (fun i hi => if_pos (by omega)) (fun i hi => if_pos (by omega)) (fun i hi => if_pos (by omega)), uf_id n, LabOk.id, fun i hi _ => ⟨rfl, (clsN_id hi).symm⟩⟩ (Nat.le_refl _) HM.out.size.1
        have HD := Lib.hid HD
        clear HM
        go_wp2_with fail
        go_ret2
        exact ⟨_, rfl, HD.out, bel⟩
  · obtain ⟨M, bel⟩ := dsu_made w n (w.heap.size) (w.heap.size + 1 + 1) (w.heap.size + 1) (by omega) (by omega) (by omega) (by omega) (by omega) (by omega)
    go_wp2_with fail
    generalize ((((w.alloc (.cells (madeCells #[.int .i64 0] n) 3)).alloc (.cells (madeCells #[.int .i64 0] n) 3)).alloc (.cells (madeCells #[.int .i64 0] n) 3)).alloc (.cells #[.pointer (some ⟨w.heap.size + 1 + 1 + 1, 0, none⟩), .slice (some ⟨w.heap.size, 0, none⟩) n n, .slice (some ⟨w.heap.size + 1 + 1, 0, none⟩) n n, .slice (some ⟨w.heap.size + 1, 0, none⟩) n n, .int .i64 (n : Nat)] 144)).drew = W at *
    have M0 := M.congr (up' := fun i => if i < 0 then i else 0) (ls' := fun i => if i < 0 then i else 0) (sz' := fun i => if i < 0 then 1 else 0) (fun i _ => by rw [if_neg (by omega)]) (fun i _ => by rw [if_neg (by omega)]) (fun i _ => by rw [if_neg (by omega)])
    clear hmk M
    go_loopw [26] (fun i wr => ∃ k : Nat, k ≤ n ∧ i = .int .i64 (k : Nat) ∧ Hid (DsM wr ⟨w.heap.size, w.heap.size + 1 + 1 + 1 + 1⟩ (w.heap.size + 1 + 1 + 1) (w.heap.size) (w.heap.size + 1 + 1) (w.heap.size + 1) n (fun i => if i < k then i else 0) (fun i => if i < k then i else 0) (fun i => if i < k then 1 else 0) n) ∧ Below w.heap.size w wr) (fun i _ => n - (intOf i).toNat)
    case atStart => exact ⟨0, Nat.zero_le _, rfl, Lib.hid M0, bel⟩
    case round =>
      clear M0 bel
      obtain ⟨k, hk, rfl, HM, bel⟩ := hrel
      by_cases hlt : k < n
      · have hki : (0 : Int) ≤ k ∧ (k : Int) < n := by omega
        have c1 : wr.cell? ⟨w.heap.size + 1 + 1 + 1, 1, none⟩ = some (.slice (some ⟨w.heap.size, 0, none⟩) n n) := HM.out.st.cell (i := 1) (by omega)
        have c2 : wr.cell? ⟨w.heap.size + 1 + 1 + 1, 2, none⟩ = some (.slice (some ⟨w.heap.size + 1 + 1, 0, none⟩) n n) := HM.out.st.cell (i := 2) (by omega)
        have c3 : wr.cell? ⟨w.heap.size + 1 + 1 + 1, 3, none⟩ = some (.slice (some ⟨w.heap.size + 1, 0, none⟩) n n) := HM.out.st.cell (i := 3) (by omega)
        have M1 := HM.out.setUp k k
        have M2 := M1.setLs k k
        have M3 := M2.setSz k 1
        have e1 := HM.out.rup.cell hlt
        have e2 := HM.out.rup.frozen k
        have e3 := M1.rls.cell hlt
        have e4 := M1.rls.frozen k
        have e5 := M2.rsz.cell hlt
        have e6 := M2.rsz.frozen k
        have HM3 := Lib.hid (M3.drew.congr (up' := fun i => if i < k + 1 then i else 0) (ls' := fun i => if i < k + 1 then i else 0) (sz' := fun i => if i < k + 1 then 1 else 0) (fun i _ => stp_a k i) (fun i _ => stp_a k i) (fun i _ => stp_b k i))
        have HB3 := Lib.hid ((((bel.setCell (p := ⟨w.heap.size, k, none⟩) HM.out.lo.2.1.1 (.int .i64 (k : Nat))).setCell (p := ⟨w.heap.size + 1 + 1, k, none⟩) HM.out.lo.2.2.1.1 (.int .i64 (k : Nat))).setCell (p := ⟨w.heap.size + 1, k, none⟩) HM.out.lo.2.2.2.1 (.int .i64 ((1 : Nat) : Int))).drew)
        have HS : wr.drew.cell? ⟨w.heap.size + 1 + 1 + 1, 1, none⟩ = some (.slice (some ⟨w.heap.size, 0, none⟩) n n) ∧ wr.drew.cell? ⟨w.heap.size + 1 + 1 + 1, 2, none⟩ = some (.slice (some ⟨w.heap.size + 1 + 1, 0, none⟩) n n) ∧ wr.drew.cell? ⟨w.heap.size + 1 + 1 + 1, 3, none⟩ = some (.slice (some ⟨w.heap.size + 1, 0, none⟩) n n) := ⟨c1, c2, c3⟩
        have HS1 := And.intro (M1.drew.st.cell (i := 1) (by omega)) (And.intro (M1.drew.st.cell (i := 2) (by omega)) (M1.drew.st.cell (i := 3) (by omega)))
        have HS2 := And.intro (M2.drew.st.cell (i := 1) (by omega)) (And.intro (M2.drew.st.cell (i := 2) (by omega)) (M2.drew.st.cell (i := 3) (by omega)))
        have HS3 := And.intro (M3.drew.st.cell (i := 1) (by omega)) (And.intro (M3.drew.st.cell (i := 2) (by omega)) (M3.drew.st.cell (i := 3) (by omega)))
        clear M1 M2 M3 HM
        simp only [natC] at e1 e3 e5
        go_wp2_with fail
        refine region_plain (fun w' => w'.cell? ⟨w.heap.size + 1 + 1 + 1, 1, none⟩ = some (.slice (some ⟨w.heap.size, 0, none⟩) n n) ∧ w'.cell? ⟨w.heap.size + 1 + 1 + 1, 2, none⟩ = some (.slice (some ⟨w.heap.size + 1 + 1, 0, none⟩) n n) ∧ w'.cell? ⟨w.heap.size + 1 + 1 + 1, 3, none⟩ = some (.slice (some ⟨w.heap.size + 1, 0, none⟩) n n)) (by kernel_rfl) ?_
        refine take_at (i := 0) (d := 29) (v := ?_) rfl rfl (by kernel_rfl) (by kernel_rfl) (by kernel_rfl) (fun _ _ _ _ => NormalOnly.any) rfl ?hy21 HS ?rest21
        case hy21 => intro w' hSw; (try dsimp only at hSw); go_simp; try (with_reducible rfl)
        try simp only [List.setIfInBounds_toArray, List.set_cons_zero, List.set_cons_succ]
        refine take_at (i := 1) (d := 30) (v := ?_) rfl rfl (by kernel_rfl) (by kernel_rfl) (by kernel_rfl) (fun _ _ _ _ => NormalOnly.any) rfl ?hy22 HS ?rest22
        case hy22 => intro w' hSw; (try dsimp only at hSw); go_simp; try (with_reducible rfl)
        try simp only [List.setIfInBounds_toArray, List.set_cons_zero, List.set_cons_succ]
        refine take_at (i := 2) (d := 31) (v := ?_) rfl rfl (by kernel_rfl) (by kernel_rfl) (by kernel_rfl) (fun _ _ _ _ => NormalOnly.any) rfl ?hy23 HS ?rest23
        case hy23 => intro w' hSw; (try dsimp only at hSw); go_simp; try (with_reducible rfl)
        try simp only [List.setIfInBounds_toArray, List.set_cons_zero, List.set_cons_succ]
        refine take_at (i := 3) (d := 32) (v := ?_) rfl rfl (by kernel_rfl) (by kernel_rfl) (by kernel_rfl) (fun _ _ _ _ => NormalOnly.any) rfl ?hy24 HS ?rest24
        case hy24 => intro w' hSw; (try dsimp only at hSw); go_simp; try (with_reducible rfl)
        try simp only [List.setIfInBounds_toArray, List.set_cons_zero, List.set_cons_succ]
        refine take_at (i := 4) (d := 33) (v := ?_) rfl rfl (by kernel_rfl) (by kernel_rfl) (by kernel_rfl) (fun _ _ _ _ => NormalOnly.any) rfl ?hy25 HS ?rest25
        case hy25 => intro w' hSw; (try dsimp only at hSw); go_simp; try (with_reducible rfl)
        try simp only [List.setIfInBounds_toArray, List.set_cons_zero, List.set_cons_succ]
        refine take_at (i := 5) (d := 34) (v := ?_) rfl rfl (by kernel_rfl) (by kernel_rfl) (by kernel_rfl) (fun _ _ _ _ => NormalOnly.any) rfl ?hy26 HS ?rest26
        case hy26 => intro w' hSw; (try dsimp only at hSw); go_simp; try (with_reducible rfl)
        try simp only [List.setIfInBounds_toArray, List.set_cons_zero, List.set_cons_succ]
        refine take_at (i := 6) (d := 35) (v := ?_) rfl rfl (by kernel_rfl) (by kernel_rfl) (by kernel_rfl) (fun _ _ _ _ => NormalOnly.any) rfl ?hy27 HS ?rest27
        case hy27 => intro w' hSw; (try dsimp only at hSw); go_simp; try (with_reducible rfl)
        try simp only [List.setIfInBounds_toArray, List.set_cons_zero, List.set_cons_succ]
        refine take_at (i := 7) (d := 36) (v := ?_) rfl rfl (by kernel_rfl) (by kernel_rfl) (by kernel_rfl) (fun _ _ _ _ => NormalOnly.any) rfl ?hy28 HS ?rest28
        case hy28 => intro w' hSw; (try dsimp only at hSw); go_simp; try (with_reducible rfl)
        try simp only [List.setIfInBounds_toArray, List.set_cons_zero, List.set_cons_succ]
        refine take_at (i := 8) (d := 37) (v := ?_) rfl rfl (by kernel_rfl) (by kernel_rfl) (by kernel_rfl) (fun _ _ _ _ => NormalOnly.any) rfl ?hy29 HS ?rest29
        case hy29 => intro w' hSw; (try dsimp only at hSw); go_simp; try (with_reducible rfl)
        try simp only [List.setIfInBounds_toArray, List.set_cons_zero, List.set_cons_succ]
        refine take_at (i := 9) (d := 38) (v := ?_) rfl rfl (by kernel_rfl) (by kernel_rfl) (by kernel_rfl) (fun _ _ _ _ => NormalOnly.any) rfl ?hy30 HS ?rest30
        case hy30 => intro w' hSw; (try dsimp only at hSw); go_simp; try (with_reducible rfl)
        try simp only [List.setIfInBounds_toArray, List.set_cons_zero, List.set_cons_succ]
        refine take_at (i := 10) (d := 39) (v := ?_) rfl rfl (by kernel_rfl) (by kernel_rfl) (by kernel_rfl) (fun _ _ _ _ => NormalOnly.any) rfl ?hy31 HS ?rest31
        case hy31 => intro w' hSw; (try dsimp only at hSw); go_simp; try (with_reducible rfl)
        try simp only [List.setIfInBounds_toArray, List.set_cons_zero, List.set_cons_succ]
        refine take_at (i := 11) (d := 40) (v := ?_) rfl rfl (by kernel_rfl) (by kernel_rfl) (by kernel_rfl) (fun _ _ _ _ => NormalOnly.any) rfl ?hy32 HS ?rest32
        case hy32 => intro w' hSw; (try dsimp only at hSw); go_simp; try (with_reducible rfl)
        try simp only [List.setIfInBounds_toArray, List.set_cons_zero, List.set_cons_succ]
        refine take_at (i := 12) (d := 41) (v := ?_) rfl rfl (by kernel_rfl) (by kernel_rfl) (by kernel_rfl) (fun _ _ _ _ => NormalOnly.any) rfl ?hy33 HS ?rest33
        case hy33 => intro w' hSw; (try dsimp only at hSw); go_simp; try (with_reducible rfl)
        try simp only [List.setIfInBounds_toArray, List.set_cons_zero, List.set_cons_succ]
        refine take_at (i := 13) (d := 42) (v := ?_) rfl rfl (by kernel_rfl) (by kernel_rfl) (by kernel_rfl) (fun _ _ _ _ => NormalOnly.any) rfl ?hy34 HS ?rest34
        case hy34 => intro w' hSw; (try dsimp only at hSw); go_simp; try (with_reducible rfl)
        try simp only [List.setIfInBounds_toArray, List.set_cons_zero, List.set_cons_succ]
        refine take_at (i := 14) (d := 43) (v := ?_) rfl rfl (by kernel_rfl) (by kernel_rfl) (by kernel_rfl) (fun _ _ _ _ => NormalOnly.any) rfl ?hy35 HS ?rest35
        case hy35 => intro w' hSw; (try dsimp only at hSw); go_simp; try (with_reducible rfl)
        try simp only [List.setIfInBounds_toArray, List.set_cons_zero, List.set_cons_succ]
        refine take_at (i := 15) (d := 44) (v := ?_) rfl rfl (by kernel_rfl) (by kernel_rfl) (by kernel_rfl) (fun _ _ _ _ => NormalOnly.any) rfl ?hy36 HS ?rest36
        case hy36 => intro w' hSw; (try dsimp only at hSw); go_simp; try (with_reducible rfl)
        try simp only [List.setIfInBounds_toArray, List.set_cons_zero, List.set_cons_succ]
        refine take_at (i := 16) (d := 45) (v := ?_) rfl rfl (by kernel_rfl) (by kernel_rfl) (by kernel_rfl) (fun _ _ _ _ => NormalOnly.any) rfl ?hy37 HS ?rest37
        case hy37 => intro w' hSw; (try dsimp only at hSw); go_simp; try (with_reducible rfl)
        try simp only [List.setIfInBounds_toArray, List.set_cons_zero, List.set_cons_succ]
        refine take_at (i := 17) (d := 46) (v := ?_) rfl rfl (by kernel_rfl) (by kernel_rfl) (by kernel_rfl) (fun _ _ _ _ => NormalOnly.any) rfl ?hy38 HS ?rest38
        case hy38 => intro w' hSw; (try dsimp only at hSw); go_simp; try (with_reducible rfl)
        try simp only [List.setIfInBounds_toArray, List.set_cons_zero, List.set_cons_succ]
        refine wpAnyH_ready (rs := [18]) (by kernel_rfl) (by simp) ?_
        refine AllReadyH.cons rfl (fun K hK => ?_) AllReadyH.nil
        go_simp
        refine hK.out _ _ HS1 (fun HS => ?_)
        clear hK
        refine take_at (i := 19) (d := 47) (v := ?_) rfl rfl (by kernel_rfl) (by kernel_rfl) (by kernel_rfl) (fun _ _ _ _ => NormalOnly.any) rfl ?hy39 HS ?rest39
        case hy39 => intro w' hSw; (try dsimp only at hSw); go_simp; try (with_reducible rfl)
        try simp only [List.setIfInBounds_toArray, List.set_cons_zero, List.set_cons_succ]
        refine wpAnyH_ready (rs := [20]) (by kernel_rfl) (by simp) ?_
        refine AllReadyH.cons rfl (fun K hK => ?_) AllReadyH.nil
        go_simp
        refine hK.out _ _ HS2 (fun HS => ?_)
        clear hK
        refine take_at (i := 21) (d := 48) (v := ?_) rfl rfl (by kernel_rfl) (by kernel_rfl) (by kernel_rfl) (fun _ _ _ _ => NormalOnly.any) rfl ?hy40 HS ?rest40
        case hy40 => intro w' hSw; (try dsimp only at hSw); go_simp; try (with_reducible rfl)
        try simp only [List.setIfInBounds_toArray, List.set_cons_zero, List.set_cons_succ]
        refine wpAnyH_ready (rs := [22]) (by kernel_rfl) (by simp) ?_
        refine AllReadyH.cons rfl (fun K hK => ?_) AllReadyH.nil
        go_simp
        refine hK.out _ _ HS3 (fun _ => ?_)
        clear hK
        refine wpAnyH_done (by kernel_rfl) ⟨rfl, ?_⟩ _
        go_wp2_with fail
        go_roundw
        case rel => exact ⟨k + 1, by omega, by go_num, HM3, HB3.out⟩
        case measure => simp only [intOf]; omega
      · have hke : k = n := by omega
        have HD : DS wr ⟨w.heap.size, wr.heap.size⟩ (w.heap.size + 1 + 1 + 1) n id := DS.widen (z := ⟨w.heap.size, w.heap.size + 1 + 1 + 1 + 1⟩) ⟨w.heap.size, w.heap.size + 1 + 1, w.heap.size + 1, id, id, fun _ => 1, fun _ => 0, 0, by
          rw [cntN_id]
          exact HM.out.congr (fun i hi => if_pos (by omega)) (fun i hi => if_pos (by omega)) (fun i hi => if_pos (by omega)), uf_id n, LabOk.id, fun i hi _ => ⟨rfl, (clsN_id hi).symm⟩⟩ (Nat.le_refl _) HM.out.size.1
        have HD := Lib.hid HD
        clear HM
        go_wp2_with fail
        go_ret2
        exact ⟨_, rfl, HD.out, bel⟩
  · obtain ⟨M, bel⟩ := dsu_made w n (w.heap.size + 1) (w.heap.size) (w.heap.size + 1 + 1) (by omega) (by omega) (by omega) (by omega) (by omega) (by omega)
    go_wp2_with fail
    generalize ((((w.alloc (.cells (madeCells #[.int .i64 0] n) 3)).alloc (.cells (madeCells #[.int .i64 0] n) 3)).alloc (.cells (madeCells #[.int .i64 0] n) 3)).alloc (.cells #[.pointer (some ⟨w.heap.size + 1 + 1 + 1, 0, none⟩), .slice (some ⟨w.heap.size + 1, 0, none⟩) n n, .slice (some ⟨w.heap.size, 0, none⟩) n n, .slice (some ⟨w.heap.size + 1 + 1, 0, none⟩) n n, .int .i64 (n : Nat)] 144)).drew = W at *
    have M0 := M.congr (up' := fun i => if i < 0 then i else 0) (ls' := fun i => if i < 0 then i else 0) (sz' := fun i => if i < 0 then 1 else 0) (fun i _ => by rw [if_neg (by omega)]) (fun i _ => by rw [if_neg (by omega)]) (fun i _ => by rw [if_neg (by omega)])
    clear hmk M
    go_loopw [26] (fun i wr => ∃ k : Nat, k ≤ n ∧ i = .int .i64 (k : Nat) ∧ Hid (DsM wr ⟨w.heap.size, w.heap.size + 1 + 1 + 1 + 1⟩ (w.heap.size + 1 + 1 + 1) (w.heap.size + 1) (w.heap.size) (w.heap.size + 1 + 1) n (fun i => if i < k then i else 0) (fun i => if i < k then i else 0) (fun i => if i < k then 1 else 0) n) ∧ Below w.heap.size w wr) (fun i _ => n - (intOf i).toNat)
    case atStart => exact ⟨0, Nat.zero_le _, rfl, Lib.hid M0, bel⟩
    case round =>
      clear M0 bel
      obtain ⟨k, hk, rfl, HM, bel⟩ := hrel
      by_cases hlt : k < n
      · have hki : (0 : Int) ≤ k ∧ (k : Int) < n := by omega
        have c1 : wr.cell? ⟨w.heap.size + 1 + 1 + 1, 1, none⟩ = some (.slice (some ⟨w.heap.size + 1, 0, none⟩) n n) := HM.out.st.cell (i := 1) (by omega)
        have c2 : wr.cell? ⟨w.heap.size + 1 + 1 + 1, 2, none⟩ = some (.slice (some ⟨w.heap.size, 0, none⟩) n n) := HM.out.st.cell (i := 2) (by omega)
        have c3 : wr.cell? ⟨w.heap.size + 1 + 1 + 1, 3, none⟩ = some (.slice (some ⟨w.heap.size + 1 + 1, 0, none⟩) n n) := HM.out.st.cell (i := 3) (by omega)
        have M1 := HM.out.setUp k k
        have M2 := M1.setLs k k
        have M3 := M2.setSz k 1
        have e1 := HM.out.rup.cell hlt
        have e2 := HM.out.rup.frozen k
        have e3 := M1.rls.cell hlt
        have e4 := M1.rls.frozen k
        have e5 := M2.rsz.cell hlt
        have e6 := M2.rsz.frozen k
        have HM3 := Lib.hid (M3.drew.congr (up' := fun i => if i < k + 1 then i else 0) (ls' := fun i => if i < k + 1 then i else 0) (sz' := fun i => if i < k + 1 then 1 else 0) (fun i _ => stp_a k i) (fun i _ => stp_a k i) (fun i _ => stp_b k i))
        have HB3 := Lib.hid ((((bel.setCell (p := ⟨w.heap.size + 1, k, none⟩) HM.out.lo.2.1.1 (.int .i64 (k : Nat))).setCell (p := ⟨w.heap.size, k, none⟩) HM.out.lo.2.2.1.1 (.int .i64 (k : Nat))).setCell (p := ⟨w.heap.size + 1 + 1, k, none⟩) HM.out.lo.2.2.2.1 (.int .i64 ((1 : Nat) : Int))).drew)
        have HS : wr.drew.cell? ⟨w.heap.size + 1 + 1 + 1, 1, none⟩ = some (.slice (some ⟨w.heap.size + 1, 0, none⟩) n n) ∧ wr.drew.cell? ⟨w.heap.size + 1 + 1 + 1, 2, none⟩ = some (.slice (some ⟨w.heap.size, 0, none⟩) n n) ∧ wr.drew.cell? ⟨w.heap.size + 1 + 1 + 1, 3, none⟩ = some (.slice (some ⟨w.heap.size + 1 + 1, 0, none⟩) n n) := ⟨c1, c2, c3⟩
        have HS1 := And.intro (M1.drew.st.cell (i := 1) (by omega)) (And.intro (M1.drew.st.cell (i := 2) (by omega)) (M1.drew.st.cell (i := 3) (by omega)))
        have HS2 := And.intro (M2.drew.st.cell (i := 1) (by omega)) (And.intro (M2.drew.st.cell (i := 2) (by omega)) (M2.drew.st.cell (i := 3) (by omega)))
        have HS3 := And.intro (M3.drew.st.cell (i := 1) (by omega)) (And.intro (M3.drew.st.cell (i := 2) (by omega)) (M3.drew.st.cell (i := 3) (by omega)))
        clear M1 M2 M3 HM
        simp only [natC] at e1 e3 e5
        go_wp2_with fail
        refine region_plain (fun w' => w'.cell? ⟨w.heap.size + 1 + 1 + 1, 1, none⟩ = some (.slice (some ⟨w.heap.size + 1, 0, none⟩) n n) ∧ w'.cell? ⟨w.heap.size + 1 + 1 + 1, 2, none⟩ = some (.slice (some ⟨w.heap.size, 0, none⟩) n n) ∧ w'.cell? ⟨w.heap.size + 1 + 1 + 1, 3, none⟩ = some (.slice (some ⟨w.heap.size + 1 + 1, 0, none⟩) n n)) (by kernel_rfl) ?_
        refine take_at (i := 0) (d := 29) (v := ?_) rfl rfl (by kernel_rfl) (by kernel_rfl) (by kernel_rfl) (fun _ _ _ _ => NormalOnly.any) rfl ?hy41 HS ?rest41
        case hy41 => intro w' hSw; (try dsimp only at hSw); go_simp; try (with_reducible rfl)
        try simp only [List.setIfInBounds_toArray, List.set_cons_zero, List.set_cons_succ]
        refine take_at (i := 1) (d := 30) (v := ?_) rfl rfl (by kernel_rfl) (by kernel_rfl) (by kernel_rfl) (fun _ _ _ _ => NormalOnly.any) rfl ?hy42 HS ?rest42
        case hy42 => intro w' hSw; (try dsimp only at hSw); go_simp; try (with_reducible rfl)
        try simp only [List.setIfInBounds_toArray, List.set_cons_zero, List.set_cons_succ]
        refine take_at (i := 2) (d := 31) (v := ?_) rfl rfl (by kernel_rfl) (by kernel_rfl) (by kernel_rfl) (fun _ _ _ _ => NormalOnly.any) rfl ?hy43 HS ?rest43
        case hy43 => intro w' hSw; (try dsimp only at hSw); go_simp; try (with_reducible rfl)
        try simp only [List.setIfInBounds_toArray, List.set_cons_zero, List.set_cons_succ]
        refine take_at (i := 3) (d := 32) (v := ?_) rfl rfl (by kernel_rfl) (by kernel_rfl) (by kernel_rfl) (fun _ _ _ _ => NormalOnly.any) rfl ?hy44 HS ?rest44
        case hy44 => intro w' hSw; (try dsimp only at hSw); go_simp; try (with_reducible rfl)
        try simp only [List.setIfInBounds_toArray, List.set_cons_zero, List.set_cons_succ]
        refine take_at (i := 4) (d := 33) (v := ?_) rfl rfl (by kernel_rfl) (by kernel_rfl) (by kernel_rfl) (fun _ _ _ _ => NormalOnly.any) rfl ?hy45 HS ?rest45
        case hy45 => intro w' hSw; (try dsimp only at hSw); go_simp; try (with_reducible rfl)
        try simp only [List.setIfInBounds_toArray, List.set_cons_zero, List.set_cons_succ]
        refine take_at (i := 5) (d := 34) (v := ?_) rfl rfl (by kernel_rfl) (by kernel_rfl) (by kernel_rfl) (fun _ _ _ _ => NormalOnly.any) rfl ?hy46 HS ?rest46
        case hy46 => intro w' hSw; (try dsimp only at hSw); go_simp; try (with_reducible rfl)
        try simp only [List.setIfInBounds_toArray, List.set_cons_zero, List.set_cons_succ]
        refine take_at (i := 6) (d := 35) (v := ?_) rfl rfl (by kernel_rfl) (by kernel_rfl) (by kernel_rfl) (fun _ _ _ _ => NormalOnly.any) rfl ?hy47 HS ?rest47
        case hy47 => intro w' hSw; (try dsimp only at hSw); go_simp; try (with_reducible rfl)
        try simp only [List.setIfInBounds_toArray, List.set_cons_zero, List.set_cons_succ]
        refine take_at (i := 7) (d := 36) (v := ?_) rfl rfl (by kernel_rfl) (by kernel_rfl) (by kernel_rfl) (fun _ _ _ _ => NormalOnly.any) rfl ?hy48 HS ?rest48
        case hy48 => intro w' hSw; (try dsimp only at hSw); go_simp; try (with_reducible rfl)
        try simp only [List.setIfInBounds_toArray, List.set_cons_zero, List.set_cons_succ]
        refine take_at (i := 8) (d := 37) (v := ?_) rfl rfl (by kernel_rfl) (by kernel_rfl) (by kernel_rfl) (fun _ _ _ _ => NormalOnly.any) rfl ?hy49 HS ?rest49
        case hy49 => intro w' hSw; (try dsimp only at hSw); go_simp; try (with_reducible rfl)
        try simp only [List.setIfInBounds_toArray, List.set_cons_zero, List.set_cons_succ]
        refine take_at (i := 9) (d := 38) (v := ?_) rfl rfl (by kernel_rfl) (by kernel_rfl) (by kernel_rfl) (fun _ _ _ _ => NormalOnly.any) rfl ?hy50 HS ?rest50
        case hy50 => intro w' hSw; (try dsimp only at hSw); go_simp; try (with_reducible rfl)
        try simp only [List.setIfInBounds_toArray, List.set_cons_zero, List.set_cons_succ]
        refine take_at (i := 10) (d := 39) (v := ?_) rfl rfl (by kernel_rfl) (by kernel_rfl) (by kernel_rfl) (fun _ _ _ _ => NormalOnly.any) rfl ?hy51 HS ?rest51
        case hy51 => intro w' hSw; (try dsimp only at hSw); go_simp; try (with_reducible rfl)
        try simp only [List.setIfInBounds_toArray, List.set_cons_zero, List.set_cons_succ]
        refine take_at (i := 11) (d := 40) (v := ?_) rfl rfl (by kernel_rfl) (by kernel_rfl) (by kernel_rfl) (fun _ _ _ _ => NormalOnly.any) rfl ?hy52 HS ?rest52
        case hy52 => intro w' hSw; (try dsimp only at hSw); go_simp; try (with_reducible rfl)
        try simp only [List.setIfInBounds_toArray, List.set_cons_zero, List.set_cons_succ]
        refine take_at (i := 12) (d := 41) (v := ?_) rfl rfl (by kernel_rfl) (by kernel_rfl) (by kernel_rfl) (fun _ _ _ _ => NormalOnly.any) rfl ?hy53 HS ?rest53
        case hy53 => intro w' hSw; (try dsimp only at hSw); go_simp; try (with_reducible rfl)
        try simp only [List.setIfInBounds_toArray, List.set_cons_zero, List.set_cons_succ]
        refine take_at (i := 13) (d := 42) (v := ?_) rfl rfl (by kernel_rfl) (by kernel_rfl) (by kernel_rfl) (fun _ _ _ _ => NormalOnly.any) rfl ?hy54 HS ?rest54
        case hy54 => intro w' hSw; (try dsimp only at hSw); go_simp; try (with_reducible rfl)
        try simp only [List.setIfInBounds_toArray, List.set_cons_zero, List.set_cons_succ]
        refine take_at (i := 14) (d := 43) (v := ?_) rfl rfl (by kernel_rfl) (by kernel_rfl) (by kernel_rfl) (fun _ _ _ _ => NormalOnly.any) rfl ?hy55 HS ?rest55
        case hy55 => intro w' hSw; (try dsimp only at hSw); go_simp; try (with_reducible rfl)
        try simp only [List.setIfInBounds_toArray, List.set_cons_zero, List.set_cons_succ]
        refine take_at (i := 15) (d := 44) (v := ?_) rfl rfl (by kernel_rfl) (by kernel_rfl) (by kernel_rfl) (fun _ _ _ _ => NormalOnly.any) rfl ?hy56 HS ?rest56
        case hy56 => intro w' hSw; (try dsimp only at hSw); go_simp; try (with_reducible rfl)
        try simp only [List.setIfInBounds_toArray, List.set_cons_zero, List.set_cons_succ]
        refine take_at (i := 16) (d := 45) (v := ?_) rfl rfl (by kernel_rfl) (by kernel_rfl) (by kernel_rfl) (fun _ _ _ _ => NormalOnly.any) rfl ?hy57 HS ?rest57
        case hy57 => intro w' hSw; (try dsimp only at hSw); go_simp; try (with_reducible rfl)
        try simp only [List.setIfInBounds_toArray, List.set_cons_zero, List.set_cons_succ]
        refine take_at (i := 17) (d := 46) (v := ?_) rfl rfl (by kernel_rfl) (by kernel_rfl) (by kernel_rfl) (fun _ _ _ _ => NormalOnly.any) rfl ?hy58 HS ?rest58
        case hy58 => intro w' hSw; (try dsimp only at hSw); go_simp; try (with_reducible rfl)
        try simp only [List.setIfInBounds_toArray, List.set_cons_zero, List.set_cons_succ]
        refine wpAnyH_ready (rs := [18]) (by kernel_rfl) (by simp) ?_
        refine AllReadyH.cons rfl (fun K hK => ?_) AllReadyH.nil
        go_simp
        refine hK.out _ _ HS1 (fun HS => ?_)
        clear hK
        refine take_at (i := 19) (d := 47) (v := ?_) rfl rfl (by kernel_rfl) (by kernel_rfl) (by kernel_rfl) (fun _ _ _ _ => NormalOnly.any) rfl ?hy59 HS ?rest59
        case hy59 => intro w' hSw; (try dsimp only at hSw); go_simp; try (with_reducible rfl)
        try simp only [List.setIfInBounds_toArray, List.set_cons_zero, List.set_cons_succ]
        refine wpAnyH_ready (rs := [20]) (by kernel_rfl) (by simp) ?_
        refine AllReadyH.cons rfl (fun K hK => ?_) AllReadyH.nil
        go_simp
        refine hK.out _ _ HS2 (fun HS => ?_)
        clear hK
        refine take_at (i := 21) (d := 48) (v := ?_) rfl rfl (by kernel_rfl) (by kernel_rfl) (by kernel_rfl) (fun _ _ _ _ => NormalOnly.any) rfl ?hy60 HS ?rest60
        case hy60 => intro w' hSw; (try dsimp only at hSw); go_simp; try (with_reducible rfl)
        try simp only [List.setIfInBounds_toArray, List.set_cons_zero, List.set_cons_succ]
        refine wpAnyH_ready (rs := [22]) (by kernel_rfl) (by simp) ?_
        refine AllReadyH.cons rfl (fun K hK => ?_) AllReadyH.nil
        go_simp
        refine hK.out _ _ HS3 (fun _ => ?_)
        clear hK
        refine wpAnyH_done (by kernel_rfl) ⟨rfl, ?_⟩ _
        go_wp2_with fail
        go_roundw
        case rel => exact ⟨k + 1, by omega, by go_num, HM3, HB3.out⟩
        case measure => simp only [intOf]; omega
      · have hke : k = n := by omega
        have HD : DS wr ⟨w.heap.size, wr.heap.size⟩ (w.heap.size + 1 + 1 + 1) n id := DS.widen (z := ⟨w.heap.size, w.heap.size + 1 + 1 + 1 + 1⟩) ⟨w.heap.size + 1, w.heap.size, w.heap.size + 1 + 1, id, id, fun _ => 1, fun _ => 0, 0, by
          rw [cntN_id]
          exact HM.out.congr (fun i hi => if_pos (by omega)) (fun i hi => if_pos (by omega)) (fun i hi => if_pos (by omega)), uf_id n, LabOk.id, fun i hi _ => ⟨rfl, (clsN_id hi).symm⟩⟩ (Nat.le_refl _) HM.out.size.1
        have HD := Lib.hid HD
        clear HM
        go_wp2_with fail
        go_ret2
        exact ⟨_, rfl, HD.out, bel⟩
  · obtain ⟨M, bel⟩ := dsu_made w n (w.heap.size + 1 + 1) (w.heap.size) (w.heap.size + 1) (by omega) (by omega) (by omega) (by omega) (by omega) (by omega)
    go_wp2_with fail
    generalize ((((w.alloc (.cells (madeCells #[.int .i64 0] n) 3)).alloc (.cells (madeCells #[.int .i64 0] n) 3)).alloc (.cells (madeCells #[.int .i64 0] n) 3)).alloc (.cells #[.pointer (some ⟨w.heap.size + 1 + 1 + 1, 0, none⟩), .slice (some ⟨w.heap.size + 1 + 1, 0, none⟩) n n, .slice (some ⟨w.heap.size, 0, none⟩) n n, .slice (some ⟨w.heap.size + 1, 0, none⟩) n n, .int .i64 (n : Nat)] 144)).drew = W at *
    have M0 := M.congr (up' := fun i => if i < 0 then i else 0) (ls' := fun i => if i < 0 then i else 0) (sz' := fun i => if i < 0 then 1 else 0) (fun i _ => by rw [if_neg (by omega)]) (fun i _ => by rw [if_neg (by omega)]) (fun i _ => by rw [if_neg (by omega)])
    clear hmk M
    go_loopw [26] (fun i wr => ∃ k : Nat, k ≤ n ∧ i = .int .i64 (k : Nat) ∧ Hid (DsM wr ⟨w.heap.size, w.heap.size + 1 + 1 + 1 + 1⟩ (w.heap.size + 1 + 1 + 1) (w.heap.size + 1 + 1) (w.heap.size) (w.heap.size + 1) n (fun i => if i < k then i else 0) (fun i => if i < k then i else 0) (fun i => if i < k then 1 else 0) n) ∧ Below w.heap.size w wr) (fun i _ => n - (intOf i).toNat)
    case atStart => exact ⟨0, Nat.zero_le _, rfl, Lib.hid M0, bel⟩
    case round =>
      clear M0 bel
      obtain ⟨k, hk, rfl, HM, bel⟩ := hrel
      by_cases hlt : k < n
      · have hki : (0 : Int) ≤ k ∧ (k : Int) < n := by omega
        have c1 : wr.cell? ⟨w.heap.size + 1 + 1 + 1, 1, none⟩ = some (.slice (some ⟨w.heap.size + 1 + 1, 0, none⟩) n n) := HM.out.st.cell (i := 1) (by omega)
        have c2 : wr.cell? ⟨w.heap.size + 1 + 1 + 1, 2, none⟩ = some (.slice (some ⟨w.heap.size, 0, none⟩) n n) := HM.out.st.cell (i := 2) (by omega)
        have c3 : wr.cell? ⟨w.heap.size + 1 + 1 + 1, 3, none⟩ = some (.slice (some ⟨w.heap.size + 1, 0, none⟩) n n) := HM.out.st.cell (i := 3) (by omega)
        have M1 := HM.out.setUp k k
        have M2 := M1.setLs k k
        have M3 := M2.setSz k 1
        have e1 := HM.out.rup.cell hlt
        have e2 := HM.out.rup.frozen k
        have e3 := M1.rls.cell hlt
        have e4 := M1.rls.frozen k
        have e5 := M2.rsz.cell hlt
        have e6 := M2.rsz.frozen k
        have HM3 := Lib.hid (M3.drew.congr (up' := fun i => if i < k + 1 then i else 0) (ls' := fun i => if i < k + 1 then i else 0) (sz' := fun i => if i < k + 1 then 1 else 0) (fun i _ => stp_a k i) (fun i _ => stp_a k i) (fun i _ => stp_b k i))
        have HB3 := Lib.hid ((((bel.setCell (p := ⟨w.heap.size + 1 + 1, k, none⟩) HM.out.lo.2.1.1 (.int .i64 (k : Nat))).setCell (p := ⟨w.heap.size, k, none⟩) HM.out.lo.2.2.1.1 (.int .i64 (k : Nat))).setCell (p := ⟨w.heap.size + 1, k, none⟩) HM.out.lo.2.2.2.1 (.int .i64 ((1 : Nat) : Int))).drew)
        have HS : wr.drew.cell? ⟨w.heap.size + 1 + 1 + 1, 1, none⟩ = some (.slice (some ⟨w.heap.size + 1 + 1, 0, none⟩) n n) ∧ wr.drew.cell? ⟨w.heap.size + 1 + 1 + 1, 2, none⟩ = some (.slice (some ⟨w.heap.size, 0, none⟩) n n) ∧ wr.drew.cell? ⟨w.heap.size + 1 + 1 + 1, 3, none⟩ = some (.slice (some ⟨w.heap.size + 1, 0, none⟩) n n) := ⟨c1, c2, c3⟩
        have HS1 := And.intro (M1.drew.st.cell (i := 1) (by omega)) (And.intro (M1.drew.st.cell (i := 2) (by omega)) (M1.drew.st.cell (i := 3) (by omega)))
        have HS2 := And.intro (M2.drew.st.cell (i := 1) (by omega)) (And.intro (M2.drew.st.cell (i := 2) (by omega)) (M2.drew.st.cell (i := 3) (by omega)))
        have HS3 := And.intro (M3.drew.st.cell (i := 1) (by omega)) (And.intro (M3.drew.st.cell (i := 2) (by omega)) (M3.drew.st.cell (i := 3) (by omega)))
        clear M1 M2 M3 HM
        simp only [natC] at e1 e3 e5
        go_wp2_with fail
        refine region_plain (fun w' => w'.cell? ⟨w.heap.size + 1 + 1 + 1, 1, none⟩ = some (.slice (some ⟨w.heap.size + 1 + 1, 0, none⟩) n n) ∧ w'.cell? ⟨w.heap.size + 1 + 1 + 1, 2, none⟩ = some (.slice (some ⟨w.heap.size, 0, none⟩) n n) ∧ w'.cell? ⟨w.heap.size + 1 + 1 + 1, 3, none⟩ = some (.slice (some ⟨w.heap.size + 1, 0, none⟩) n n)) (by kernel_rfl) ?_
        refine take_at (i := 0) (d := 29) (v := ?_) rfl rfl (by kernel_rfl) (by kernel_rfl) (by kernel_rfl) (fun _ _ _ _ => NormalOnly.any) rfl ?hy61 HS ?rest61
        case hy61 => intro w' hSw; (try dsimp only at hSw); go_simp; try (with_reducible rfl)
        try simp only [List.setIfInBounds_toArray, List.set_cons_zero, List.set_cons_succ]
        refine take_at (i := 1) (d := 30) (v := ?_) rfl rfl (by kernel_rfl) (by kernel_rfl) (by kernel_rfl) (fun _ _ _ _ => NormalOnly.any) rfl ?hy62 HS ?rest62
        case hy62 => intro w' hSw; (try dsimp only at hSw); go_simp; try (with_reducible rfl)
        try simp only [List.setIfInBounds_toArray, List.set_cons_zero, List.set_cons_succ]
        refine take_at (i := 2) (d := 31) (v := ?_) rfl rfl (by kernel_rfl) (by kernel_rfl) (by kernel_rfl) (fun _ _ _ _ => NormalOnly.any) rfl ?hy63 HS ?rest63
        case hy63 => intro w' hSw; (try dsimp only at hSw); go_simp; try (with_reducible rfl)
        try simp only [List.setIfInBounds_toArray, List.set_cons_zero, List.set_cons_succ]
        refine take_at (i := 3) (d := 32) (v := ?_) rfl rfl (by kernel_rfl) (by kernel_rfl) (by kernel_rfl) (fun _ _ _ _ => NormalOnly.any) rfl ?hy64 HS ?rest64
        case hy64 => intro w' hSw; (try dsimp only at hSw); go_simp; try (with_reducible rfl)
        try simp only [List.setIfInBounds_toArray, List.set_cons_zero, List.set_cons_succ]
        refine take_at (i := 4) (d := 33) (v := ?_) rfl rfl (by kernel_rfl) (by kernel_rfl) (by kernel_rfl) (fun _ _ _ _ => NormalOnly.any) rfl ?hy65 HS ?rest65
        case hy65 => intro w' hSw; (try dsimp only at hSw); go_simp; try (with_reducible rfl)
        try simp only [List.setIfInBounds_toArray, List.set_cons_zero, List.set_cons_succ]
        refine take_at (i := 5) (d := 34) (v := ?_) rfl rfl (by kernel_rfl) (by kernel_rfl) (by kernel_rfl) (fun _ _ _ _ => NormalOnly.any) rfl ?hy66 HS ?rest66
        case hy66 => intro w' hSw; (try dsimp only at hSw); go_simp; try (with_reducible rfl)
        try simp only [List.setIfInBounds_toArray, List.set_cons_zero, List.set_cons_succ]
        refine take_at (i := 6) (d := 35) (v := ?_) rfl rfl (by kernel_rfl) (by kernel_rfl) (by kernel_rfl) (fun _ _ _ _ => NormalOnly.any) rfl ?hy67 HS ?rest67
        case hy67 => intro w' hSw; (try dsimp only at hSw); go_simp; try (with_reducible rfl)
        try simp only [List.setIfInBounds_toArray, List.set_cons_zero, List.set_cons_succ]
        refine take_at (i := 7) (d := 36) (v := ?_) rfl rfl (by kernel_rfl) (by kernel_rfl) (by kernel_rfl) (fun _ _ _ _ => NormalOnly.any) rfl ?hy68 HS ?rest68
        case hy68 => intro w' hSw; (try dsimp only at hSw); go_simp; try (with_reducible rfl)
        try simp only [List.setIfInBounds_toArray, List.set_cons_zero, List.set_cons_succ]
        refine take_at (i := 8) (d := 37) (v := ?_) rfl rfl (by kernel_rfl) (by kernel_rfl) (by kernel_rfl) (fun _ _ _ _ => NormalOnly.any) rfl ?hy69 HS ?rest69
        case hy69 => intro w' hSw; (try dsimp only at hSw); go_simp; try (with_reducible rfl)
        try simp only [List.setIfInBounds_toArray, List.set_cons_zero, List.set_cons_succ]
        refine take_at (i := 9) (d := 38) (v := ?_) rfl rfl (by kernel_rfl) (by kernel_rfl) (by kernel_rfl) (fun _ _ _ _ => NormalOnly.any) rfl ?hy70 HS ?rest70
        case hy70 => intro w' hSw; (try dsimp only at hSw); go_simp; try (with_reducible rfl)
        try simp only [List.setIfInBounds_toArray, List.set_cons_zero, List.set_cons_succ]
        refine take_at (i := 10) (d := 39) (v := ?_) rfl rfl (by kernel_rfl) (by kernel_rfl) (by kernel_rfl) (fun _ _ _ _ => NormalOnly.any) rfl ?hy71 HS ?rest71
        case hy71 => intro w' hSw; (try dsimp only at hSw); go_simp; try (with_reducible rfl)
        try simp only [List.setIfInBounds_toArray, List.set_cons_zero, List.set_cons_succ]
        refine take_at (i := 11) (d := 40) (v := ?_) rfl rfl (by kernel_rfl) (by kernel_rfl) (by kernel_rfl) (fun _ _ _ _ => NormalOnly.any) rfl ?hy72 HS ?rest72
        case hy72 => intro w' hSw; (try dsimp only at hSw); go_simp; try (with_reducible rfl)
        try simp only [List.setIfInBounds_toArray, List.set_cons_zero, List.set_cons_succ]
        refine take_at (i := 12) (d := 41) (v := ?_) rfl rfl (by kernel_rfl) (by kernel_rfl) (by kernel_rfl) (fun _ _ _ _ => NormalOnly.any) rfl ?hy73 HS ?rest73
        case hy73 => intro w' hSw; (try dsimp only at hSw); go_simp; try (with_reducible rfl)
        try simp only [List.setIfInBounds_toArray, List.set_cons_zero, List.set_cons_succ]
        refine take_at (i := 13) (d := 42) (v := ?_) rfl rfl (by kernel_rfl) (by kernel_rfl) (by kernel_rfl) (fun _ _ _ _ => NormalOnly.any) rfl ?hy74 HS ?rest74
        case hy74 => intro w' hSw; (try dsimp only at hSw); go_simp; try (with_reducible rfl)
        try simp only [List.setIfInBounds_toArray, List.set_cons_zero, List.set_cons_succ]
        refine take_at (i := 14) (d := 43) (v := ?_) rfl rfl (by kernel_rfl) (by kernel_rfl) (by kernel_rfl) (fun _ _ _ _ => NormalOnly.any) rfl ?hy75 HS ?rest75
        case hy75 => intro w' hSw; (try dsimp only at hSw); go_simp; try (with_reducible rfl)
        try simp only [List.setIfInBounds_toArray, List.set_cons_zero, List.set_cons_succ]
        refine take_at (i := 15) (d := 44) (v := ?_) rfl rfl (by kernel_rfl) (by kernel_rfl) (by kernel_rfl) (fun _ _ _ _ => NormalOnly.any) rfl ?hy76 HS ?rest76
        case hy76 => intro w' hSw; (try dsimp only at hSw); go_simp; try (with_reducible rfl)
        try simp only [List.setIfInBounds_toArray, List.set_cons_zero, List.set_cons_succ]
        refine take_at (i := 16) (d := 45) (v := ?_) rfl rfl (by kernel_rfl) (by kernel_rfl) (by kernel_rfl) (fun _ _ _ _ => NormalOnly.any) rfl ?hy77 HS ?rest77
        case hy77 => intro w' hSw; (try dsimp only at hSw); go_simp; try (with_reducible rfl)
        try simp only [List.setIfInBounds_toArray, List.set_cons_zero, List.set_cons_succ]
        refine take_at (i := 17) (d := 46) (v := ?_) rfl rfl (by kernel_rfl) (by kernel_rfl) (by kernel_rfl) (fun _ _ _ _ => NormalOnly.any) rfl ?hy78 HS ?rest78
        case hy78 => intro w' hSw; (try dsimp only at hSw); go_simp; try (with_reducible rfl)
        try simp only [List.setIfInBounds_toArray, List.set_cons_zero, List.set_cons_succ]
        refine wpAnyH_ready (rs := [18]) (by kernel_rfl) (by simp) ?_
        refine AllReadyH.cons rfl (fun K hK => ?_) AllReadyH.nil
        go_simp
        refine hK.out _ _ HS1 (fun HS => ?_)
        clear hK
        refine take_at (i := 19) (d := 47) (v := ?_) rfl rfl (by kernel_rfl) (by kernel_rfl) (by kernel_rfl) (fun _ _ _ _ => NormalOnly.any) rfl ?hy79 HS ?rest79
        case hy79 => intro w' hSw; (try dsimp only at hSw); go_simp; try (with_reducible rfl)
        try simp only [List.setIfInBounds_toArray, List.set_cons_zero, List.set_cons_succ]
        refine wpAnyH_ready (rs := [20]) (by kernel_rfl) (by simp) ?_
        refine AllReadyH.cons rfl (fun K hK => ?_) AllReadyH.nil
        go_simp
        refine hK.out _ _ HS2 (fun HS => ?_)
        clear hK
        refine take_at (i := 21) (d := 48) (v := ?_) rfl rfl (by kernel_rfl) (by kernel_rfl) (by kernel_rfl) (fun _ _ _ _ => NormalOnly.any) rfl ?hy80 HS ?rest80
        case hy80 => intro w' hSw; (try dsimp only at hSw); go_simp; try (with_reducible rfl)
        try simp only [List.setIfInBounds_toArray, List.set_cons_zero, List.set_cons_succ]
        refine wpAnyH_ready (rs := [22]) (by kernel_rfl) (by simp) ?_
        refine AllReadyH.cons rfl (fun K hK => ?_) AllReadyH.nil
        go_simp
        refine hK.out _ _ HS3 (fun _ => ?_)
        clear hK
        refine wpAnyH_done (by kernel_rfl) ⟨rfl, ?_⟩ _
        go_wp2_with fail
        go_roundw
        case rel => exact ⟨k + 1, by omega, by go_num, HM3, HB3.out⟩
        case measure => simp only [intOf]; omega
      · have hke : k = n := by omega
        have HD : DS wr ⟨w.heap.size, wr.heap.size⟩ (w.heap.size + 1 + 1 + 1) n id := DS.widen (z := ⟨w.heap.size, w.heap.size + 1 + 1 + 1 + 1⟩) ⟨w.heap.size + 1 + 1, w.heap.size, w.heap.size + 1, id, id, fun _ => 1, fun _ => 0, 0, by
          rw [cntN_id]
          exact HM.out.congr (fun i hi => if_pos (by omega)) (fun i hi => if_pos (by omega)) (fun i hi => if_pos (by omega)), uf_id n, LabOk.id, fun i hi _ => ⟨rfl, (clsN_id hi).symm⟩⟩ (Nat.le_refl _) HM.out.size.1
        have HD := Lib.hid HD
        clear HM
        go_wp2_with fail
        go_ret2
        exact ⟨_, rfl, HD.out, bel⟩
  · obtain ⟨M, bel⟩ := dsu_made w n (w.heap.size + 1) (w.heap.size + 1 + 1) (w.heap.size) (by omega) (by omega) (by omega) (by omega) (by omega) (by omega)
    go_wp2_with fail
    generalize ((((w.alloc (.cells (madeCells #[.int .i64 0] n) 3)).alloc (.cells (madeCells #[.int .i64 0] n) 3)).alloc (.cells (madeCells #[.int .i64 0] n) 3)).alloc (.cells #[.pointer (some ⟨w.heap.size + 1 + 1 + 1, 0, none⟩), .slice (some ⟨w.heap.size + 1, 0, none⟩) n n, .slice (some ⟨w.heap.size + 1 + 1, 0, none⟩) n n, .slice (some ⟨w.heap.size, 0, none⟩) n n, .int .i64 (n : Nat)] 144)).drew = W at *
    have M0 := M.congr (up' := fun i => if i < 0 then i else 0) (ls' := fun i => if i < 0 then i else 0) (sz' := fun i => if i < 0 then 1 else 0) (fun i _ => by rw [if_neg (by omega)]) (fun i _ => by rw [if_neg (by omega)]) (fun i _ => by rw [if_neg (by omega)])
    clear hmk M
    go_loopw [26] (fun i wr => ∃ k : Nat, k ≤ n ∧ i = .int .i64 (k : Nat) ∧ Hid (DsM wr ⟨w.heap.size, w.heap.size + 1 + 1 + 1 + 1⟩ (w.heap.size + 1 + 1 + 1) (w.heap.size + 1) (w.heap.size + 1 + 1) (w.heap.size) n (fun i => if i < k then i else 0) (fun i => if i < k then i else 0) (fun i => if i < k then 1 else 0) n) ∧ Below w.heap.size w wr) (fun i _ => n - (intOf i).toNat)
    case atStart => exact ⟨0, Nat.zero_le _, rfl, Lib.hid M0, bel⟩
    case round =>
      clear M0 bel
      obtain ⟨k, hk, rfl, HM, bel⟩ := hrel
      by_cases hlt : k < n
      · have hki : (0 : Int) ≤ k ∧ (k : Int) < n := by omega
        have c1 : wr.cell? ⟨w.heap.size + 1 + 1 + 1, 1, none⟩ = some (.slice (some ⟨w.heap.size + 1, 0, none⟩) n n) := HM.out.st.cell (i := 1) (by omega)
        have c2 : wr.cell? ⟨w.heap.size + 1 + 1 + 1, 2, none⟩ = some (.slice (some ⟨w.heap.size + 1 + 1, 0, none⟩) n n) := HM.out.st.cell (i := 2) (by omega)
        have c3 : wr.cell? ⟨w.heap.size + 1 + 1 + 1, 3, none⟩ = some (.slice (some ⟨w.heap.size, 0, none⟩) n n) := HM.out.st.cell (i := 3) (by omega)
        have M1 := HM.out.setUp k k
        have M2 := M1.setLs k k
        have M3 := M2.setSz k 1
        have e1 := HM.out.rup.cell hlt
        have e2 := HM.out.rup.frozen k
        have e3 := M1.rls.cell hlt
        have e4 := M1.rls.frozen k
        have e5 := M2.rsz.cell hlt
        have e6 := M2.rsz.frozen k
        have HM3 := Lib.hid (M3.drew.congr (up' := fun i => if i < k + 1 then i else 0) (ls' := fun i => if i < k + 1 then i else 0) (sz' := fun i => if i < k + 1 then 1 else 0) (fun i _ => stp_a k i) (fun i _ => stp_a k i) (fun i _ => stp_b k i))
        have HB3 := Lib.hid ((((bel.setCell (p := ⟨w.heap.size + 1, k, none⟩) HM.out.lo.2.1.1 (.int .i64 (k : Nat))).setCell (p := ⟨w.heap.size + 1 + 1, k, none⟩) HM.out.lo.2.2.1.1 (.int .i64 (k : Nat))).setCell (p := ⟨w.heap.size, k, none⟩) HM.out.lo.2.2.2.1 (.int .i64 ((1 : Nat) : Int))).drew)
        have HS : wr.drew.cell? ⟨w.heap.size + 1 + 1 + 1, 1, none⟩ = some (.slice (some ⟨w.heap.size + 1, 0, none⟩) n n) ∧ wr.drew.cell? ⟨w.heap.size + 1 + 1 + 1, 2, none⟩ = some (.slice (some ⟨w.heap.size + 1 + 1, 0, none⟩) n n) ∧ wr.drew.cell? ⟨w.heap.size + 1 + 1 + 1, 3, none⟩ = some (.slice (some ⟨w.heap.size, 0, none⟩) n n) := ⟨c1, c2, c3⟩
        have HS1 := And.intro (M1.drew.st.cell (i := 1) (by omega)) (And.intro (M1.drew.st.cell (i := 2) (by omega)) (M1.drew.st.cell (i := 3) (by omega)))
        have HS2 := And.intro (M2.drew.st.cell (i := 1) (by omega)) (And.intro (M2.drew.st.cell (i := 2) (by omega)) (M2.drew.st.cell (i := 3) (by omega)))
        have HS3 := And.intro (M3.drew.st.cell (i := 1) (by omega)) (And.intro (M3.drew.st.cell (i := 2) (by omega)) (M3.drew.st.cell (i := 3) (by omega)))
        clear M1 M2 M3 HM
        simp only [natC] at e1 e3 e5
        go_wp2_with fail
        refine region_plain (fun w' => w'.cell? ⟨w.heap.size + 1 + 1 + 1, 1, none⟩ = some (.slice (some ⟨w.heap.size + 1, 0, none⟩) n n) ∧ w'.cell? ⟨w.heap.size + 1 + 1 + 1, 2, none⟩ = some (.slice (some ⟨w.heap.size + 1 + 1, 0, none⟩) n n) ∧ w'.cell? ⟨w.heap.size + 1 + 1 + 1, 3, none⟩ = some (.slice (some ⟨w.heap.size, 0, none⟩) n n)) (by kernel_rfl) ?_
        refine take_at (i := 0) (d := 29) (v := ?_) rfl rfl (by kernel_rfl) (by kernel_rfl) (by kernel_rfl) (fun _ _ _ _ => NormalOnly.any) rfl ?hy81 HS ?rest81
        case hy81 => intro w' hSw; (try dsimp only at hSw); go_simp; try (with_reducible rfl)
        try simp only [List.setIfInBounds_toArray, List.set_cons_zero, List.set_cons_succ]
        refine take_at (i := 1) (d := 30) (v := ?_) rfl rfl (by kernel_rfl) (by kernel_rfl) (by kernel_rfl) (fun _ _ _ _ => NormalOnly.any) rfl ?hy82 HS ?rest82
        case hy82 => intro w' hSw; (try dsimp only at hSw); go_simp; try (with_reducible rfl)
        try simp only [List.setIfInBounds_toArray, List.set_cons_zero, List.set_cons_succ]
        refine take_at (i := 2) (d := 31) (v := ?_) rfl rfl (by kernel_rfl) (by kernel_rfl) (by kernel_rfl) (fun _ _ _ _ => NormalOnly.any) rfl ?hy83 HS ?rest83
        case hy83 => intro w' hSw; (try dsimp only at hSw); go_simp; try (with_reducible rfl)
        try simp only [List.setIfInBounds_toArray, List.set_cons_zero, List.set_cons_succ]
        refine take_at (i := 3) (d := 32) (v := ?_) rfl rfl (by kernel_rfl) (by kernel_rfl) (by kernel_rfl) (fun _ _ _ _ => NormalOnly.any) rfl ?hy84 HS ?rest84
        case hy84 => intro w' hSw; (try dsimp only at hSw); go_simp; try (with_reducible rfl)
        try simp only [List.setIfInBounds_toArray, List.set_cons_zero, List.set_cons_succ]
        refine take_at (i := 4) (d := 33) (v := ?_) rfl rfl (by kernel_rfl) (by kernel_rfl) (by kernel_rfl) (fun _ _ _ _ => NormalOnly.any) rfl ?hy85 HS ?rest85
        case hy85 => intro w' hSw; (try dsimp only at hSw); go_simp; try (with_reducible rfl)
        try simp only [List.setIfInBounds_toArray, List.set_cons_zero, List.set_cons_succ]
        refine take_at (i := 5) (d := 34) (v := ?_) rfl rfl (by kernel_rfl) (by kernel_rfl) (by kernel_rfl) (fun _ _ _ _ => NormalOnly.any) rfl ?hy86 HS ?rest86
        case hy86 => intro w' hSw; (try dsimp only at hSw); go_simp; try (with_reducible rfl)
        try simp only [List.setIfInBounds_toArray, List.set_cons_zero, List.set_cons_succ]
        refine take_at (i := 6) (d := 35) (v := ?_) rfl rfl (by kernel_rfl) (by kernel_rfl) (by kernel_rfl) (fun _ _ _ _ => NormalOnly.any) rfl ?hy87 HS ?rest87
        case hy87 => intro w' hSw; (try dsimp only at hSw); go_simp; try (with_reducible rfl)
        try simp only [List.setIfInBounds_toArray, List.set_cons_zero, List.set_cons_succ]
        refine take_at (i := 7) (d := 36) (v := ?_) rfl rfl (by kernel_rfl) (by kernel_rfl) (by kernel_rfl) (fun _ _ _ _ => NormalOnly.any) rfl ?hy88 HS ?rest88
        case hy88 => intro w' hSw; (try dsimp only at hSw); go_simp; try (with_reducible rfl)
        try simp only [List.setIfInBounds_toArray, List.set_cons_zero, List.set_cons_succ]
        refine take_at (i := 8) (d := 37) (v := ?_) rfl rfl (by kernel_rfl) (by kernel_rfl) (by kernel_rfl) (fun _ _ _ _ => NormalOnly.any) rfl ?hy89 HS ?rest89
        case hy89 => intro w' hSw; (try dsimp only at hSw); go_simp; try (with_reducible rfl)
        try simp only [List.setIfInBounds_toArray, List.set_cons_zero, List.set_cons_succ]
        refine take_at (i := 9) (d := 38) (v := ?_) rfl rfl (by kernel_rfl) (by kernel_rfl) (by kernel_rfl) (fun _ _ _ _ => NormalOnly.any) rfl ?hy90 HS ?rest90
        case hy90 => intro w' hSw; (try dsimp only at hSw); go_simp; try (with_reducible rfl)
        try simp only [List.setIfInBounds_toArray, List.set_cons_zero, List.set_cons_succ]
        refine take_at (i := 10) (d := 39) (v := ?_) rfl rfl (by kernel_rfl) (by kernel_rfl) (by kernel_rfl) (fun _ _ _ _ => NormalOnly.any) rfl ?hy91 HS ?rest91
        case hy91 => intro w' hSw; (try dsimp only at hSw); go_simp; try (with_reducible rfl)
        try simp only [List.setIfInBounds_toArray, List.set_cons_zero, List.set_cons_succ]
        refine take_at (i := 11) (d := 40) (v := ?_) rfl rfl (by kernel_rfl) (by kernel_rfl) (by kernel_rfl) (fun _ _ _ _ => NormalOnly.any) rfl ?hy92 HS ?rest92
        case hy92 => intro w' hSw; (try dsimp only at hSw); go_simp; try (with_reducible rfl)
        try simp only [List.setIfInBounds_toArray, List.set_cons_zero, List.set_cons_succ]
        refine take_at (i := 12) (d := 41) (v := ?_) rfl rfl (by kernel_rfl) (by kernel_rfl) (by kernel_rfl) (fun _ _ _ _ => NormalOnly.any) rfl ?hy93 HS ?rest93
        case hy93 => intro w' hSw; (try dsimp only at hSw); go_simp; try (with_reducible rfl)
        try simp only [List.setIfInBounds_toArray, List.set_cons_zero, List.set_cons_succ]
        refine take_at (i := 13) (d := 42) (v := ?_) rfl rfl (by kernel_rfl) (by kernel_rfl) (by kernel_rfl) (fun _ _ _ _ => NormalOnly.any) rfl ?hy94 HS ?rest94
        case hy94 => intro w' hSw; (try dsimp only at hSw); go_simp; try (with_reducible rfl)
        try simp only [List.setIfInBounds_toArray, List.set_cons_zero, List.set_cons_succ]
        refine take_at (i := 14) (d := 43) (v := ?_) rfl rfl (by kernel_rfl) (by kernel_rfl) (by kernel_rfl) (fun _ _ _ _ => NormalOnly.any) rfl ?hy95 HS ?rest95
        case hy95 => intro w' hSw; (try dsimp only at hSw); go_simp; try (with_reducible rfl)
        try simp only [List.setIfInBounds_toArray, List.set_cons_zero, List.set_cons_succ]
        refine take_at (i := 15) (d := 44) (v := ?_) rfl rfl (by kernel_rfl) (by kernel_rfl) (by kernel_rfl) (fun _ _ _ _ => NormalOnly.any) rfl ?hy96 HS ?rest96
        case hy96 => intro w' hSw; (try dsimp only at hSw); go_simp; try (with_reducible rfl)
        try simp only [List.setIfInBounds_toArray, List.set_cons_zero, List.set_cons_succ]
        refine take_at (i := 16) (d := 45) (v := ?_) rfl rfl (by kernel_rfl) (by kernel_rfl) (by kernel_rfl) (fun _ _ _ _ => NormalOnly.any) rfl ?hy97 HS ?rest97
        case hy97 => intro w' hSw; (try dsimp only at hSw); go_simp; try (with_reducible rfl)
        try simp only [List.setIfInBounds_toArray, List.set_cons_zero, List.set_cons_succ]
        refine take_at (i := 17) (d := 46) (v := ?_) rfl rfl (by kernel_rfl) (by kernel_rfl) (by kernel_rfl) (fun _ _ _ _ => NormalOnly.any) rfl ?hy98 HS ?rest98
        case hy98 => intro w' hSw; (try dsimp only at hSw); go_simp; try (with_reducible rfl)
        try simp only [List.setIfInBounds_toArray, List.set_cons_zero, List.set_cons_succ]
        refine wpAnyH_ready (rs := [18]) (by kernel_rfl) (by simp) ?_
        refine AllReadyH.cons rfl (fun K hK => ?_) AllReadyH.nil
        go_simp
        refine hK.out _ _ HS1 (fun HS => ?_)
        clear hK
        refine take_at (i := 19) (d := 47) (v := ?_) rfl rfl (by kernel_rfl) (by kernel_rfl) (by kernel_rfl) (fun _ _ _ _ => NormalOnly.any) rfl ?hy99 HS ?rest99
        case hy99 => intro w' hSw; (try dsimp only at hSw); go_simp; try (with_reducible rfl)
        try simp only [List.setIfInBounds_toArray, List.set_cons_zero, List.set_cons_succ]
        refine wpAnyH_ready (rs := [20]) (by kernel_rfl) (by simp) ?_
        refine AllReadyH.cons rfl (fun K hK => ?_) AllReadyH.nil
        go_simp
        refine hK.out _ _ HS2 (fun HS => ?_)
        clear hK
        refine take_at (i := 21) (d := 48) (v := ?_) rfl rfl (by kernel_rfl) (by kernel_rfl) (by kernel_rfl) (fun _ _ _ _ => NormalOnly.any) rfl ?hy100 HS ?rest100
        case hy100 => intro w' hSw; (try dsimp only at hSw); go_simp; try (with_reducible rfl)
        try simp only [List.setIfInBounds_toArray, List.set_cons_zero, List.set_cons_succ]
        refine wpAnyH_ready (rs := [22]) (by kernel_rfl) (by simp) ?_
        refine AllReadyH.cons rfl (fun K hK => ?_) AllReadyH.nil
        go_simp
        refine hK.out _ _ HS3 (fun _ => ?_)
        clear hK
        refine wpAnyH_done (by kernel_rfl) ⟨rfl, ?_⟩ _
        go_wp2_with fail
        go_roundw
        case rel => exact ⟨k + 1, by omega, by go_num, HM3, HB3.out⟩
        case measure => simp only [intOf]; omega
      · have hke : k = n := by omega
        have HD : DS wr ⟨w.heap.size, wr.heap.size⟩ (w.heap.size + 1 + 1 + 1) n id := DS.widen (z := ⟨w.heap.size, w.heap.size + 1 + 1 + 1 + 1⟩) ⟨w.heap.size + 1, w.heap.size + 1 + 1, w.heap.size, id, id, fun _ => 1, fun _ => 0, 0, by
          rw [cntN_id]
          exact HM.out.congr (fun i hi => if_pos (by omega)) (fun i hi => if_pos (by omega)) (fun i hi => if_pos (by omega)), uf_id n, LabOk.id, fun i hi _ => ⟨rfl, (clsN_id hi).symm⟩⟩ (Nat.le_refl _) HM.out.size.1
        have HD := Lib.hid HD
        clear HM
        go_wp2_with fail
        go_ret2
        exact ⟨_, rfl, HD.out, bel⟩
  · obtain ⟨M, bel⟩ := dsu_made w n (w.heap.size + 1 + 1) (w.heap.size + 1) (w.heap.size) (by omega) (by omega) (by omega) (by omega) (by omega) (by omega)
    go_wp2_with fail
    generalize ((((w.alloc (.cells (madeCells #[.int .i64 0] n) 3)).alloc (.cells (madeCells #[.int .i64 0] n) 3)).alloc (.cells (madeCells #[.int .i64 0] n) 3)).alloc (.cells #[.pointer (some ⟨w.heap.size + 1 + 1 + 1, 0, none⟩), .slice (some ⟨w.heap.size + 1 + 1, 0, none⟩) n n, .slice (some ⟨w.heap.size + 1, 0, none⟩) n n, .slice (some ⟨w.heap.size, 0, none⟩) n n, .int .i64 (n : Nat)] 144)).drew = W at *
    have M0 := M.congr (up' := fun i => if i < 0 then i else 0) (ls' := fun i => if i < 0 then i else 0) (sz' := fun i => if i < 0 then 1 else 0) (fun i _ => by rw [if_neg (by omega)]) (fun i _ => by rw [if_neg (by omega)]) (fun i _ => by rw [if_neg (by omega)])
    clear hmk M
    go_loopw [26] (fun i wr => ∃ k : Nat, k ≤ n ∧ i = .int .i64 (k : Nat) ∧ Hid (DsM wr ⟨w.heap.size, w.heap.size + 1 + 1 + 1 + 1⟩ (w.heap.size + 1 + 1 + 1) (w.heap.size + 1 + 1) (w.heap.size + 1) (w.heap.size) n (fun i => if i < k then i else 0) (fun i => if i < k then i else 0) (fun i => if i < k then 1 else 0) n) ∧ Below w.heap.size w wr) (fun i _ => n - (intOf i).toNat)
    case atStart => exact ⟨0, Nat.zero_le _, rfl, Lib.hid M0, bel⟩
    case round =>
      clear M0 bel
      obtain ⟨k, hk, rfl, HM, bel⟩ := hrel
      by_cases hlt : k < n
      · have hki : (0 : Int) ≤ k ∧ (k : Int) < n := by omega
        have c1 : wr.cell? ⟨w.heap.size + 1 + 1 + 1, 1, none⟩ = some (.slice (some ⟨w.heap.size + 1 + 1, 0, none⟩) n n) := HM.out.st.cell (i := 1) (by omega)
        have c2 : wr.cell? ⟨w.heap.size + 1 + 1 + 1, 2, none⟩ = some (.slice (some ⟨w.heap.size + 1, 0, none⟩) n n) := HM.out.st.cell (i := 2) (by omega)
        have c3 : wr.cell? ⟨w.heap.size + 1 + 1 + 1, 3, none⟩ = some (.slice (some ⟨w.heap.size, 0, none⟩) n n) := HM.out.st.cell (i := 3) (by omega)
        have M1 := HM.out.setUp k k
        have M2 := M1.setLs k k
        have M3 := M2.setSz k 1
        have e1 := HM.out.rup.cell hlt
        have e2 := HM.out.rup.frozen k
        have e3 := M1.rls.cell hlt
        have e4 := M1.rls.frozen k
        have e5 := M2.rsz.cell hlt
        have e6 := M2.rsz.frozen k
        have HM3 := Lib.hid (M3.drew.congr (up' := fun i => if i < k + 1 then i else 0) (ls' := fun i => if i < k + 1 then i else 0) (sz' := fun i => if i < k + 1 then 1 else 0) (fun i _ => stp_a k i) (fun i _ => stp_a k i) (fun i _ => stp_b k i))
        have HB3 := Lib.hid ((((bel.setCell (p := ⟨w.heap.size + 1 + 1, k, none⟩) HM.out.lo.2.1.1 (.int .i64 (k : Nat))).setCell (p := ⟨w.heap.size + 1, k, none⟩) HM.out.lo.2.2.1.1 (.int .i64 (k : Nat))).setCell (p := ⟨w.heap.size, k, none⟩) HM.out.lo.2.2.2.1 (.int .i64 ((1 : Nat) : Int))).drew)
        have HS : wr.drew.cell? ⟨w.heap.size + 1 + 1 + 1, 1, none⟩ = some (.slice (some ⟨w.heap.size + 1 + 1, 0, none⟩) n n) ∧ wr.drew.cell? ⟨w.heap.size + 1 + 1 + 1, 2, none⟩ = some (.slice (some ⟨w.heap.size + 1, 0, none⟩) n n) ∧ wr.drew.cell? ⟨w.heap.size + 1 + 1 + 1, 3, none⟩ = some (.slice (some ⟨w.heap.size, 0, none⟩) n n) := ⟨c1, c2, c3⟩
        have HS1 := And.intro (M1.drew.st.cell (i := 1) (by omega)) (And.intro (M1.drew.st.cell (i := 2) (by omega)) (M1.drew.st.cell (i := 3) (by omega)))
        have HS2 := And.intro (M2.drew.st.cell (i := 1) (by omega)) (And.intro (M2.drew.st.cell (i := 2) (by omega)) (M2.drew.st.cell (i := 3) (by omega)))
        have HS3 := And.intro (M3.drew.st.cell (i := 1) (by omega)) (And.intro (M3.drew.st.cell (i := 2) (by omega)) (M3.drew.st.cell (i := 3) (by omega)))
        clear M1 M2 M3 HM
        simp only [natC] at e1 e3 e5
        go_wp2_with fail
        refine region_plain (fun w' => w'.cell? ⟨w.heap.size + 1 + 1 + 1, 1, none⟩ = some (.slice (some ⟨w.heap.size + 1 + 1, 0, none⟩) n n) ∧ w'.cell? ⟨w.heap.size + 1 + 1 + 1, 2, none⟩ = some (.slice (some ⟨w.heap.size + 1, 0, none⟩) n n) ∧ w'.cell? ⟨w.heap.size + 1 + 1 + 1, 3, none⟩ = some (.slice (some ⟨w.heap.size, 0, none⟩) n n)) (by kernel_rfl) ?_
        refine take_at (i := 0) (d := 29) (v := ?_) rfl rfl (by kernel_rfl) (by kernel_rfl) (by kernel_rfl) (fun _ _ _ _ => NormalOnly.any) rfl ?hy101 HS ?rest101
        case hy101 => intro w' hSw; (try dsimp only at hSw); go_simp; try (with_reducible rfl)
        try simp only [List.setIfInBounds_toArray, List.set_cons_zero, List.set_cons_succ]
        refine take_at (i := 1) (d := 30) (v := ?_) rfl rfl (by kernel_rfl) (by kernel_rfl) (by kernel_rfl) (fun _ _ _ _ => NormalOnly.any) rfl ?hy102 HS ?rest102
        case hy102 => intro w' hSw; (try dsimp only at hSw); go_simp; try (with_reducible rfl)
        try simp only [List.setIfInBounds_toArray, List.set_cons_zero, List.set_cons_succ]
        refine take_at (i := 2) (d := 31) (v := ?_) rfl rfl (by kernel_rfl) (by kernel_rfl) (by kernel_rfl) (fun _ _ _ _ => NormalOnly.any) rfl ?hy103 HS ?rest103
        case hy103 => intro w' hSw; (try dsimp only at hSw); go_simp; try (with_reducible rfl)
        try simp only [List.setIfInBounds_toArray, List.set_cons_zero, List.set_cons_succ]
        refine take_at (i := 3) (d := 32) (v := ?_) rfl rfl (by kernel_rfl) (by kernel_rfl) (by kernel_rfl) (fun _ _ _ _ => NormalOnly.any) rfl ?hy104 HS ?rest104
        case hy104 => intro w' hSw; (try dsimp only at hSw); go_simp; try (with_reducible rfl)
        try simp only [List.setIfInBounds_toArray, List.set_cons_zero, List.set_cons_succ]
        refine take_at (i := 4) (d := 33) (v := ?_) rfl rfl (by kernel_rfl) (by kernel_rfl) (by kernel_rfl) (fun _ _ _ _ => NormalOnly.any) rfl ?hy105 HS ?rest105
        case hy105 => intro w' hSw; (try dsimp only at hSw); go_simp; try (with_reducible rfl)
        try simp only [List.setIfInBounds_toArray, List.set_cons_zero, List.set_cons_succ]
        refine take_at (i := 5) (d := 34) (v := ?_) rfl rfl (by kernel_rfl) (by kernel_rfl) (by kernel_rfl) (fun _ _ _ _ => NormalOnly.any) rfl ?hy106 HS ?rest106
        case hy106 => intro w' hSw; (try dsimp only at hSw); go_simp; try (with_reducible rfl)
        try simp only [List.setIfInBounds_toArray, List.set_cons_zero, List.set_cons_succ]
        refine take_at (i := 6) (d := 35) (v := ?_) rfl rfl (by kernel_rfl) (by kernel_rfl) (by kernel_rfl) (fun _ _ _ _ => NormalOnly.any) rfl ?hy107 HS ?rest107
        case hy107 => intro w' hSw; (try dsimp only at hSw); go_simp; try (with_reducible rfl)
        try simp only [List.setIfInBounds_toArray, List.set_cons_zero, List.set_cons_succ]
        refine take_at (i := 7) (d := 36) (v := ?_) rfl rfl (by kernel_rfl) (by kernel_rfl) (by kernel_rfl) (fun _ _ _ _ => NormalOnly.any) rfl ?hy108 HS ?rest108
        case hy108 => intro w' hSw; (try dsimp only at hSw); go_simp; try (with_reducible rfl)
        try simp only [List.setIfInBounds_toArray, List.set_cons_zero, List.set_cons_succ]
        refine take_at (i := 8) (d := 37) (v := ?_) rfl rfl (by kernel_rfl) (by kernel_rfl) (by kernel_rfl) (fun _ _ _ _ => NormalOnly.any) rfl ?hy109 HS ?rest109
        case hy109 => intro w' hSw; (try dsimp only at hSw); go_simp; try (with_reducible rfl)
        try simp only [List.setIfInBounds_toArray, List.set_cons_zero, List.set_cons_succ]
        refine take_at (i := 9) (d := 38) (v := ?_) rfl rfl (by kernel_rfl) (by kernel_rfl) (by kernel_rfl) (fun _ _ _ _ => NormalOnly.any) rfl ?hy110 HS ?rest110
        case hy110 => intro w' hSw; (try dsimp only at hSw); go_simp; try (with_reducible rfl)
        try simp only [List.setIfInBounds_toArray, List.set_cons_zero, List.set_cons_succ]
        refine take_at (i := 10) (d := 39) (v := ?_) rfl rfl (by kernel_rfl) (by kernel_rfl) (by kernel_rfl) (fun _ _ _ _ => NormalOnly.any) rfl ?hy111 HS ?rest111
        case hy111 => intro w' hSw; (try dsimp only at hSw); go_simp; try (with_reducible rfl)
        try simp only [List.setIfInBounds_toArray, List.set_cons_zero, List.set_cons_succ]
        refine take_at (i := 11) (d := 40) (v := ?_) rfl rfl (by kernel_rfl) (by kernel_rfl) (by kernel_rfl) (fun _ _ _ _ => NormalOnly.any) rfl ?hy112 HS ?rest112
        case hy112 => intro w' hSw; (try dsimp only at hSw); go_simp; try (with_reducible rfl)
        try simp only [List.setIfInBounds_toArray, List.set_cons_zero, List.set_cons_succ]
        refine take_at (i := 12) (d := 41) (v := ?_) rfl rfl (by kernel_rfl) (by kernel_rfl) (by kernel_rfl) (fun _ _ _ _ => NormalOnly.any) rfl ?hy113 HS ?rest113
        case hy113 => intro w' hSw; (try dsimp only at hSw); go_simp; try (with_reducible rfl)
        try simp only [List.setIfInBounds_toArray, List.set_cons_zero, List.set_cons_succ]
        refine take_at (i := 13) (d := 42) (v := ?_) rfl rfl (by kernel_rfl) (by kernel_rfl) (by kernel_rfl) (fun _ _ _ _ => NormalOnly.any) rfl ?hy114 HS ?rest114
        case hy114 => intro w' hSw; (try dsimp only at hSw); go_simp; try (with_reducible rfl)
        try simp only [List.setIfInBounds_toArray, List.set_cons_zero, List.set_cons_succ]
        refine take_at (i := 14) (d := 43) (v := ?_) rfl rfl (by kernel_rfl) (by kernel_rfl) (by kernel_rfl) (fun _ _ _ _ => NormalOnly.any) rfl ?hy115 HS ?rest115
        case hy115 => intro w' hSw; (try dsimp only at hSw); go_simp; try (with_reducible rfl)
        try simp only [List.setIfInBounds_toArray, List.set_cons_zero, List.set_cons_succ]
        refine take_at (i := 15) (d := 44) (v := ?_) rfl rfl (by kernel_rfl) (by kernel_rfl) (by kernel_rfl) (fun _ _ _ _ => NormalOnly.any) rfl ?hy116 HS ?rest116
        case hy116 => intro w' hSw; (try dsimp only at hSw); go_simp; try (with_reducible rfl)
        try simp only [List.setIfInBounds_toArray, List.set_cons_zero, List.set_cons_succ]
        refine take_at (i := 16) (d := 45) (v := ?_) rfl rfl (by kernel_rfl) (by kernel_rfl) (by kernel_rfl) (fun _ _ _ _ => NormalOnly.any) rfl ?hy117 HS ?rest117
        case hy117 => intro w' hSw; (try dsimp only at hSw); go_simp; try (with_reducible rfl)
        try simp only [List.setIfInBounds_toArray, List.set_cons_zero, List.set_cons_succ]
        refine take_at (i := 17) (d := 46) (v := ?_) rfl rfl (by kernel_rfl) (by kernel_rfl) (by kernel_rfl) (fun _ _ _ _ => NormalOnly.any) rfl ?hy118 HS ?rest118
        case hy118 => intro w' hSw; (try dsimp only at hSw); go_simp; try (with_reducible rfl)
        try simp only [List.setIfInBounds_toArray, List.set_cons_zero, List.set_cons_succ]
        refine wpAnyH_ready (rs := [18]) (by kernel_rfl) (by simp) ?_
        refine AllReadyH.cons rfl (fun K hK => ?_) AllReadyH.nil
        go_simp
        refine hK.out _ _ HS1 (fun HS => ?_)
        clear hK
        refine take_at (i := 19) (d := 47) (v := ?_) rfl rfl (by kernel_rfl) (by kernel_rfl) (by kernel_rfl) (fun _ _ _ _ => NormalOnly.any) rfl ?hy119 HS ?rest119
        case hy119 => intro w' hSw; (try dsimp only at hSw); go_simp; try (with_reducible rfl)
        try simp only [List.setIfInBounds_toArray, List.set_cons_zero, List.set_cons_succ]
        refine wpAnyH_ready (rs := [20]) (by kernel_rfl) (by simp) ?_
        refine AllReadyH.cons rfl (fun K hK => ?_) AllReadyH.nil
        go_simp
        refine hK.out _ _ HS2 (fun HS => ?_)
        clear hK
        refine take_at (i := 21) (d := 48) (v := ?_) rfl rfl (by kernel_rfl) (by kernel_rfl) (by kernel_rfl) (fun _ _ _ _ => NormalOnly.any) rfl ?hy120 HS ?rest120
        case hy120 => intro w' hSw; (try dsimp only at hSw); go_simp; try (with_reducible rfl)
        try simp only [List.setIfInBounds_toArray, List.set_cons_zero, List.set_cons_succ]
        refine wpAnyH_ready (rs := [22]) (by kernel_rfl) (by simp) ?_
        refine AllReadyH.cons rfl (fun K hK => ?_) AllReadyH.nil
        go_simp
        refine hK.out _ _ HS3 (fun _ => ?_)
        clear hK
        refine wpAnyH_done (by kernel_rfl) ⟨rfl, ?_⟩ _
        go_wp2_with fail
        go_roundw
        case rel => exact ⟨k + 1, by omega, by go_num, HM3, HB3.out⟩
        case measure => simp only [intOf]; omega
      · have hke : k = n := by omega
        have HD : DS wr ⟨w.heap.size, wr.heap.size⟩ (w.heap.size + 1 + 1 + 1) n id := DS.widen (z := ⟨w.heap.size, w.heap.size + 1 + 1 + 1 + 1⟩) ⟨w.heap.size + 1 + 1, w.heap.size + 1, w.heap.size, id, id, fun _ => 1, fun _ => 0, 0, by
          rw [cntN_id]
          exact HM.out.congr (fun i hi => if_pos (by omega)) (fun i hi => if_pos (by omega)) (fun i hi => if_pos (by omega)), uf_id n, LabOk.id, fun i hi _ => ⟨rfl, (clsN_id hi).symm⟩⟩ (Nat.le_refl _) HM.out.size.1
        have HD := Lib.hid HD
        clear HM
        go_wp2_with fail
        go_ret2
        exact ⟨_, rfl, HD.out, bel⟩
end Go.Proofs.YtibdggbejogciaaGreat
