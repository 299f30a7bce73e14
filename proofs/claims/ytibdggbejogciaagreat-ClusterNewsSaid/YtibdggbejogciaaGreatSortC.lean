/- The walk of the comparison of kruskal.Order. Conditions: the indexes are in range. -/
import Derived.Test.YtibdggbejogciaaGreatOrd
import Derived.Sort.Grow
namespace Go.Proofs.YtibdggbejogciaaGreat
open Go.RowKit Go.Sort

def encF {m : Nat} (x : Fin m) : Value := .int .i64 (x.val : Nat)
theorem two_cells (W : World) (x y : Value) (t : TypeId) : (W.alloc (.cells #[x, y] t)).drew.cell? ⟨W.heap.size, 0, none⟩ = some x ∧ (W.alloc (.cells #[x, y] t)).drew.cell? ⟨W.heap.size, 1, none⟩ = some y := by
  have h := heap_alloc_new W (.cells #[x, y] t)
  constructor
  · show (W.alloc (.cells #[x, y] t)).cell? _ = _
    simp only [World.cell?, h]; rfl
  · show (W.alloc (.cells #[x, y] t)).cell? _ = _
    simp only [World.cell?, h]; rfl
set_option maxRecDepth 100000 in
set_option maxHeartbeats 2000000 in
theorem clo_any (E : List Ed) (bl B : Nat) (a : Option Addr) (cap : Nat) (A : Nat → Addr) (i j : Nat) (W : World) (hb : W.cell? ⟨bl, 0, none⟩ = some (.slice a E.length cap)) (hE : ES W B (.slice a E.length cap) E A) (hi : i < E.length) (hj : j < E.length) :
    Calls Tryz.prog 93 #[.int .i64 (i : Nat), .int .i64 (j : Nat), .pointer (some ⟨bl, 0, none⟩)] W fun e w' => e = .returned (.int .i64 (cfE E i j)) ∧ ∃ q os', w' = grow (W.drewN q) os' := by
  have i1 := hE.ix i hi
  have i2 := hE.ix j hj
  have c1 := ES.w hE hi
  have c2 := ES.w hE hj
  have H1 := Lib.hid (cmp64_any (eAt E i).w (eAt E j).w W.drew)
  have H2 := Lib.hid (cmpI_any (i : Int) (j : Int) W.drew)
  obtain ⟨r, hr⟩ : ∃ r, cfE E i j = r := ⟨_, rfl⟩
  have HR := Lib.hid hr
  have hrr : (if cmpI (eAt E i).w (eAt E j).w = 0 then cmpI (i : Int) (j : Int) else cmpI (eAt E i).w (eAt E j).w) = r := hr
  have HO := Lib.hid (fun (W2 : World) h0 h1 => or_any W.heap.size (cmpI (eAt E i).w (eAt E j).w) (cmpI (i : Int) (j : Int)) r W2 hrr h0 h1)
  have HS : W.drew.cell? ⟨bl, 0, none⟩ = some (.slice a E.length cap) ∧ W.drew.cell? ⟨(A i).block, (A i).off + 2, none⟩ = some (.int .i64 (eAt E i).w) ∧ W.drew.cell? ⟨(A j).block, (A j).off + 2, none⟩ = some (.int .i64 (eAt E j).w) := ⟨hb, c1, c2⟩
  have hki : (0 : Int) ≤ i ∧ (i : Int) < E.length := by omega
  have hkj : (0 : Int) ≤ j ∧ (j : Int) < E.length := by omega
  clear hE hr hrr hb c1 c2
  generalize cmpI (eAt E i).w (eAt E j).w = x at *
  generalize cmpI (i : Int) (j : Int) = y at *
  go_enter Tryz.func93, Tryz.ntmps93
  go_wp2_with fail
  refine region_plain (fun w' => w'.cell? ⟨bl, 0, none⟩ = some (.slice a E.length cap) ∧ w'.cell? ⟨(A i).block, (A i).off + 2, none⟩ = some (.int .i64 (eAt E i).w) ∧ w'.cell? ⟨(A j).block, (A j).off + 2, none⟩ = some (.int .i64 (eAt E j).w)) (by kernel_rfl) ?_
  refine take_at (i := 0) (d := 6) (v := ?_) rfl rfl (by kernel_rfl) (by kernel_rfl) (by kernel_rfl) (fun _ _ _ _ => NormalOnly.any) rfl ?hy1 HS ?rest1
  case hy1 => intro w' hSw; (try dsimp only at hSw); go_simp; try (with_reducible rfl)
  try simp only [List.setIfInBounds_toArray, List.set_cons_zero, List.set_cons_succ]
  refine take_at (i := 1) (d := 7) (v := ?_) rfl rfl (by kernel_rfl) (by kernel_rfl) (by kernel_rfl) (fun _ _ _ _ => NormalOnly.any) rfl ?hy2 HS ?rest2
  case hy2 => intro w' hSw; (try dsimp only at hSw); go_simp; try (with_reducible rfl)
  try simp only [List.setIfInBounds_toArray, List.set_cons_zero, List.set_cons_succ]
  refine take_at (i := 2) (d := 8) (v := ?_) rfl rfl (by kernel_rfl) (by kernel_rfl) (by kernel_rfl) (fun _ _ _ _ => NormalOnly.any) rfl ?hy3 HS ?rest3
  case hy3 => intro w' hSw; (try dsimp only at hSw); go_simp; try (with_reducible rfl)
  try simp only [List.setIfInBounds_toArray, List.set_cons_zero, List.set_cons_succ]
  refine take_at (i := 3) (d := 9) (v := ?_) rfl rfl (by kernel_rfl) (by kernel_rfl) (by kernel_rfl) (fun _ _ _ _ => NormalOnly.any) rfl ?hy4 HS ?rest4
  case hy4 => intro w' hSw; (try dsimp only at hSw); go_simp; try (with_reducible rfl)
  try simp only [List.setIfInBounds_toArray, List.set_cons_zero, List.set_cons_succ]
  refine take_at (i := 4) (d := 10) (v := ?_) rfl rfl (by kernel_rfl) (by kernel_rfl) (by kernel_rfl) (fun _ _ _ _ => NormalOnly.any) rfl ?hy5 HS ?rest5
  case hy5 => intro w' hSw; (try dsimp only at hSw); go_simp; try (with_reducible rfl)
  try simp only [List.setIfInBounds_toArray, List.set_cons_zero, List.set_cons_succ]
  refine take_at (i := 5) (d := 11) (v := ?_) rfl rfl (by kernel_rfl) (by kernel_rfl) (by kernel_rfl) (fun _ _ _ _ => NormalOnly.any) rfl ?hy6 HS ?rest6
  case hy6 => intro w' hSw; (try dsimp only at hSw); go_simp; try (with_reducible rfl)
  try simp only [List.setIfInBounds_toArray, List.set_cons_zero, List.set_cons_succ]
  refine take_at (i := 6) (d := 12) (v := ?_) rfl rfl (by kernel_rfl) (by kernel_rfl) (by kernel_rfl) (fun _ _ _ _ => NormalOnly.any) rfl ?hy7 HS ?rest7
  case hy7 => intro w' hSw; (try dsimp only at hSw); go_simp; try (with_reducible rfl)
  try simp only [List.setIfInBounds_toArray, List.set_cons_zero, List.set_cons_succ]
  refine take_at (i := 7) (d := 13) (v := ?_) rfl rfl (by kernel_rfl) (by kernel_rfl) (by kernel_rfl) (fun _ _ _ _ => NormalOnly.any) rfl ?hy8 HS ?rest8
  case hy8 => intro w' hSw; (try dsimp only at hSw); go_simp; try (with_reducible rfl)
  try simp only [List.setIfInBounds_toArray, List.set_cons_zero, List.set_cons_succ]
  refine take_at (i := 8) (d := 14) (v := ?_) rfl rfl (by kernel_rfl) (by kernel_rfl) (by kernel_rfl) (fun _ _ _ _ => NormalOnly.any) rfl ?hy9 HS ?rest9
  case hy9 => intro w' hSw; (try dsimp only at hSw); go_simp; try (with_reducible rfl)
  try simp only [List.setIfInBounds_toArray, List.set_cons_zero, List.set_cons_succ]
  refine take_at (i := 9) (d := 15) (v := ?_) rfl rfl (by kernel_rfl) (by kernel_rfl) (by kernel_rfl) (fun _ _ _ _ => NormalOnly.any) rfl ?hy10 HS ?rest10
  case hy10 => intro w' hSw; (try dsimp only at hSw); go_simp; try (with_reducible rfl)
  try simp only [List.setIfInBounds_toArray, List.set_cons_zero, List.set_cons_succ]
  refine take_at (i := 11) (d := 17) (v := ?_) rfl rfl (by kernel_rfl) (by kernel_rfl) (by kernel_rfl) (fun _ _ _ _ => NormalOnly.any) rfl ?hy11 HS ?rest11
  case hy11 => intro w' hSw; (try dsimp only at hSw); go_simp; try (with_reducible rfl)
  try simp only [List.setIfInBounds_toArray, List.set_cons_zero, List.set_cons_succ]
  refine take_at (i := 12) (d := 18) (v := ?_) rfl rfl (by kernel_rfl) (by kernel_rfl) (by kernel_rfl) (fun _ _ _ _ => NormalOnly.any) rfl ?hy12 HS ?rest12
  case hy12 => intro w' hSw; (try dsimp only at hSw); go_simp; try (with_reducible rfl)
  try simp only [List.setIfInBounds_toArray, List.set_cons_zero, List.set_cons_succ]
  refine wpAnyH_ready (rs := [10]) (by kernel_rfl) (by simp) ?_
  refine AllReadyH.cons rfl (fun K hK => ?_) AllReadyH.nil
  go_simp
  refine H1.out.mono ?_
  rintro e w' ⟨rfl, rfl⟩
  dsimp only
  refine hK.out _ _ HS (fun _ => ?_)
  clear hK
  refine wpAnyH_ready (rs := [13]) (by kernel_rfl) (by simp) ?_
  refine AllReadyH.cons rfl (fun K hK => ?_) AllReadyH.nil
  go_simp
  refine H2.out.mono ?_
  rintro e w' ⟨rfl, rfl⟩
  dsimp only
  refine hK.out _ _ HS (fun _ => ?_)
  clear hK
  have HN : (W.alloc (.cells #[.int .i64 x, .int .i64 y] 3)).drew.cell? ⟨bl, 0, none⟩ = some (.slice a E.length cap) ∧ (W.alloc (.cells #[.int .i64 x, .int .i64 y] 3)).drew.cell? ⟨(A i).block, (A i).off + 2, none⟩ = some (.int .i64 (eAt E i).w) ∧ (W.alloc (.cells #[.int .i64 x, .int .i64 y] 3)).drew.cell? ⟨(A j).block, (A j).off + 2, none⟩ = some (.int .i64 (eAt E j).w) :=
    ⟨(World.cell?_alloc_some W _ _ (by rw [show W.cell? _ = _ from HS.1]; rfl)).trans HS.1, (World.cell?_alloc_some W _ _ (by rw [show W.cell? _ = _ from HS.2.1]; rfl)).trans HS.2.1, (World.cell?_alloc_some W _ _ (by rw [show W.cell? _ = _ from HS.2.2]; rfl)).trans HS.2.2⟩
  have hnew := two_cells W (.int .i64 x) (.int .i64 y) 3
  have HO2 := Lib.hid (HO.out (W.alloc (.cells #[.int .i64 x, .int .i64 y] 3)).drew hnew.1 hnew.2)
  clear HO hnew
  refine wpAnyH_ready (rs := [14]) (by kernel_rfl) (by simp) ?_
  refine AllReadyH.cons rfl (fun K hK => ?_) AllReadyH.nil
  go_simp
  refine hK.out _ _ HN (fun _ => ?_)
  clear hK
  refine wpAnyH_ready (rs := [15]) (by kernel_rfl) (by simp) ?_
  refine AllReadyH.cons rfl (fun K hK => ?_) AllReadyH.nil
  go_simp
  refine HO2.out.mono ?_
  rintro e w' ⟨rfl, rfl⟩
  dsimp only
  refine hK.out _ _ HN (fun HS => ?_)
  clear hK
  refine take_at (i := 16) (d := 5) (v := ?_) rfl rfl (by kernel_rfl) (by kernel_rfl) (by kernel_rfl) (fun _ _ _ _ => NormalOnly.any) rfl ?hy13 HS ?rest13
  case hy13 => intro w' hSw; (try dsimp only at hSw); go_simp; try (with_reducible rfl)
  try simp only [List.setIfInBounds_toArray, List.set_cons_zero, List.set_cons_succ]
  refine wpAnyH_done (by kernel_rfl) ⟨rfl, ?_⟩ _
  go_wp2_with fail
  go_ret
  refine ⟨by rw [HR.out]; rfl, 1, #[.cells #[.int .i64 x, .int .i64 y] 3], ?_⟩
  rw [← alloc_eq_grow]; rfl
end Go.Proofs.YtibdggbejogciaaGreat
