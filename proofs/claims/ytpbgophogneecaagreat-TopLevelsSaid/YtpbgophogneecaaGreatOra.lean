/- cmp.Compare and cmp.Or at ints. No conditions. -/
import Derived.Test.YtpbgophogneecaaGreatMe
import Derived.Test.YtpbgophogneecaaGreatPl
import Derived.Sort.Grow
namespace Go.Proofs.YtpbgophogneecaaGreat
open Go.RowKit

/-- -1, 0 or 1 -/
def cmpI (x y : Int) : Int := if x < y then -1 else if y < x then 1 else 0
set_option maxRecDepth 20000 in
theorem nan64 (x : Int) (w : World) : Calls Tryz.prog 54 #[.int .i64 x] w fun e w' => e = .returned (.bool false) ∧ w' = w := by
  have hz : (x != x) = false := by simp
  go_enter Tryz.func54, Tryz.ntmps54
  go_wp2_with fail
  go_ret
  exact ⟨rfl, rfl⟩
set_option maxRecDepth 20000 in
theorem nanI (x : Int) (w : World) : Calls Tryz.prog 55 #[.int .i64 x] w fun e w' => e = .returned (.bool false) ∧ w' = w := by
  have hz : (x != x) = false := by simp
  go_enter Tryz.func55, Tryz.ntmps55
  go_wp2_with fail
  go_ret
  exact ⟨rfl, rfl⟩
set_option maxRecDepth 20000 in
set_option maxHeartbeats 1000000 in
theorem cmp64_any (x y : Int) (w : World) : Calls Tryz.prog 31 #[.int .i64 x, .int .i64 y] w fun e w' => e = .returned (.int .i64 (cmpI x y)) ∧ w' = w := by
  have H1 := Lib.hid (nan64 x w)
  have H2 := Lib.hid (nan64 y w)
  rcases Int.lt_trichotomy x y with h | h | h
  · have hc := Lib.hid (show cmpI x y = -1 from if_pos h)
    have k1 : decide (x < y) = true := decide_eq_true h
    clear h
    go_enter Tryz.func31, Tryz.ntmps31
    go_wp2_with fail
    refine H1.out.mono ?_
    rintro e w' ⟨rfl, rfl⟩
    go_wp2_with fail
    refine H2.out.mono ?_
    rintro e w' ⟨rfl, rfl⟩
    go_wp2_with fail
    go_ret
    exact ⟨by rw [hc.out]; rfl, rfl⟩
  · have hc := Lib.hid (show cmpI x y = 0 by unfold cmpI; rw [if_neg (by omega), if_neg (by omega)])
    have k1 : decide (x < y) = false := decide_eq_false (by omega)
    have k2 : decide (x > y) = false := decide_eq_false (by omega)
    clear h
    go_enter Tryz.func31, Tryz.ntmps31
    go_wp2_with fail
    refine H1.out.mono ?_
    rintro e w' ⟨rfl, rfl⟩
    go_wp2_with fail
    refine H2.out.mono ?_
    rintro e w' ⟨rfl, rfl⟩
    go_wp2_with fail
    go_ret
    exact ⟨by rw [hc.out]; rfl, rfl⟩
  · have hc := Lib.hid (show cmpI x y = 1 by unfold cmpI; rw [if_neg (by omega), if_pos h])
    have k1 : decide (x < y) = false := decide_eq_false (by omega)
    have k2 : decide (x > y) = true := decide_eq_true (by omega)
    clear h
    go_enter Tryz.func31, Tryz.ntmps31
    go_wp2_with fail
    refine H1.out.mono ?_
    rintro e w' ⟨rfl, rfl⟩
    go_wp2_with fail
    refine H2.out.mono ?_
    rintro e w' ⟨rfl, rfl⟩
    go_wp2_with fail
    go_ret
    exact ⟨by rw [hc.out]; rfl, rfl⟩
set_option maxRecDepth 20000 in
set_option maxHeartbeats 1000000 in
theorem cmpI_any (x y : Int) (w : World) : Calls Tryz.prog 32 #[.int .i64 x, .int .i64 y] w fun e w' => e = .returned (.int .i64 (cmpI x y)) ∧ w' = w := by
  have H1 := Lib.hid (nanI x w)
  have H2 := Lib.hid (nanI y w)
  rcases Int.lt_trichotomy x y with h | h | h
  · have hc := Lib.hid (show cmpI x y = -1 from if_pos h)
    have k1 : decide (x < y) = true := decide_eq_true h
    clear h
    go_enter Tryz.func32, Tryz.ntmps32
    go_wp2_with fail
    refine H1.out.mono ?_
    rintro e w' ⟨rfl, rfl⟩
    go_wp2_with fail
    refine H2.out.mono ?_
    rintro e w' ⟨rfl, rfl⟩
    go_wp2_with fail
    go_ret
    exact ⟨by rw [hc.out]; rfl, rfl⟩
  · have hc := Lib.hid (show cmpI x y = 0 by unfold cmpI; rw [if_neg (by omega), if_neg (by omega)])
    have k1 : decide (x < y) = false := decide_eq_false (by omega)
    have k2 : decide (x > y) = false := decide_eq_false (by omega)
    clear h
    go_enter Tryz.func32, Tryz.ntmps32
    go_wp2_with fail
    refine H1.out.mono ?_
    rintro e w' ⟨rfl, rfl⟩
    go_wp2_with fail
    refine H2.out.mono ?_
    rintro e w' ⟨rfl, rfl⟩
    go_wp2_with fail
    go_ret
    exact ⟨by rw [hc.out]; rfl, rfl⟩
  · have hc := Lib.hid (show cmpI x y = 1 by unfold cmpI; rw [if_neg (by omega), if_pos h])
    have k1 : decide (x < y) = false := decide_eq_false (by omega)
    have k2 : decide (x > y) = true := decide_eq_true (by omega)
    clear h
    go_enter Tryz.func32, Tryz.ntmps32
    go_wp2_with fail
    refine H1.out.mono ?_
    rintro e w' ⟨rfl, rfl⟩
    go_wp2_with fail
    refine H2.out.mono ?_
    rintro e w' ⟨rfl, rfl⟩
    go_wp2_with fail
    go_ret
    exact ⟨by rw [hc.out]; rfl, rfl⟩
set_option maxRecDepth 20000 in
set_option maxHeartbeats 1000000 in
theorem or_any (g : Nat) (x y r : Int) (w : World) (hr : (if x = 0 then y else x) = r) (h0 : w.cell? ⟨g, 0, none⟩ = some (.int .i64 x)) (h1 : w.cell? ⟨g, 1, none⟩ = some (.int .i64 y)) :
    Calls Tryz.prog 30 #[.slice (some ⟨g, 0, none⟩) 2 2] w fun e w' => e = .returned (.int .i64 r) ∧ w' = w := by
  have HR := Lib.hid hr
  clear hr
  go_enter Tryz.func30, Tryz.ntmps30
  go_wp2_with fail
  go_loopw [8] (fun i wr => ∃ k : Nat, k ≤ 2 ∧ i = .int .i64 (k : Nat) ∧ Hid (1 ≤ k → x = 0) ∧ Hid (2 ≤ k → y = 0) ∧ Hid (wr = w)) (fun i _ => 2 - (intOf i).toNat)
  case atStart => exact ⟨0, by omega, rfl, Lib.hid (fun h => by omega), Lib.hid (fun h => by omega), Lib.hid rfl⟩
  case round =>
    obtain ⟨k, hk, rfl, hx, hy, hw⟩ := hrel
    obtain rfl := hw.out
    have : k = 0 ∨ k = 1 ∨ k = 2 := by omega
    rcases this with rfl | rfl | rfl
    · by_cases hz : x = 0
      · have hb : (x != 0) = false := by simpa using hz
        have HZ := Lib.hid hz
        clear hz
        go_wp2_with fail
        go_roundw
        case rel => exact ⟨1, by omega, rfl, Lib.hid (fun _ => HZ.out), Lib.hid (fun h => by omega), Lib.hid trivial⟩
        case measure => simp [intOf]
      · have hb : (x != 0) = true := by simpa using hz
        have HZ := Lib.hid hz
        clear hz
        go_wp2_with fail
        go_ret
        exact ⟨by rw [← HR.out, if_neg HZ.out]; rfl, rfl⟩
    · have HX := Lib.hid (hx.out (by omega))
      by_cases hz : y = 0
      · have hb : (y != 0) = false := by simpa using hz
        have HZ := Lib.hid hz
        clear hz
        go_wp2_with fail
        go_roundw
        case rel => exact ⟨2, by omega, rfl, Lib.hid (fun _ => HX.out), Lib.hid (fun _ => HZ.out), Lib.hid trivial⟩
        case measure => simp [intOf]
      · have hb : (y != 0) = true := by simpa using hz
        clear hz
        go_wp2_with fail
        go_ret
        exact ⟨by rw [← HR.out, if_pos HX.out]; rfl, rfl⟩
    · have HX := Lib.hid (hx.out (by omega))
      have HY := Lib.hid (hy.out (by omega))
      go_wp2_with fail
      go_ret
      exact ⟨by rw [← HR.out, if_pos HX.out, HY.out]; rfl, rfl⟩
end Go.Proofs.YtpbgophogneecaaGreat

/- Plain mathematics of the order of edges: by weight, and then by index. No conditions. -/
namespace Go.Proofs.YtpbgophogneecaaGreat

/-- edge i comes before edge j -/
def ltE (E : List Ed) (i j : Nat) : Prop := (eAt E i).w < (eAt E j).w ∨ ((eAt E i).w = (eAt E j).w ∧ i < j)
instance (E : List Ed) (i j : Nat) : Decidable (ltE E i j) := by unfold ltE; infer_instance
theorem ltE_asymm {E : List Ed} {i j : Nat} (h : ltE E i j) (h' : ltE E j i) : False := by unfold ltE at *; omega
theorem ltE_trans {E : List Ed} {i j k : Nat} (h : ltE E i j) (h' : ltE E j k) : ltE E i k := by unfold ltE at *; omega
theorem ltE_total {E : List Ed} {i j : Nat} (h : i ≠ j) : ltE E i j ∨ ltE E j i := by unfold ltE; omega
/-- the indexes in order -/
structure OrdOf (E : List Ed) (o : List Nat) : Prop where
  perm : o.Perm (List.range E.length)
  sorted : o.Pairwise (ltE E)
theorem perm_sorted_eq {R : Nat → Nat → Prop} (irr : ∀ a b, R a b → R b a → False) : ∀ (l l' : List Nat), l.Perm l' → l.Pairwise R → l'.Pairwise R → l = l'
  | [], l', p, _, _ => (List.nil_perm.1 p).symm
  | a :: t, l', p, h1, h2 => by
    cases l' with
    | nil => exact absurd p.length_eq (by simp)
    | cons b t' =>
      by_cases e : a = b
      · subst e
        rw [perm_sorted_eq irr t t' (List.perm_cons a |>.1 p) (List.pairwise_cons.1 h1).2 (List.pairwise_cons.1 h2).2]
      · exfalso
        have ha : a ∈ b :: t' := p.mem_iff.1 (List.mem_cons_self ..)
        have hb : b ∈ a :: t := p.mem_iff.2 (List.mem_cons_self ..)
        have ha : a ∈ t' := (List.mem_cons.1 ha).resolve_left e
        have hb : b ∈ t := (List.mem_cons.1 hb).resolve_left (fun c => e c.symm)
        exact irr a b ((List.pairwise_cons.1 h1).1 b hb) ((List.pairwise_cons.1 h2).1 a ha)
theorem OrdOf.uniq {E : List Ed} {o o' : List Nat} (h : OrdOf E o) (h' : OrdOf E o') : o = o' :=
  perm_sorted_eq (fun _ _ => ltE_asymm) _ _ (h.perm.trans h'.perm.symm) h.sorted h'.sorted
theorem OrdOf.len {E : List Ed} {o : List Nat} (h : OrdOf E o) : o.length = E.length := by rw [h.perm.length_eq, List.length_range]
theorem OrdOf.mem {E : List Ed} {o : List Nat} (h : OrdOf E o) {i : Nat} : i ∈ o ↔ i < E.length := by rw [h.perm.mem_iff, List.mem_range]
/-- what the comparison answers -/
def cfE (E : List Ed) (i j : Nat) : Int := if cmpI (eAt E i).w (eAt E j).w = 0 then cmpI (i : Int) (j : Int) else cmpI (eAt E i).w (eAt E j).w
theorem cmpI_zero {x y : Int} : cmpI x y = 0 ↔ x = y := by
  unfold cmpI
  split
  · omega
  · split <;> omega
theorem cmpI_neg {x y : Int} : cmpI x y < 0 ↔ x < y := by
  unfold cmpI
  split
  · omega
  · split <;> omega
theorem cfE_lt (E : List Ed) (i j : Nat) : cfE E i j < 0 ↔ ltE E i j := by
  unfold cfE ltE
  split
  · rename_i h
    rw [cmpI_neg]
    have := cmpI_zero.1 h
    omega
  · rename_i h
    rw [cmpI_neg]
    have : (eAt E i).w ≠ (eAt E j).w := fun e => h (cmpI_zero.2 e)
    omega
end Go.Proofs.YtpbgophogneecaaGreat

/- The walk of the comparison of kruskal.Order. Conditions: the indexes are in range. -/
namespace Go.Proofs.YtpbgophogneecaaGreat
open Go.RowKit Go.Sort

def encF {m : Nat} (x : Fin m) : Value := .int .i64 (x.val : Nat)
theorem two_cells (W : World) (x y : Value) (t : TypeId) : (W.alloc (.cells #[x, y] t)).drew.cell? ⟨W.heap.size, 0, none⟩ = some x ∧ (W.alloc (.cells #[x, y] t)).drew.cell? ⟨W.heap.size, 1, none⟩ = some y := by
  have h := heap_alloc_new W (.cells #[x, y] t)
  constructor
  · show (W.alloc (.cells #[x, y] t)).cell? _ = _
    simp only [World.cell?, h]; rfl
  · show (W.alloc (.cells #[x, y] t)).cell? _ = _
    simp only [World.cell?, h]; rfl
set_option maxRecDepth 100000 in
set_option maxHeartbeats 2000000 in
theorem clo_any (E : List Ed) (bl B : Nat) (a : Option Addr) (cap : Nat) (A : Nat → Addr) (i j : Nat) (W : World) (hb : W.cell? ⟨bl, 0, none⟩ = some (.slice a E.length cap)) (hE : ES W B (.slice a E.length cap) E A) (hi : i < E.length) (hj : j < E.length) :
    Calls Tryz.prog 29 #[.int .i64 (i : Nat), .int .i64 (j : Nat), .pointer (some ⟨bl, 0, none⟩)] W fun e w' => e = .returned (.int .i64 (cfE E i j)) ∧ ∃ q os', w' = grow (W.drewN q) os' := by
  have i1 := hE.ix i hi
  have i2 := hE.ix j hj
  have c1 := ES.w hE hi
  have c2 := ES.w hE hj
  have H1 := Lib.hid (cmp64_any (eAt E i).w (eAt E j).w W.drew)
  have H2 := Lib.hid (cmpI_any (i : Int) (j : Int) W.drew)
  obtain ⟨r, hr⟩ : ∃ r, cfE E i j = r := ⟨_, rfl⟩
  have HR := Lib.hid hr
  have hrr : (if cmpI (eAt E i).w (eAt E j).w = 0 then cmpI (i : Int) (j : Int) else cmpI (eAt E i).w (eAt E j).w) = r := hr
  have HO := Lib.hid (fun (W2 : World) h0 h1 => or_any W.heap.size (cmpI (eAt E i).w (eAt E j).w) (cmpI (i : Int) (j : Int)) r W2 hrr h0 h1)
  have HS : W.drew.cell? ⟨bl, 0, none⟩ = some (.slice a E.length cap) ∧ W.drew.cell? ⟨(A i).block, (A i).off + 2, none⟩ = some (.int .i64 (eAt E i).w) ∧ W.drew.cell? ⟨(A j).block, (A j).off + 2, none⟩ = some (.int .i64 (eAt E j).w) := ⟨hb, c1, c2⟩
  have hki : (0 : Int) ≤ i ∧ (i : Int) < E.length := by omega
  have hkj : (0 : Int) ≤ j ∧ (j : Int) < E.length := by omega
  clear hE hr hrr hb c1 c2
  generalize cmpI (eAt E i).w (eAt E j).w = x at *
  generalize cmpI (i : Int) (j : Int) = y at *
  go_enter Tryz.func29, Tryz.ntmps29
  go_wp2_with fail
  refine region_plain (fun w' => w'.cell? ⟨bl, 0, none⟩ = some (.slice a E.length cap) ∧ w'.cell? ⟨(A i).block, (A i).off + 2, none⟩ = some (.int .i64 (eAt E i).w) ∧ w'.cell? ⟨(A j).block, (A j).off + 2, none⟩ = some (.int .i64 (eAt E j).w)) (by kernel_rfl) ?_
  refine take_at (i := 0) (d := 6) (v := ?_) rfl rfl (by kernel_rfl) (by kernel_rfl) (by kernel_rfl) (fun _ _ _ _ => NormalOnly.any) rfl ?hy1 HS ?rest1
  case hy1 => intro w' hSw; (try dsimp only at hSw); go_simp; try (with_reducible rfl)
  try simp only [List.setIfInBounds_toArray, List.set_cons_zero, List.set_cons_succ]
  refine take_at (i := 1) (d := 7) (v := ?_) rfl rfl (by kernel_rfl) (by kernel_rfl) (by kernel_rfl) (fun _ _ _ _ => NormalOnly.any) rfl ?hy2 HS ?rest2
  case hy2 => intro w' hSw; (try dsimp only at hSw); go_simp; try (with_reducible rfl)
  try simp only [List.setIfInBounds_toArray, List.set_cons_zero, List.set_cons_succ]
  refine take_at (i := 2) (d := 8) (v := ?_) rfl rfl (by kernel_rfl) (by kernel_rfl) (by kernel_rfl) (fun _ _ _ _ => NormalOnly.any) rfl ?hy3 HS ?rest3
  case hy3 => intro w' hSw; (try dsimp only at hSw); go_simp; try (with_reducible rfl)
  try simp only [List.setIfInBounds_toArray, List.set_cons_zero, List.set_cons_succ]
  refine take_at (i := 3) (d := 9) (v := ?_) rfl rfl (by kernel_rfl) (by kernel_rfl) (by kernel_rfl) (fun _ _ _ _ => NormalOnly.any) rfl ?hy4 HS ?rest4
  case hy4 => intro w' hSw; (try dsimp only at hSw); go_simp; try (with_reducible rfl)
  try simp only [List.setIfInBounds_toArray, List.set_cons_zero, List.set_cons_succ]
  refine take_at (i := 4) (d := 10) (v := ?_) rfl rfl (by kernel_rfl) (by kernel_rfl) (by kernel_rfl) (fun _ _ _ _ => NormalOnly.any) rfl ?hy5 HS ?rest5
  case hy5 => intro w' hSw; (try dsimp only at hSw); go_simp; try (with_reducible rfl)
  try simp only [List.setIfInBounds_toArray, List.set_cons_zero, List.set_cons_succ]
  refine take_at (i := 5) (d := 11) (v := ?_) rfl rfl (by kernel_rfl) (by kernel_rfl) (by kernel_rfl) (fun _ _ _ _ => NormalOnly.any) rfl ?hy6 HS ?rest6
  case hy6 => intro w' hSw; (try dsimp only at hSw); go_simp; try (with_reducible rfl)
  try simp only [List.setIfInBounds_toArray, List.set_cons_zero, List.set_cons_succ]
  refine take_at (i := 6) (d := 12) (v := ?_) rfl rfl (by kernel_rfl) (by kernel_rfl) (by kernel_rfl) (fun _ _ _ _ => NormalOnly.any) rfl ?hy7 HS ?rest7
  case hy7 => intro w' hSw; (try dsimp only at hSw); go_simp; try (with_reducible rfl)
  try simp only [List.setIfInBounds_toArray, List.set_cons_zero, List.set_cons_succ]
  refine take_at (i := 7) (d := 13) (v := ?_) rfl rfl (by kernel_rfl) (by kernel_rfl) (by kernel_rfl) (fun _ _ _ _ => NormalOnly.any) rfl ?hy8 HS ?rest8
  case hy8 => intro w' hSw; (try dsimp only at hSw); go_simp; try (with_reducible rfl)
  try simp only [List.setIfInBounds_toArray, List.set_cons_zero, List.set_cons_succ]
  refine take_at (i := 8) (d := 14) (v := ?_) rfl rfl (by kernel_rfl) (by kernel_rfl) (by kernel_rfl) (fun _ _ _ _ => NormalOnly.any) rfl ?hy9 HS ?rest9
  case hy9 => intro w' hSw; (try dsimp only at hSw); go_simp; try (with_reducible rfl)
  try simp only [List.setIfInBounds_toArray, List.set_cons_zero, List.set_cons_succ]
  refine take_at (i := 9) (d := 15) (v := ?_) rfl rfl (by kernel_rfl) (by kernel_rfl) (by kernel_rfl) (fun _ _ _ _ => NormalOnly.any) rfl ?hy10 HS ?rest10
  case hy10 => intro w' hSw; (try dsimp only at hSw); go_simp; try (with_reducible rfl)
  try simp only [List.setIfInBounds_toArray, List.set_cons_zero, List.set_cons_succ]
  refine take_at (i := 11) (d := 17) (v := ?_) rfl rfl (by kernel_rfl) (by kernel_rfl) (by kernel_rfl) (fun _ _ _ _ => NormalOnly.any) rfl ?hy11 HS ?rest11
  case hy11 => intro w' hSw; (try dsimp only at hSw); go_simp; try (with_reducible rfl)
  try simp only [List.setIfInBounds_toArray, List.set_cons_zero, List.set_cons_succ]
  refine take_at (i := 12) (d := 18) (v := ?_) rfl rfl (by kernel_rfl) (by kernel_rfl) (by kernel_rfl) (fun _ _ _ _ => NormalOnly.any) rfl ?hy12 HS ?rest12
  case hy12 => intro w' hSw; (try dsimp only at hSw); go_simp; try (with_reducible rfl)
  try simp only [List.setIfInBounds_toArray, List.set_cons_zero, List.set_cons_succ]
  refine wpAnyH_ready (rs := [10]) (by kernel_rfl) (by simp) ?_
  refine AllReadyH.cons rfl (fun K hK => ?_) AllReadyH.nil
  go_simp
  refine H1.out.mono ?_
  rintro e w' ⟨rfl, rfl⟩
  dsimp only
  refine hK.out _ _ HS (fun _ => ?_)
  clear hK
  refine wpAnyH_ready (rs := [13]) (by kernel_rfl) (by simp) ?_
  refine AllReadyH.cons rfl (fun K hK => ?_) AllReadyH.nil
  go_simp
  refine H2.out.mono ?_
  rintro e w' ⟨rfl, rfl⟩
  dsimp only
  refine hK.out _ _ HS (fun _ => ?_)
  clear hK
  have HN : (W.alloc (.cells #[.int .i64 x, .int .i64 y] 3)).drew.cell? ⟨bl, 0, none⟩ = some (.slice a E.length cap) ∧ (W.alloc (.cells #[.int .i64 x, .int .i64 y] 3)).drew.cell? ⟨(A i).block, (A i).off + 2, none⟩ = some (.int .i64 (eAt E i).w) ∧ (W.alloc (.cells #[.int .i64 x, .int .i64 y] 3)).drew.cell? ⟨(A j).block, (A j).off + 2, none⟩ = some (.int .i64 (eAt E j).w) :=
    ⟨(World.cell?_alloc_some W _ _ (by rw [show W.cell? _ = _ from HS.1]; rfl)).trans HS.1, (World.cell?_alloc_some W _ _ (by rw [show W.cell? _ = _ from HS.2.1]; rfl)).trans HS.2.1, (World.cell?_alloc_some W _ _ (by rw [show W.cell? _ = _ from HS.2.2]; rfl)).trans HS.2.2⟩
  have hnew := two_cells W (.int .i64 x) (.int .i64 y) 3
  have HO2 := Lib.hid (HO.out (W.alloc (.cells #[.int .i64 x, .int .i64 y] 3)).drew hnew.1 hnew.2)
  clear HO hnew
  refine wpAnyH_ready (rs := [14]) (by kernel_rfl) (by simp) ?_
  refine AllReadyH.cons rfl (fun K hK => ?_) AllReadyH.nil
  go_simp
  refine hK.out _ _ HN (fun _ => ?_)
  clear hK
  refine wpAnyH_ready (rs := [15]) (by kernel_rfl) (by simp) ?_
  refine AllReadyH.cons rfl (fun K hK => ?_) AllReadyH.nil
  go_simp
  refine HO2.out.mono ?_
  rintro e w' ⟨rfl, rfl⟩
  dsimp only
  refine hK.out _ _ HN (fun HS => ?_)
  clear hK
  refine take_at (i := 16) (d := 5) (v := ?_) rfl rfl (by kernel_rfl) (by kernel_rfl) (by kernel_rfl) (fun _ _ _ _ => NormalOnly.any) rfl ?hy13 HS ?rest13
  case hy13 => intro w' hSw; (try dsimp only at hSw); go_simp; try (with_reducible rfl)
  try simp only [List.setIfInBounds_toArray, List.set_cons_zero, List.set_cons_succ]
  refine wpAnyH_done (by kernel_rfl) ⟨rfl, ?_⟩ _
  go_wp2_with fail
  go_ret
  refine ⟨by rw [HR.out]; rfl, 1, #[.cells #[.int .i64 x, .int .i64 y] 3], ?_⟩
  rw [← alloc_eq_grow]; rfl
end Go.Proofs.YtpbgophogneecaaGreat
