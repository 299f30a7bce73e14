/- The walks of leaf, inner and below of package recon, and of the conditions that leasts makes of them. Conditions: the tree was made by Build. -/
import Derived.Test.YtpbgophogneecaaGreatRcB
namespace Go.Proofs.YtpbgophogneecaaGreat
open Go.RowKit

section
variable {w w' : World} {B B' n z x i : Nat} {b : Blk} {E : List Ed} {f : List Nat}
theorem tr_row (w : World) (n z : Nat) (b : Blk) (t : TypeId) : Row (w.alloc (.cells (trV n z b) t)) w.heap.size 6 (trC n z b) :=
  Row.lit w _ _ (by simp [trV]) fun i hi => by
    match i, hi with
    | 0, _ => rfl
    | 1, _ => rfl
    | 2, _ => rfl
    | 3, _ => rfl
    | 4, _ => rfl
    | 5, _ => rfl
    | k + 6, h => omega
/-- a variable that holds a tree -/
def TrBox (w : World) (g n z : Nat) (b : Blk) : Prop := Row w g 6 (trC n z b)
theorem TrBox.c0 (h : TrBox w i n z b) : w.cell? ⟨i, 0, none⟩ = some (.int .i64 (n : Nat)) := Row.cell h (i := 0) (by omega)
theorem TrBox.c1 (h : TrBox w i n z b) : w.cell? ⟨i, 1, none⟩ = some (.slice (some ⟨b.l, 0, none⟩) z z) := Row.cell h (i := 1) (by omega)
theorem TrBox.c2 (h : TrBox w i n z b) : w.cell? ⟨i, 2, none⟩ = some (.slice (some ⟨b.r, 0, none⟩) z z) := Row.cell h (i := 2) (by omega)
theorem TrBox.c3 (h : TrBox w i n z b) : w.cell? ⟨i, 3, none⟩ = some (.slice (some ⟨b.p, 0, none⟩) z z) := Row.cell h (i := 3) (by omega)
theorem TrBox.c4 (h : TrBox w i n z b) : w.cell? ⟨i, 4, none⟩ = some (.slice (some ⟨b.h, 0, none⟩) z z) := Row.cell h (i := 4) (by omega)
theorem TrBox.c5 (h : TrBox w i n z b) : w.cell? ⟨i, 5, none⟩ = some (.slice (some ⟨b.s, 0, none⟩) z z) := Row.cell h (i := 5) (by omega)
theorem stL_leaf (h : x < n) : stL E f n i x = -1 := by unfold stL; rw [if_neg (by omega)]
theorem stR_leaf (h : x < n) : stR E f n i x = -1 := by unfold stR; rw [if_neg (by omega)]
theorem stH_leaf (h : x < n) : stH E f n i x = 0 := by unfold stH; rw [if_neg (by omega)]
theorem stZ_leaf (h : x < n) : stZ E f n i x = 1 := by unfold stZ; rw [if_pos (by omega), szT_leaf h]; rfl
theorem stL_at {j : Nat} (h : j < i) : stL E f n i (n + j) = ((nd E f n j (mA E f j) : Nat) : Int) := by unfold stL; rw [if_pos (by omega), Nat.add_sub_cancel_left]
theorem stR_at {j : Nat} (h : j < i) : stR E f n i (n + j) = ((nd E f n j (mB E f j) : Nat) : Int) := by unfold stR; rw [if_pos (by omega), Nat.add_sub_cancel_left]
theorem stH_at {j : Nat} (h : j < i) : stH E f n i (n + j) = (eAt E (f.getD j 0)).w := by unfold stH; rw [if_pos (by omega), Nat.add_sub_cancel_left]
theorem stZ_at (h : x < n + i) : stZ E f n i x = ((szT E f n x : Nat) : Int) := if_pos h
end
set_option maxRecDepth 100000 in
set_option maxHeartbeats 1000000 in
theorem leaf_any (B n z x : Nat) (b : Blk) (E : List Ed) (f : List Nat) (w : World) (h : TrAt w B n z b E f) (hB : B ≤ w.heap.size) (hx : x < n) :
    Calls Tryz.prog 64 #[.agg (trV n z b), .int .i64 (x : Nat)] w fun e w' => e = .returned (.bool true) ∧ Below w.heap.size w w' := by
  have hA : Below w.heap.size w (w.alloc (.cells (trV n z b) 57)) := (Below.refl _ _).alloc (Nat.le_refl _) _
  have hT : TrBox (w.alloc (.cells (trV n z b) 57)) w.heap.size n z b := tr_row w n z b _
  have h1 := (h.mono hB).below hA
  obtain ⟨tv, htv⟩ : ∃ x, trV n z b = x := ⟨_, rfl⟩
  rw [htv] at hA hT h1 ⊢
  clear htv
  have hz : x < z := by have := h.z_eq; omega
  have hxi : (0 : Int) ≤ x ∧ (x : Int) < z := by omega
  have HA := Lib.hid hA
  clear h hA
  go_enter Tryz.func64, Tryz.ntmps64
  go_upto_region 1 with (fail)
  generalize w.alloc (.cells tv 57) = wa at *
  have c1 := hT.c1
  have c2 := hT.c2
  have c4 := hT.c4
  have c5 := hT.c5
  have r1 : wa.cell? ⟨b.l, x, none⟩ = some (.int .i64 (-1)) := by rw [h1.rl.cell hz]; unfold intF; rw [stL_leaf hx]
  have r2 : wa.cell? ⟨b.r, x, none⟩ = some (.int .i64 (-1)) := by rw [h1.rr.cell hz]; unfold intF; rw [stR_leaf hx]
  have r4 : wa.cell? ⟨b.h, x, none⟩ = some (.int .i64 0) := by rw [h1.rh.cell hz]; unfold intF; rw [stH_leaf hx]
  have r5 : wa.cell? ⟨b.s, x, none⟩ = some (.int .i64 1) := by rw [h1.rs.cell hz]; unfold intF; rw [stZ_leaf hx]
  clear h1 hT
  go_wp2_with fail
  go_ret
  exact ⟨rfl, HA.out⟩
set_option maxRecDepth 100000 in
set_option maxHeartbeats 1000000 in
theorem below_any (B n z x : Nat) (b : Blk) (E : List Ed) (f : List Nat) (w : World) (h : TrAt w B n z b E f) (hB : B ≤ w.heap.size) (hx : x < z) :
    Calls Tryz.prog 68 #[.agg (trV n z b), .int .i64 (x : Nat)] w fun e w' => e = .returned (.bool true) ∧ Below w.heap.size w w' := by
  have hA : Below w.heap.size w (w.alloc (.cells (trV n z b) 57)) := (Below.refl _ _).alloc (Nat.le_refl _) _
  have hT : TrBox (w.alloc (.cells (trV n z b) 57)) w.heap.size n z b := tr_row w n z b _
  have h1 := (h.mono hB).below hA
  obtain ⟨tv, htv⟩ : ∃ x, trV n z b = x := ⟨_, rfl⟩
  rw [htv] at hA hT h1 ⊢
  clear htv
  have hxi : (0 : Int) ≤ x ∧ (x : Int) < z := by omega
  have HA := Lib.hid hA
  have F := h.fo
  have hze := h.z_eq
  have hnl := h.n_le
  clear h hA
  go_enter Tryz.func68, Tryz.ntmps68
  go_upto_region 1 with (fail)
  generalize w.alloc (.cells tv 57) = wa at *
  have c1 := hT.c1
  have c2 := hT.c2
  have c3 := hT.c3
  have r3 : wa.cell? ⟨b.p, x, none⟩ = some (.int .i64 (pvI n (pk E f n f.length x))) := h1.rp.cell hx
  cases hp : pk E f n f.length x with
  | none =>
    rw [hp] at r3
    replace r3 : wa.cell? ⟨b.p, x, none⟩ = some (.int .i64 (-1)) := r3
    clear h1 hT hp F hze
    go_wp2_with fail
    go_ret
    exact ⟨rfl, HA.out⟩
  | some i =>
    rw [hp] at r3
    have hil := pk_lt hp
    have hn := pk_node hp
    obtain ⟨y, hy⟩ : ∃ y, n + i = y := ⟨_, rfl⟩
    replace r3 : wa.cell? ⟨b.p, x, none⟩ = some (.int .i64 (y : Nat)) := by rw [← hy]; exact r3
    have hyz : y < z := by omega
    have r1 : wa.cell? ⟨b.l, y, none⟩ = some (.int .i64 (nd E f n i (mA E f i) : Nat)) := by rw [h1.rl.cell hyz, ← hy]; unfold intF; rw [stL_at hil]
    have r2 : wa.cell? ⟨b.r, y, none⟩ = some (.int .i64 (nd E f n i (mB E f i) : Nat)) := by rw [h1.rr.cell hyz, ← hy]; unfold intF; rw [stR_at hil]
    have hyi : (0 : Int) ≤ y ∧ (y : Int) < z := by omega
    have hy1 : ((y : Int) == -1) = false := by simp
    have hy2 : decide ((0 : Int) ≤ y) = true := decide_eq_true (by omega)
    have hy3 : decide ((y : Int) < z) = true := decide_eq_true (by omega)
    have hy4 : decide (y < z) = true := decide_eq_true hyz
    by_cases e : nd E f n i (mA E f i) = x
    · have he : ((nd E f n i (mA E f i) : Nat) : Int) == (x : Int) := by simp [e]
      have he : (((nd E f n i (mA E f i) : Nat) : Int) == (x : Int)) = true := he
      generalize nd E f n i (mA E f i) = lf at *
      generalize nd E f n i (mB E f i) = rg at *
      have he2 : (lf == x) = true := by simp [e]
      clear h1 hT hp F hze hy hn e
      go_wp2_with fail
      go_ret
      exact ⟨rfl, HA.out⟩
    · have e2 : nd E f n i (mB E f i) = x := by
        rcases hn with h | h
        · exact h.symm
        · exact absurd h.symm e
      generalize nd E f n i (mA E f i) = lf at *
      generalize nd E f n i (mB E f i) = rg at *
      have he : ((lf : Int) == (x : Int)) = false := by simp; omega
      have he2 : (lf == x) = false := by simp [e]
      have he3 : ((rg : Int) == (x : Int)) = true := by simp [e2]
      have he4 : (rg == x) = true := by simp [e2]
      clear h1 hT hp F hze hy hn e e2
      go_wp2_with fail
      go_ret
      exact ⟨rfl, HA.out⟩
set_option maxRecDepth 100000 in
set_option maxHeartbeats 2000000 in
theorem inner_any (B n z i y g : Nat) (b : Blk) (E : List Ed) (f : List Nat) (w : World) (h : TrAt w B n z b E f) (hB : B ≤ w.heap.size) (hi : i < f.length) (hy : n + i = y) (hs : ∀ j, j < i → (eAt E (f.getD j 0)).w ≤ (eAt E (f.getD i 0)).w)
    (hg : g < w.heap.size) (hl : w.cell? ⟨g, nd E f n i (mA E f i), none⟩ = some (.int .i64 (mA E f i : Nat))) (hr : w.cell? ⟨g, nd E f n i (mB E f i), none⟩ = some (.int .i64 (mB E f i : Nat))) :
    Calls Tryz.prog 66 #[.agg (trV n z b), .slice (some ⟨g, 0, none⟩) z z, .int .i64 (y : Nat)] w fun e w' => e = .returned (.bool true) ∧ Below w.heap.size w w' := by
  have hA : Below w.heap.size w (w.alloc (.cells (trV n z b) 57)) := (Below.refl _ _).alloc (Nat.le_refl _) _
  have hT : TrBox (w.alloc (.cells (trV n z b) 57)) w.heap.size n z b := tr_row w n z b _
  have h1 := (h.mono hB).below hA
  have hl := (hA.cell (p := ⟨g, nd E f n i (mA E f i), none⟩) hg).trans hl
  have hr := (hA.cell (p := ⟨g, nd E f n i (mB E f i), none⟩) hg).trans hr
  obtain ⟨tv, htv⟩ : ∃ x, trV n z b = x := ⟨_, rfl⟩
  rw [htv] at hA hT h1 hl hr ⊢
  clear htv
  have HA := Lib.hid hA
  have F := h.fo
  have hze := h.z_eq
  have hz8 := h.z_le
  have hnl := h.n_le
  have hab := F.mlt hi
  have hlf : nd E f n i (mA E f i) < n + i := nd_lt (F.mA_n hi)
  have hrg : nd E f n i (mB E f i) < n + i := nd_lt (F.mB_n hi)
  have hlr : nd E f n i (mA E f i) ≠ nd E f n i (mB E f i) := fun e => by have := nd_inj (F.mA_n hi) (F.mB_n hi) e; omega
  have hp1 : pk E f n f.length (nd E f n i (mA E f i)) = some i := pk_of F (Nat.le_refl _) hi (.inr rfl)
  have hp2 : pk E f n f.length (nd E f n i (mB E f i)) = some i := pk_of F (Nat.le_refl _) hi (.inl rfl)
  have hszs : szT E f n y = szT E f n (nd E f n i (mA E f i)) + szT E f n (nd E f n i (mB E f i)) := by rw [← hy]; exact szT_sum F hi
  have hn0 : 0 < n := by have := F.mA_n hi; omega
  have hs1 : szT E f n (nd E f n i (mA E f i)) ≤ n := szT_le hn0
  have hs2 : szT E f n (nd E f n i (mB E f i)) ≤ n := szT_le hn0
  have hyz : y < z := by omega
  have e1 : stZ E f n f.length (nd E f n i (mA E f i)) = ((szT E f n (nd E f n i (mA E f i)) : Nat) : Int) := stZ_at (by omega)
  have e2 : stZ E f n f.length (nd E f n i (mB E f i)) = ((szT E f n (nd E f n i (mB E f i)) : Nat) : Int) := stZ_at (by omega)
  have e3 : stZ E f n f.length y = ((szT E f n y : Nat) : Int) := stZ_at (by omega)
  have r1 : (w.alloc (.cells tv 57)).cell? ⟨b.l, y, none⟩ = some (.int .i64 (nd E f n i (mA E f i) : Nat)) := by rw [h1.rl.cell hyz, ← hy]; unfold intF; rw [stL_at hi]
  have r2 : (w.alloc (.cells tv 57)).cell? ⟨b.r, y, none⟩ = some (.int .i64 (nd E f n i (mB E f i) : Nat)) := by rw [h1.rr.cell hyz, ← hy]; unfold intF; rw [stR_at hi]
  have r3 : (w.alloc (.cells tv 57)).cell? ⟨b.p, nd E f n i (mA E f i), none⟩ = some (.int .i64 (y : Nat)) := by
    rw [h1.rp.cell (by omega), ← hy]; unfold intF stP; rw [hp1]; rfl
  have r4 : (w.alloc (.cells tv 57)).cell? ⟨b.p, nd E f n i (mB E f i), none⟩ = some (.int .i64 (y : Nat)) := by
    rw [h1.rp.cell (by omega), ← hy]; unfold intF stP; rw [hp2]; rfl
  have r5 : (w.alloc (.cells tv 57)).cell? ⟨b.s, y, none⟩ = some (.int .i64 ((szT E f n (nd E f n i (mA E f i)) : Nat) + (szT E f n (nd E f n i (mB E f i)) : Nat) : Int)) := by
    rw [h1.rs.cell hyz]; unfold intF; rw [e3, hszs, Int.natCast_add]
  have r6 : (w.alloc (.cells tv 57)).cell? ⟨b.s, nd E f n i (mA E f i), none⟩ = some (.int .i64 (szT E f n (nd E f n i (mA E f i)) : Nat)) := by
    rw [h1.rs.cell (by omega)]; unfold intF; rw [e1]
  have r7 : (w.alloc (.cells tv 57)).cell? ⟨b.s, nd E f n i (mB E f i), none⟩ = some (.int .i64 (szT E f n (nd E f n i (mB E f i)) : Nat)) := by
    rw [h1.rs.cell (by omega)]; unfold intF; rw [e2]
  have r8 : (w.alloc (.cells tv 57)).cell? ⟨b.h, y, none⟩ = some (.int .i64 (eAt E (f.getD i 0)).w) := by rw [h1.rh.cell hyz, ← hy]; unfold intF; rw [stH_at hi]
  have r9 : 0 < i → (w.alloc (.cells tv 57)).cell? ⟨b.h, y - 1, none⟩ = some (.int .i64 (eAt E (f.getD (i - 1) 0)).w) := fun h0 => by
    rw [h1.rh.cell (by omega), show y - 1 = n + (i - 1) by omega]; unfold intF; rw [stH_at (by omega)]
  have hw9 : 0 < i → (eAt E (f.getD (i - 1) 0)).w ≤ (eAt E (f.getD i 0)).w := fun h0 => hs (i - 1) (by omega)
  clear h h1 hp1 hp2 F e1 e2 e3 hszs hA hs hze
  generalize nd E f n i (mA E f i) = lf at *
  generalize nd E f n i (mB E f i) = rg at *
  generalize mA E f i = ma at *
  generalize mB E f i = mb at *
  generalize szT E f n lf = z1 at *
  generalize szT E f n rg = z2 at *
  generalize (eAt E (f.getD i 0)).w = h8 at *
  generalize (eAt E (f.getD (i - 1) 0)).w = h9 at *
  have R := Lib.hid (And.intro r3 (And.intro r4 (And.intro hl hr)))
  have R2 := Lib.hid (And.intro r5 (And.intro r6 r7))
  have R3 := Lib.hid (And.intro r8 (And.intro r9 hw9))
  have HT := Lib.hid hT
  clear r3 r4 hl hr r5 r6 r7 r8 r9 hw9 hT
  have c1 := HT.out.c1
  have c2 := HT.out.c2
  have hyi : (0 : Int) ≤ y ∧ (y : Int) < z := by omega
  go_enter Tryz.func66, Tryz.ntmps66
  go_upto_region 1 with (fail)
  generalize w.alloc (.cells tv 57) = wa at *
  go_quiet (fail)
  have b1 : (0 : Int) ≤ lf ∧ (lf : Int) < z := by omega
  have b2 : (0 : Int) ≤ rg ∧ (rg : Int) < z := by omega
  have d1 : decide ((lf : Int) < 0) = false := decide_eq_false (by omega)
  have d2 : decide ((rg : Int) < 0) = false := decide_eq_false (by omega)
  have d3 : decide ((y : Int) ≤ lf) = false := decide_eq_false (by omega)
  have d4 : decide ((y : Int) ≤ rg) = false := decide_eq_false (by omega)
  have d5 : decide (y ≤ lf) = false := decide_eq_false (by omega)
  have d6 : decide (y ≤ rg) = false := decide_eq_false (by omega)
  have d7 : ((lf : Int) == (rg : Int)) = false := by simp; omega
  have d8 : (lf == rg) = false := by simp; exact hlr
  clear r1 r2
  obtain ⟨W2, hW2⟩ : ∃ x, wa.drewN nq = x := ⟨_, rfl⟩
  rw [hW2]
  have HA := Lib.hid (show Below w.heap.size w W2 by rw [← hW2]; exact below_drewN HA.out nq)
  have HT := Lib.hid (show TrBox W2 w.heap.size n z b by rw [← hW2]; exact Row.drewN HT.out nq)
  have R := Lib.hid (show _ ∧ _ ∧ _ ∧ _ from by
    have r := R.out
    exact (show W2.cell? ⟨b.p, lf, none⟩ = some (.int .i64 (y : Nat)) ∧ W2.cell? ⟨b.p, rg, none⟩ = some (.int .i64 (y : Nat)) ∧ W2.cell? ⟨g, lf, none⟩ = some (.int .i64 (ma : Nat)) ∧ W2.cell? ⟨g, rg, none⟩ = some (.int .i64 (mb : Nat)) by rw [← hW2]; exact r))
  have R2 := Lib.hid (show W2.cell? ⟨b.s, y, none⟩ = some (.int .i64 ((z1 : Nat) + (z2 : Nat) : Int)) ∧ W2.cell? ⟨b.s, lf, none⟩ = some (.int .i64 (z1 : Nat)) ∧ W2.cell? ⟨b.s, rg, none⟩ = some (.int .i64 (z2 : Nat)) by rw [← hW2]; exact R2.out)
  have R3 := Lib.hid (show W2.cell? ⟨b.h, y, none⟩ = some (.int .i64 h8) ∧ (0 < i → W2.cell? ⟨b.h, y - 1, none⟩ = some (.int .i64 h9)) ∧ (0 < i → h9 ≤ h8) by rw [← hW2]; exact R3.out)
  clear hW2 c1 c2
  go_wp2_with fail
  obtain ⟨r3, r4, hl, hr⟩ := R.out
  have c3 := HT.out.c3
  have m1 : decide ((mb : Int) ≤ ma) = false := decide_eq_false (by omega)
  have m2 : decide (mb ≤ ma) = false := decide_eq_false (by omega)
  have m3 : ((y : Int) != (y : Int)) = false := by simp
  go_quiet (fail)
  clear r3 r4 hl hr c3 R
  generalize hW3 : W2.drewN _ = W3
  have HA := Lib.hid (show Below w.heap.size w W3 by rw [← hW3]; exact below_drewN HA.out _)
  have HT := Lib.hid (show TrBox W3 w.heap.size n z b by rw [← hW3]; exact Row.drewN HT.out _)
  have R2 := Lib.hid (show W3.cell? ⟨b.s, y, none⟩ = some (.int .i64 ((z1 : Nat) + (z2 : Nat) : Int)) ∧ W3.cell? ⟨b.s, lf, none⟩ = some (.int .i64 (z1 : Nat)) ∧ W3.cell? ⟨b.s, rg, none⟩ = some (.int .i64 (z2 : Nat)) by rw [← hW3]; exact R2.out)
  have R3 := Lib.hid (show W3.cell? ⟨b.h, y, none⟩ = some (.int .i64 h8) ∧ (0 < i → W3.cell? ⟨b.h, y - 1, none⟩ = some (.int .i64 h9)) ∧ (0 < i → h9 ≤ h8) by rw [← hW3]; exact R3.out)
  clear hW3
  go_wp2_with fail
  obtain ⟨r5, r6, r7⟩ := R2.out
  have c5 := HT.out.c5
  have hsum : IntKind.i64.wrap ((z1 : Int) + (z2 : Int)) = (z1 : Int) + (z2 : Int) := IntWalk.i64_in _ (by omega)
  have m4 : (((z1 : Int) + (z2 : Int)) != ((z1 : Int) + (z2 : Int))) = false := by simp
  go_quiet (fail)
  clear r5 r6 r7 c5 R2 hsum m4
  generalize hW4 : W3.drewN _ = W4
  have HA := Lib.hid (show Below w.heap.size w W4 by rw [← hW4]; exact below_drewN HA.out _)
  have HT := Lib.hid (show TrBox W4 w.heap.size n z b by rw [← hW4]; exact Row.drewN HT.out _)
  have R3 := Lib.hid (show W4.cell? ⟨b.h, y, none⟩ = some (.int .i64 h8) ∧ (0 < i → W4.cell? ⟨b.h, y - 1, none⟩ = some (.int .i64 h9)) ∧ (0 < i → h9 ≤ h8) by rw [← hW4]; exact R3.out)
  clear hW4
  go_wp2_with fail
  have c0 := HT.out.c0
  have c4 := HT.out.c4
  by_cases h0 : 0 < i
  · obtain ⟨r8, r9, hw⟩ := R3.out
    have r9 := r9 h0
    have hw := hw h0
    obtain ⟨x, hx⟩ : ∃ x, x + 1 = y := ⟨y - 1, by omega⟩
    rw [show y - 1 = x by omega] at r9
    have k1 : ((y : Int) == (n : Int)) = false := by simp; omega
    have k2 : (y == n) = false := by simp; omega
    have k3 : (y : Int) - 1 = (x : Int) := by omega
    have k4 : IntKind.i64.wrap ((y : Int) - 1) = (x : Int) := by rw [k3]; exact IntWalk.i64_in _ (by omega)
    have k5 : (0 : Int) ≤ x ∧ (x : Int) < z := by omega
    have k6 : decide (h9 ≤ h8) = true := decide_eq_true hw
    clear hx hw R3 h0
    go_quiet (fail)
    go_wp2_with fail
    go_ret
    exact ⟨rfl, below_drewN HA.out _⟩
  · have k1 : ((y : Int) == (n : Int)) = true := by simp; omega
    have k2 : (y == n) = true := by simp; omega
    clear R3
    go_quiet (fail)
    go_wp2_with fail
    go_ret
    exact ⟨rfl, below_drewN HA.out _⟩
end Go.Proofs.YtpbgophogneecaaGreat
