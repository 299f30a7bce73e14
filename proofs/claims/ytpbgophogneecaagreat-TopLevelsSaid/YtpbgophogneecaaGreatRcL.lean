/- The walks of the conditions that leasts of package recon makes, and of leasts. Conditions: the tree was made by Build. -/
import Derived.Test.YtpbgophogneecaaGreatRcT
import Derived.Laws.EntriesVeiled
import Derived.LoopN
namespace Go.Proofs.YtpbgophogneecaaGreat
open Go.RowKit

set_option maxRecDepth 100000 in
set_option maxHeartbeats 1000000 in
theorem cond1_any (B n z x bt : Nat) (b : Blk) (E : List Ed) (f : List Nat) (w : World) (h : TrAt w B n z b E f) (hB : B ≤ w.heap.size) (hT : TrBox w bt n z b) :
    Calls Tryz.prog 63 #[.int .i64 (x : Nat), .pointer (some ⟨bt, 0, none⟩)] w fun e w' => e = .returned (.bool true) ∧ Below w.heap.size w w' := by
  have c0 := hT.c0
  by_cases hn : x < n
  · have HL := Lib.hid (leaf_any B n z x b E f w h hB hn)
    unfold trV at HL
    have c1 := hT.c1
    have c2 := hT.c2
    have c3 := hT.c3
    have c4 := hT.c4
    have c5 := hT.c5
    have d1 : decide ((n : Int) ≤ x) = false := decide_eq_false (by omega)
    have d2 : decide (n ≤ x) = false := decide_eq_false (by omega)
    clear h hT
    go_enter Tryz.func63, Tryz.ntmps63
    go_wp2_with fail
    refine HL.out.mono ?_
    clear HL
    rintro e w1 ⟨rfl, hb⟩
    go_wp2_with fail
    go_ret
    exact ⟨rfl, hb⟩
  · have d1 : decide ((n : Int) ≤ x) = true := decide_eq_true (by omega)
    have d2 : decide (n ≤ x) = true := decide_eq_true (by omega)
    clear h hT
    go_enter Tryz.func63, Tryz.ntmps63
    go_wp2_with fail
    go_ret
    exact ⟨rfl, Below.refl _ _⟩
set_option maxRecDepth 100000 in
set_option maxHeartbeats 1000000 in
theorem cond3_any (B n z x bt : Nat) (b : Blk) (E : List Ed) (f : List Nat) (w : World) (h : TrAt w B n z b E f) (hB : B ≤ w.heap.size) (hT : TrBox w bt n z b) (hx : x < z) :
    Calls Tryz.prog 67 #[.int .i64 (x : Nat), .pointer (some ⟨bt, 0, none⟩)] w fun e w' => e = .returned (.bool true) ∧ Below w.heap.size w w' := by
  have HL := Lib.hid (below_any B n z x b E f w h hB hx)
  unfold trV at HL
  have c0 := hT.c0
  have c1 := hT.c1
  have c2 := hT.c2
  have c3 := hT.c3
  have c4 := hT.c4
  have c5 := hT.c5
  clear h hT
  go_enter Tryz.func67, Tryz.ntmps67
  go_wp2_with fail
  refine HL.out.mono ?_
  clear HL
  rintro e w1 ⟨rfl, hb⟩
  go_wp2_with fail
  go_ret
  exact ⟨rfl, hb⟩
/-- the least leaves of the nodes below k -/
def lsF (E : List Ed) (f : List Nat) (n k y : Nat) : Nat := if y < k then lst E f n y else 0
theorem lsF_in {E : List Ed} {f : List Nat} {n k y : Nat} (h : y < k) : lsF E f n k y = lst E f n y := if_pos h
set_option maxRecDepth 100000 in
set_option maxHeartbeats 1000000 in
theorem cond2_any (B n z x bt g vb : Nat) (b : Blk) (E : List Ed) (o : List Nat) (F : Nat → Value) (w : World) (h : TrAt w B n z b E (frs E o)) (ho : OrdOf E o) (hB : B ≤ w.heap.size) (hT : TrBox w bt n z b) (hx : x < z)
    (hv : w.cell? ⟨vb, 0, none⟩ = some (.slice (some ⟨g, 0, none⟩) z z)) (hg : Row w g z F) (hF : ∀ y, y < x → F y = .int .i64 (lst E (frs E o) n y : Nat)) :
    Calls Tryz.prog 65 #[.int .i64 (x : Nat), .pointer (some ⟨bt, 0, none⟩), .pointer (some ⟨vb, 0, none⟩)] w fun e w' => e = .returned (.bool true) ∧ Below w.heap.size w w' := by
  have c0 := hT.c0
  by_cases hn : x < n
  · have d1 : decide ((x : Int) < n) = true := decide_eq_true (by omega)
    have d2 : decide (x < n) = true := decide_eq_true (by omega)
    clear h hT hv hg hF
    go_enter Tryz.func65, Tryz.ntmps65
    go_wp2_with fail
    go_ret
    exact ⟨rfl, Below.refl _ _⟩
  · have d1 : decide ((x : Int) < n) = false := decide_eq_false (by omega)
    have d2 : decide (x < n) = false := decide_eq_false (by omega)
    have hfo := h.fo
    have hze := h.z_eq
    obtain ⟨i, hi⟩ : ∃ i, n + i = x := ⟨x - n, by omega⟩
    have hil : i < (frs E o).length := by omega
    have hlf : nd E (frs E o) n i (mA E (frs E o) i) < n + i := nd_lt (hfo.mA_n hil)
    have hrg : nd E (frs E o) n i (mB E (frs E o) i) < n + i := nd_lt (hfo.mB_n hil)
    have HL := Lib.hid (inner_any B n z i x g b E (frs E o) w h hB hil hi (fun j hj => frs_ws ho hj hil) hg.lt
      (by rw [hg.cell (by omega), hF _ (by omega), lst_nd (hfo.mA_n hil)]) (by rw [hg.cell (by omega), hF _ (by omega), lst_nd (hfo.mB_n hil)]))
    unfold trV at HL
    have c1 := hT.c1
    have c2 := hT.c2
    have c3 := hT.c3
    have c4 := hT.c4
    have c5 := hT.c5
    clear h hT hg hF hfo hze hi hil hlf hrg
    go_enter Tryz.func65, Tryz.ntmps65
    go_wp2_with fail
    refine HL.out.mono ?_
    clear HL
    rintro e w1 ⟨rfl, hb⟩
    go_wp2_with fail
    go_ret
    exact ⟨rfl, hb⟩
/-- what leasts has laid: the tree, its box, the least leaves -/
structure LsM (w : World) (B n z bt g vb : Nat) (b : Blk) (E : List Ed) (o : List Nat) (F : Nat → Value) : Prop where
  tr : TrAt w B n z b E (frs E o)
  hB : B ≤ w.heap.size
  bx : TrBox w bt n z b
  cv : Row w vb 1 (fun _ => .slice (some ⟨g, 0, none⟩) z z)
  rg : Row w g z F
theorem LsM.below {w w' : World} {B n z bt g vb : Nat} {b : Blk} {E : List Ed} {o : List Nat} {F : Nat → Value} (h : LsM w B n z bt g vb b E o F) (hb : Below w.heap.size w w') : LsM w' B n z bt g vb b E o F :=
  ⟨h.tr.below (hb.mono h.hB), Nat.le_trans h.hB hb.size, Row.below h.bx hb (Row.lt h.bx), h.cv.below hb h.cv.lt, h.rg.below hb h.rg.lt⟩
theorem LsM.set {w : World} {B n z bt g vb : Nat} {b : Blk} {E : List Ed} {o : List Nat} {F : Nat → Value} (h : LsM w B n z bt g vb b E o F) (hg : B ≤ g) (h1 : bt ≠ g) (h2 : vb ≠ g) (x : Nat) (v : Value) : LsM (w.setCell ⟨g, x, none⟩ v) B n z bt g vb b E o (fun y => if y = x then v else F y) :=
  ⟨h.tr.below ((Below.refl _ _).setCell (p := ⟨g, x, none⟩) hg v), Nat.le_trans h.hB ((Below.refl B w).setCell (p := ⟨g, x, none⟩) hg v).size, Row.setOther h.bx h1 v, h.cv.setOther h2 v, h.rg.set x v⟩
theorem LsM.congr {w : World} {B n z bt g vb : Nat} {b : Blk} {E : List Ed} {o : List Nat} {F F' : Nat → Value} (h : LsM w B n z bt g vb b E o F) (e : ∀ i, i < z → F i = F' i) : LsM w B n z bt g vb b E o F' := ⟨h.tr, h.hB, h.bx, h.cv, h.rg.congr e⟩
/-- the conditions as they lie in memory -/
def fnC (bt vb : Nat) (i : Nat) : Value :=
  if i = 0 then .func (.func 63) #[] #[.pointer (some ⟨bt, 0, none⟩)] else if i = 1 then .func (.func 65) #[] #[.pointer (some ⟨bt, 0, none⟩), .pointer (some ⟨vb, 0, none⟩)] else .func (.func 67) #[] #[.pointer (some ⟨bt, 0, none⟩)]
set_option maxRecDepth 100000 in
set_option maxHeartbeats 1000000 in
theorem holds_any (B n z x bt g vb cb fb : Nat) (b : Blk) (E : List Ed) (o : List Nat) (F : Nat → Value) (w : World) (h : LsM w B n z bt g vb b E o F) (ho : OrdOf E o) (hx : x < z) (hF : ∀ y, y < x → F y = .int .i64 (lst E (frs E o) n y : Nat))
    (hc : Row w cb 1 (fun _ => .slice (some ⟨fb, 0, none⟩) 3 3)) (hf : Row w fb 3 (fnC bt vb)) :
    Calls Tryz.prog 69 #[.int .i64 (x : Nat), .pointer (some ⟨cb, 0, none⟩)] w fun e w' => e = .returned (.bool true) ∧ Below w.heap.size w w' := by
  have c0 : w.cell? ⟨cb, 0, none⟩ = some (.slice (some ⟨fb, 0, none⟩) 3 3) := hc.cell (i := 0) (by omega)
  have c1 : w.cell? ⟨fb, 0, none⟩ = some (.func (.func 63) #[] #[.pointer (some ⟨bt, 0, none⟩)]) := hf.cell (i := 0) (by omega)
  have H := Lib.hid h; have HF := Lib.hid hF; have HC := Lib.hid hc; have Hf := Lib.hid hf
  clear h hF hc hf
  go_enter Tryz.func69, Tryz.ntmps69
  go_wp2_with fail
  refine wp_loop_rounds 4 ?_
  rw [rounds_succ]
  go_wp2_with fail
  refine (cond1_any B n z x bt b E (frs E o) w H.out.tr H.out.hB H.out.bx).mono ?_
  rintro e w1 ⟨rfl, hb1⟩
  have H1 := Lib.hid (H.out.below hb1)
  have c2 : w1.cell? ⟨fb, 1, none⟩ = some (.func (.func 65) #[] #[.pointer (some ⟨bt, 0, none⟩), .pointer (some ⟨vb, 0, none⟩)]) := (Hf.out.below hb1 Hf.out.lt).cell (i := 1) (by omega)
  have HB1 := Lib.hid hb1
  clear hb1 c0 c1 H
  go_wp2_with fail
  rw [rounds_succ]
  go_wp2_with fail
  refine (cond2_any B n z x bt g vb b E o F w1 H1.out.tr ho H1.out.hB H1.out.bx hx (H1.out.cv.cell (i := 0) (by omega)) H1.out.rg HF.out).mono ?_
  rintro e w2 ⟨rfl, hb2⟩
  have H2 := Lib.hid (H1.out.below hb2)
  have hb12 := HB1.out.trans (hb2.mono HB1.out.size)
  have c3 : w2.cell? ⟨fb, 2, none⟩ = some (.func (.func 67) #[] #[.pointer (some ⟨bt, 0, none⟩)]) := (Hf.out.below hb12 Hf.out.lt).cell (i := 2) (by omega)
  have HB2 := Lib.hid hb12
  clear hb2 hb12 c2 H1 HB1
  go_wp2_with fail
  rw [rounds_succ]
  go_wp2_with fail
  refine (cond3_any B n z x bt b E (frs E o) w2 H2.out.tr H2.out.hB H2.out.bx hx).mono ?_
  rintro e w3 ⟨rfl, hb3⟩
  have HB3 := Lib.hid (HB2.out.trans (hb3.mono HB2.out.size))
  clear hb3 c3 H2 HB2
  go_wp2_with fail
  rw [rounds_succ]
  go_wp2_with fail
  go_ret
  exact ⟨rfl, HB3.out⟩
/-- what leasts answers -/
def LstRes (n z : Nat) (E : List Ed) (f : List Nat) (w : World) (e : Ending) (w' : World) : Prop :=
  ∃ g, e = .returned (.tuple #[.slice (some ⟨g, 0, none⟩) z z, .bool true]) ∧ Row w' g z (natC (lst E f n)) ∧ w.heap.size ≤ g ∧ Below w.heap.size w w'
set_option maxRecDepth 100000 in
set_option maxHeartbeats 2000000 in
theorem leasts_any (B n z : Nat) (b : Blk) (E : List Ed) (o : List Nat) (w : World) (h : TrAt w B n z b E (frs E o)) (ho : OrdOf E o) (hB : B ≤ w.heap.size) :
    Calls Tryz.prog 41 #[.agg (trV n z b)] w (LstRes n z E (frs E o) w) := by
  have hA : Below w.heap.size w (w.alloc (.cells (trV n z b) 57)) := (Below.refl _ _).alloc (Nat.le_refl _) _
  have hT : TrBox (w.alloc (.cells (trV n z b) 57)) w.heap.size n z b := tr_row w n z b _
  have h1 := (h.mono hB).below hA
  obtain ⟨tv, htv⟩ : ∃ x, trV n z b = x := ⟨_, rfl⟩
  rw [htv] at hA hT h1 ⊢
  have hz8 := h.z_le
  have hnl := h.n_le
  have hfl := h.fo.len_le
  have hze := h.z_eq
  have hnz : n ≤ z := by omega
  have hz2 : z ≤ 2 * n := by omega
  have HA := Lib.hid hA; have H1 := Lib.hid h1; have HT := Lib.hid hT
  have HS := Lib.hid (show (w.alloc (.cells tv 57)).heap.size = w.heap.size + 1 by simp)
  clear htv h h1 hA hT hze hfl
  have hmk : ∀ w, (Instr.makeSlice 46 (.int .i64 (z : Nat)) (.int .i64 (z : Nat))).run Tryz.prog w = .ok (.slice (some ⟨w.heap.size, 0, none⟩) z z) (w.alloc (.cells (madeCells #[.int .i64 0] z) 3)) := fun w =>
    run_make_row' (P := Tryz.prog) 46 3 (.int .i64 0) 8 Tryz.underlying46 Tryz.infoI rfl .i64 .i64 z (by omega) (by omega) w
  go_enter Tryz.func41, Tryz.ntmps41
  go_upto_region 1 with (fail)
  generalize w.alloc (.cells tv 57) = wa at *
  have c0 := HT.out.c0
  have c1 := HT.out.c1
  have c2 := HT.out.c2
  have c3 := HT.out.c3
  have c4 := HT.out.c4
  have c5 := HT.out.c5
  have d1 : decide ((n : Int) < 0) = false := decide_eq_false (by omega)
  have d2 : decide ((4096 : Int) < n) = false := decide_eq_false (by omega)
  have d3 : decide ((z : Int) < n) = false := decide_eq_false (by omega)
  have d4 : decide (z < n) = false := decide_eq_false (by omega)
  have d5 : decide (2 * (n : Int) < z) = false := decide_eq_false (by omega)
  have d6 : decide (4096 < n) = false := decide_eq_false (by omega)
  go_wp2_with fail
  have hbk : w.heap.size < wa.heap.size := by have := HS.out; omega
  have M1 : Row (wa.alloc (.cells (madeCells #[.int .i64 0] z) 3)) wa.heap.size z (natC (lsF E (frs E o) n 0)) := (Row.made wa (.int .i64 0) z 3).congr fun i _ => by unfold natC lsF; rw [if_neg (by omega)]; rfl
  have M2 : Row ((wa.alloc (.cells (madeCells #[.int .i64 0] z) 3)).alloc (.cells #[.slice (some ⟨wa.heap.size, 0, none⟩) z z] 46)) (wa.heap.size + 1) 1 (fun _ => .slice (some ⟨wa.heap.size, 0, none⟩) z z) := by
    have := Row.lit (wa.alloc (.cells (madeCells #[.int .i64 0] z) 3)) #[.slice (some ⟨wa.heap.size, 0, none⟩) z z] 46 (n := 1) (f := fun _ => .slice (some ⟨wa.heap.size, 0, none⟩) z z) (by simp) (fun i hi => by
      match i, hi with
      | 0, _ => rfl
      | k + 1, h => omega)
    rwa [World.size_alloc] at this
  have hb2 : Below wa.heap.size wa ((wa.alloc (.cells (madeCells #[.int .i64 0] z) 3)).alloc (.cells #[.slice (some ⟨wa.heap.size, 0, none⟩) z z] 46)) := ((Below.refl _ wa).alloc (Nat.le_refl _) _).alloc (by simp) _
  have M1 := M1.alloc (.cells #[.slice (some ⟨wa.heap.size, 0, none⟩) z z] 46)
  have hs2 : ((wa.alloc (.cells (madeCells #[.int .i64 0] z) 3)).alloc (.cells #[.slice (some ⟨wa.heap.size, 0, none⟩) z z] 46)).heap.size = wa.heap.size + 1 + 1 := by simp
  generalize (wa.alloc (.cells (madeCells #[.int .i64 0] z) 3)).alloc (.cells #[.slice (some ⟨wa.heap.size, 0, none⟩) z z] 46) = wb at *
  have M3 : Row (wb.alloc (.cells #[.func (.func 63) #[] #[.pointer (some ⟨w.heap.size, 0, none⟩)], .func (.func 65) #[] #[.pointer (some ⟨w.heap.size, 0, none⟩), .pointer (some ⟨wa.heap.size + 1, 0, none⟩)], .func (.func 67) #[] #[.pointer (some ⟨w.heap.size, 0, none⟩)]] 82)) (wa.heap.size + 1 + 1) 3 (fnC w.heap.size (wa.heap.size + 1)) := by
    rw [← hs2]
    exact Row.lit wb _ _ (by simp) (fun i hi => by
      match i, hi with
      | 0, _ => rfl
      | 1, _ => rfl
      | 2, _ => rfl
      | k + 3, h => omega)
  have hb3 := hb2.alloc (o := .cells #[.func (.func 63) #[] #[.pointer (some ⟨w.heap.size, 0, none⟩)], .func (.func 65) #[] #[.pointer (some ⟨w.heap.size, 0, none⟩), .pointer (some ⟨wa.heap.size + 1, 0, none⟩)], .func (.func 67) #[] #[.pointer (some ⟨w.heap.size, 0, none⟩)]] 82) (by omega)
  have hs3 : (wb.alloc (.cells #[.func (.func 63) #[] #[.pointer (some ⟨w.heap.size, 0, none⟩)], .func (.func 65) #[] #[.pointer (some ⟨w.heap.size, 0, none⟩), .pointer (some ⟨wa.heap.size + 1, 0, none⟩)], .func (.func 67) #[] #[.pointer (some ⟨w.heap.size, 0, none⟩)]] 82)).heap.size = wa.heap.size + 1 + 1 + 1 := by rw [World.size_alloc, hs2]
  have M1 := M1.alloc (.cells #[.func (.func 63) #[] #[.pointer (some ⟨w.heap.size, 0, none⟩)], .func (.func 65) #[] #[.pointer (some ⟨w.heap.size, 0, none⟩), .pointer (some ⟨wa.heap.size + 1, 0, none⟩)], .func (.func 67) #[] #[.pointer (some ⟨w.heap.size, 0, none⟩)]] 82)
  have M2 := M2.alloc (.cells #[.func (.func 63) #[] #[.pointer (some ⟨w.heap.size, 0, none⟩)], .func (.func 65) #[] #[.pointer (some ⟨w.heap.size, 0, none⟩), .pointer (some ⟨wa.heap.size + 1, 0, none⟩)], .func (.func 67) #[] #[.pointer (some ⟨w.heap.size, 0, none⟩)]] 82)
  generalize wb.alloc (.cells #[.func (.func 63) #[] #[.pointer (some ⟨w.heap.size, 0, none⟩)], .func (.func 65) #[] #[.pointer (some ⟨w.heap.size, 0, none⟩), .pointer (some ⟨wa.heap.size + 1, 0, none⟩)], .func (.func 67) #[] #[.pointer (some ⟨w.heap.size, 0, none⟩)]] 82) = wd at *
  have M4 : Row (wd.alloc (.cells #[.slice (some ⟨wa.heap.size + 1 + 1, 0, none⟩) 3 3] 128)) (wa.heap.size + 1 + 1 + 1) 1 (fun _ => .slice (some ⟨wa.heap.size + 1 + 1, 0, none⟩) 3 3) := by
    rw [← hs3]
    exact Row.lit wd _ _ (by simp) (fun i hi => by
      match i, hi with
      | 0, _ => rfl
      | k + 1, h => omega)
  have hb4 := hb3.alloc (o := .cells #[.slice (some ⟨wa.heap.size + 1 + 1, 0, none⟩) 3 3] 128) (by omega)
  have M1 := M1.alloc (.cells #[.slice (some ⟨wa.heap.size + 1 + 1, 0, none⟩) 3 3] 128)
  have M2 := M2.alloc (.cells #[.slice (some ⟨wa.heap.size + 1 + 1, 0, none⟩) 3 3] 128)
  have M3 := M3.alloc (.cells #[.slice (some ⟨wa.heap.size + 1 + 1, 0, none⟩) 3 3] 128)
  generalize wd.alloc (.cells #[.slice (some ⟨wa.heap.size + 1 + 1, 0, none⟩) 3 3] 128) = wf at *
  have HL := Lib.hid (show LsM wf w.heap.size n z w.heap.size wa.heap.size (wa.heap.size + 1) b E o (natC (lsF E (frs E o) n 0)) from
    ⟨H1.out.below (hb4.mono (Nat.le_of_lt hbk)), by have := hb4.size; omega, Row.below HT.out hb4 hbk, M2, M1⟩)
  have HM3 := Lib.hid M3; have HM4 := Lib.hid M4
  have HB := Lib.hid (HA.out.trans (hb4.mono (Nat.le_of_lt hbk)))
  generalize hg : wa.heap.size = g at *
  clear M1 M2 M3 M4 hb2 hb3 hb4 hs2 hs3 H1 HT HA HS c0 c1 c2 c3 c4 c5 d1 d2 d3 d4 d5 d6 hmk hg
  go_loopw [67] (fun iv wr => ∃ k : Nat, k ≤ z ∧ iv = .int .i64 (k : Nat) ∧ Hid (LsM wr w.heap.size n z w.heap.size g (g + 1) b E o (natC (lsF E (frs E o) n k))) ∧ Hid (Row wr (g + 1 + 1) 3 (fnC w.heap.size (g + 1))) ∧ Hid (Row wr (g + 1 + 1 + 1) 1 (fun _ => .slice (some ⟨g + 1 + 1, 0, none⟩) 3 3)) ∧ Hid (Below w.heap.size w wr)) (fun iv _ => z - (intOf iv).toNat)
  case atStart => exact ⟨0, Nat.zero_le _, rfl, HL, HM3, HM4, HB⟩
  case round =>
    clear HL HM3 HM4 HB
    obtain ⟨k, hk, rfl, HL, HM3, HM4, HB⟩ := hrel
    by_cases hlt : k < z
    · have hki : (0 : Int) ≤ k ∧ (k : Int) < z := by omega
      have cv := HL.out.cv.cell (i := 0) (by omega)
      have cr := HL.out.rg.cell hlt
      have fr := HL.out.rg.frozen k
      replace HL := Lib.hid (HL.out.set (Nat.le_of_lt hbk) (by omega) (by omega) k (.int .i64 (k : Nat)))
      replace HM3 := Lib.hid (HM3.out.setOther (a := ⟨g, k, none⟩) (by show g + 1 + 1 ≠ g; omega) (.int .i64 (k : Nat)))
      replace HM4 := Lib.hid (HM4.out.setOther (a := ⟨g, k, none⟩) (by show g + 1 + 1 + 1 ≠ g; omega) (.int .i64 (k : Nat)))
      replace HB := Lib.hid (HB.out.setCell (p := ⟨g, k, none⟩) (Nat.le_of_lt hbk) (.int .i64 (k : Nat)))
      go_wp2_with fail
      clear cv cr fr
      generalize wr.setCell ⟨g, k, none⟩ (.int .i64 (k : Nat)) = w1 at *
      refine (holds_any w.heap.size n z k w.heap.size g (g + 1) (g + 1 + 1 + 1) (g + 1 + 1) b E o _ w1 HL.out ho hlt (fun y hy => by rw [if_neg (by omega)]; unfold natC; rw [lsF_in hy]) HM4.out HM3.out).mono ?_
      rintro e w2 ⟨rfl, hb5⟩
      replace HL := Lib.hid (HL.out.below hb5)
      replace HM3 := Lib.hid (HM3.out.below hb5 HM3.out.lt)
      replace HM4 := Lib.hid (HM4.out.below hb5 HM4.out.lt)
      replace HB := Lib.hid (HB.out.trans (hb5.mono HB.out.size))
      have c0 := HL.out.bx.c0
      clear hb5
      by_cases hn : k < n
      · have d1 : decide ((n : Int) ≤ k) = false := decide_eq_false (by omega)
        have d2 : decide (n ≤ k) = false := decide_eq_false (by omega)
        go_wp2_with fail
        replace HL := Lib.hid (HL.out.congr (F' := natC (lsF E (frs E o) n (k + 1))) (fun y _ => by
          unfold natC lsF
          by_cases e : y = k
          · rw [if_pos e, if_pos (by omega), e, lst_lt hn]
          · rw [if_neg e]
            by_cases e2 : y < k
            · rw [if_pos e2, if_pos (by omega)]
            · rw [if_neg e2, if_neg (by omega)]))
        go_roundw
        case rel => exact ⟨k + 1, by omega, by go_num, HL, HM3, HM4, HB⟩
        case measure => simp only [intOf]; omega
      · have d1 : decide ((n : Int) ≤ k) = true := decide_eq_true (by omega)
        have d2 : decide (n ≤ k) = true := decide_eq_true (by omega)
        go_wp2_with fail
        have hfo := HL.out.tr.fo
        have hze := HL.out.tr.z_eq
        obtain ⟨i, hi⟩ : ∃ i, n + i = k := ⟨k - n, by omega⟩
        have hil : i < (frs E o).length := by omega
        have hlf : nd E (frs E o) n i (mA E (frs E o) i) < n + i := nd_lt (hfo.mA_n hil)
        have r1 : w2.cell? ⟨b.l, k, none⟩ = some (.int .i64 (nd E (frs E o) n i (mA E (frs E o) i) : Nat)) := by rw [HL.out.tr.rl.cell hlt, ← hi]; unfold intF; rw [stL_at hil]
        have r2 : w2.cell? ⟨g, nd E (frs E o) n i (mA E (frs E o) i), none⟩ = some (.int .i64 (mA E (frs E o) i : Nat)) := by
          rw [HL.out.rg.cell (by omega), if_neg (by omega)]; unfold natC; rw [lsF_in (by omega), lst_nd (hfo.mA_n hil)]
        have HmA := Lib.hid (show lst E (frs E o) n k = mA E (frs E o) i by rw [← hi, lst_in])
        have cv := HL.out.cv.cell (i := 0) (by omega)
        have c1 := HL.out.bx.c1
        have cr := HL.out.rg.cell hlt
        have fr := HL.out.rg.frozen k
        have hlz : nd E (frs E o) n i (mA E (frs E o) i) ≠ k := by omega
        have hl0 : (0 : Int) ≤ (nd E (frs E o) n i (mA E (frs E o) i) : Nat) ∧ ((nd E (frs E o) n i (mA E (frs E o) i) : Nat) : Int) < z := by omega
        generalize nd E (frs E o) n i (mA E (frs E o) i) = lf at *
        generalize mA E (frs E o) i = ma at *
        clear hfo hze hi hil hlf
        have HS : w2.drew.cell? ⟨g + 1, 0, none⟩ = some (.slice (some ⟨g, 0, none⟩) z z) ∧ w2.drew.cell? ⟨w.heap.size, 1, none⟩ = some (.slice (some ⟨b.l, 0, none⟩) z z) ∧ w2.drew.cell? ⟨b.l, k, none⟩ = some (.int .i64 (lf : Nat)) ∧ w2.drew.cell? ⟨g, lf, none⟩ = some (.int .i64 (ma : Nat)) := ⟨cv, c1, r1, r2⟩
        have hdr := (Below.refl w2.heap.size w2).drew
        replace HL := Lib.hid (HL.out.below hdr)
        replace HM3 := Lib.hid (HM3.out.below hdr HM3.out.lt)
        replace HM4 := Lib.hid (HM4.out.below hdr HM4.out.lt)
        replace HB := Lib.hid HB.out.drew
        clear hdr cv c1 r1 r2 cr fr c0
        refine region_plain (fun w' => w'.cell? ⟨g + 1, 0, none⟩ = some (.slice (some ⟨g, 0, none⟩) z z) ∧ w'.cell? ⟨w.heap.size, 1, none⟩ = some (.slice (some ⟨b.l, 0, none⟩) z z) ∧ w'.cell? ⟨b.l, k, none⟩ = some (.int .i64 (lf : Nat)) ∧ w'.cell? ⟨g, lf, none⟩ = some (.int .i64 (ma : Nat))) (by kernel_rfl) ?_
        generalize w2.drew = w3 at *
        refine take_at (i := 0) (d := 82) (v := ?_) rfl rfl (by kernel_rfl) (by kernel_rfl) (by kernel_rfl) (fun _ _ _ _ => NormalOnly.any) rfl ?hy1 HS ?rest1
        case hy1 => intro w' hSw; (try dsimp only at hSw); go_simp; try (with_reducible rfl)
        try simp only [List.setIfInBounds_toArray, List.set_cons_zero, List.set_cons_succ]
        refine take_at (i := 1) (d := 83) (v := ?_) rfl rfl (by kernel_rfl) (by kernel_rfl) (by kernel_rfl) (fun _ _ _ _ => NormalOnly.any) rfl ?hy2 HS ?rest2
        case hy2 => intro w' hSw; (try dsimp only at hSw); go_simp; try (with_reducible rfl)
        try simp only [List.setIfInBounds_toArray, List.set_cons_zero, List.set_cons_succ]
        refine take_at (i := 2) (d := 84) (v := ?_) rfl rfl (by kernel_rfl) (by kernel_rfl) (by kernel_rfl) (fun _ _ _ _ => NormalOnly.any) rfl ?hy3 HS ?rest3
        case hy3 => intro w' hSw; (try dsimp only at hSw); go_simp; try (with_reducible rfl)
        try simp only [List.setIfInBounds_toArray, List.set_cons_zero, List.set_cons_succ]
        refine take_at (i := 3) (d := 85) (v := ?_) rfl rfl (by kernel_rfl) (by kernel_rfl) (by kernel_rfl) (fun _ _ _ _ => NormalOnly.any) rfl ?hy4 HS ?rest4
        case hy4 => intro w' hSw; (try dsimp only at hSw); go_simp; try (with_reducible rfl)
        try simp only [List.setIfInBounds_toArray, List.set_cons_zero, List.set_cons_succ]
        refine take_at (i := 4) (d := 86) (v := ?_) rfl rfl (by kernel_rfl) (by kernel_rfl) (by kernel_rfl) (fun _ _ _ _ => NormalOnly.any) rfl ?hy5 HS ?rest5
        case hy5 => intro w' hSw; (try dsimp only at hSw); go_simp; try (with_reducible rfl)
        try simp only [List.setIfInBounds_toArray, List.set_cons_zero, List.set_cons_succ]
        refine take_at (i := 5) (d := 87) (v := ?_) rfl rfl (by kernel_rfl) (by kernel_rfl) (by kernel_rfl) (fun _ _ _ _ => NormalOnly.any) rfl ?hy6 HS ?rest6
        case hy6 => intro w' hSw; (try dsimp only at hSw); go_simp; try (with_reducible rfl)
        try simp only [List.setIfInBounds_toArray, List.set_cons_zero, List.set_cons_succ]
        refine take_at (i := 6) (d := 88) (v := ?_) rfl rfl (by kernel_rfl) (by kernel_rfl) (by kernel_rfl) (fun _ _ _ _ => NormalOnly.any) rfl ?hy7 HS ?rest7
        case hy7 => intro w' hSw; (try dsimp only at hSw); go_simp; try (with_reducible rfl)
        try simp only [List.setIfInBounds_toArray, List.set_cons_zero, List.set_cons_succ]
        refine take_at (i := 7) (d := 89) (v := ?_) rfl rfl (by kernel_rfl) (by kernel_rfl) (by kernel_rfl) (fun _ _ _ _ => NormalOnly.any) rfl ?hy8 HS ?rest8
        case hy8 => intro w' hSw; (try dsimp only at hSw); go_simp; try (with_reducible rfl)
        try simp only [List.setIfInBounds_toArray, List.set_cons_zero, List.set_cons_succ]
        refine take_at (i := 8) (d := 90) (v := ?_) rfl rfl (by kernel_rfl) (by kernel_rfl) (by kernel_rfl) (fun _ _ _ _ => NormalOnly.any) rfl ?hy9 HS ?rest9
        case hy9 => intro w' hSw; (try dsimp only at hSw); go_simp; try (with_reducible rfl)
        try simp only [List.setIfInBounds_toArray, List.set_cons_zero, List.set_cons_succ]
        refine take_at (i := 9) (d := 91) (v := ?_) rfl rfl (by kernel_rfl) (by kernel_rfl) (by kernel_rfl) (fun _ _ _ _ => NormalOnly.any) rfl ?hy10 HS ?rest10
        case hy10 => intro w' hSw; (try dsimp only at hSw); go_simp; try (with_reducible rfl)
        try simp only [List.setIfInBounds_toArray, List.set_cons_zero, List.set_cons_succ]
        refine take_at (i := 10) (d := 92) (v := ?_) rfl rfl (by kernel_rfl) (by kernel_rfl) (by kernel_rfl) (fun _ _ _ _ => NormalOnly.any) rfl ?hy11 HS ?rest11
        case hy11 => intro w' hSw; (try dsimp only at hSw); go_simp; try (with_reducible rfl)
        try simp only [List.setIfInBounds_toArray, List.set_cons_zero, List.set_cons_succ]
        have cr := HL.out.rg.cell hlt
        have fr := HL.out.rg.frozen k
        have hne : ∀ (v : Value) (p : Addr), ¬ (p.block = g ∧ p.off = k) → (w3.setCell ⟨g, k, none⟩ v).cell? p = w3.cell? p := fun v p hp => World.cell?_setCell_other _ _ _ _ (fun e => hp (by rw [← e]; exact ⟨rfl, rfl⟩))
        have Hne := Lib.hid hne
        clear hne
        have hbl : b.l < w.heap.size := HL.out.tr.lo.1
        refine wpAnyH_ready (rs := [11]) (by kernel_rfl) (by simp) ?_
        refine AllReadyH.cons rfl (fun K hK => ?_) AllReadyH.nil
        go_simp
        refine hK.out _ _ ⟨by rw [Hne.out _ _ (by show ¬ (g + 1 = g ∧ 0 = k); omega)]; exact HS.1, by rw [Hne.out _ _ (by show ¬ (w.heap.size = g ∧ 1 = k); omega)]; exact HS.2.1, by rw [Hne.out _ _ (by show ¬ (b.l = g ∧ k = k); omega)]; exact HS.2.2.1, by rw [Hne.out _ _ (by show ¬ (g = g ∧ lf = k); omega)]; exact HS.2.2.2⟩ (fun _ => ?_)
        clear hK Hne HS cr fr
        refine wpAnyH_done (by kernel_rfl) ⟨rfl, ?_⟩ _
        replace HL := Lib.hid ((HL.out.set (Nat.le_of_lt hbk) (by omega) (by omega) k (.int .i64 (ma : Nat))).congr (F' := natC (lsF E (frs E o) n (k + 1))) (fun y _ => by
          unfold natC lsF
          by_cases e : y = k
          · rw [if_pos e, if_pos (by omega), e, HmA.out]
          · rw [if_neg e, if_neg e]
            by_cases e2 : y < k
            · rw [if_pos e2, if_pos (by omega)]
            · rw [if_neg e2, if_neg (by omega)]))
        replace HM3 := Lib.hid (HM3.out.setOther (a := ⟨g, k, none⟩) (by show g + 1 + 1 ≠ g; omega) (.int .i64 (ma : Nat)))
        replace HM4 := Lib.hid (HM4.out.setOther (a := ⟨g, k, none⟩) (by show g + 1 + 1 + 1 ≠ g; omega) (.int .i64 (ma : Nat)))
        replace HB := Lib.hid (HB.out.setCell (p := ⟨g, k, none⟩) (Nat.le_of_lt hbk) (.int .i64 (ma : Nat)))
        generalize w3.setCell ⟨g, k, none⟩ (.int .i64 (ma : Nat)) = w4 at *
        go_wp2_with fail
        go_roundw
        case rel => exact ⟨k + 1, by omega, by go_num, HL, HM3, HM4, HB⟩
        case measure => simp only [intOf]; omega
    · obtain rfl : z = k := by omega
      have cv := HL.out.cv.cell (i := 0) (by omega)
      go_wp2_with fail
      go_ret2
      exact ⟨g, rfl, HL.out.rg.congr (fun y hy => by unfold natC; rw [lsF_in hy]), Nat.le_of_lt hbk, HB.out⟩
end Go.Proofs.YtpbgophogneecaaGreat
