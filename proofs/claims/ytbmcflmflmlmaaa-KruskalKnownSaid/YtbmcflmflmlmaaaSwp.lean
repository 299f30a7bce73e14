/- The walk of kruskal.Swap. Conditions: none. NOT FINISHED. -/
import Derived.Test.YtbmcflmflmlmaaaLst
import Derived.Test.YtbmcflmflmlmaaaSwR
import Derived.Test.YtbmcflmflmlmaaaSwD
import Derived.Test.YtbmcflmflmlmaaaOwnR
import Derived.Laws.EntriesVeiled
namespace Go.Proofs.Ytbmcflmflmlmaaa
open Go.RowKit

/-- what Swap answers -/
def SwapRes (n : Int) (E : List Ed) (u v W : Int) (w : World) (e : Ending) (w' : World) : Prop :=
  Below w.heap.size w w' ∧ ((gErr n E ≠ 0 ∧ e = .returned (.tuple #[.int .i64 0, .int .i64 (gErr n E)])) ∨
    (gErr n E = 0 ∧ ((¬ (0 ≤ u ∧ u < n ∧ 0 ≤ v ∧ v < n) ∧ e = .returned (.tuple #[.int .i64 0, .int .i64 3])) ∨
      ((0 ≤ u ∧ u < n ∧ 0 ≤ v ∧ v < n) ∧ ((u = v ∧ e = .returned (.tuple #[.int .i64 0, .int .i64 9])) ∨
        (u ≠ v ∧ ∃ o x, OrdOf E o ∧ SwapX E (frs E o) u.toNat v.toNat W x ∧ e = .returned (.tuple #[.int .i64 x, .int .i64 0])))))))
theorem Try.infoSI : (Try.prog.info? 24).map (fun i => (i.zero, i.size, i.bytes)) = some (some (.slice none 0 0), 1, 24) := by kernel_rfl
set_option maxRecDepth 100000 in
set_option maxHeartbeats 4000000 in
theorem swap_any (B : Nat) (a : Option Addr) (cap : Nat) (A : Nat → Addr) (n : Int) (E : List Ed) (u v W : Int) (w : World) (hS : ES w B (.slice a E.length cap) E A) (hB : B ≤ w.heap.size) (hm : E.length ≤ 9223372036854775807) :
    Calls Try.prog 22 #[.int .i64 n, .slice a E.length cap, .agg #[.int .i64 u, .int .i64 v, .int .i64 W]] w (SwapRes n E u v W w) := by
  have hb0 : Below w.heap.size w ((w.alloc (.cells #[.slice a E.length cap] 22)).alloc (.cells #[.int .i64 u, .int .i64 v, .int .i64 W] 36)) := ((Below.refl _ w).alloc (Nat.le_refl _) _).alloc (by simp) _
  have hx0 : Boxed ((w.alloc (.cells #[.slice a E.length cap] 22)).alloc (.cells #[.int .i64 u, .int .i64 v, .int .i64 W] 36)) w.heap.size 22 (.slice a E.length cap) := (Boxed.new w _ _).alloc _
  have hr0 : Row ((w.alloc (.cells #[.slice a E.length cap] 22)).alloc (.cells #[.int .i64 u, .int .i64 v, .int .i64 W] 36)) (w.heap.size + 1) 3 (fun i => (#[Value.int .i64 u, .int .i64 v, .int .i64 W] : Array Value).getD i undef) := by
    have := Row.lit (n := 3) (f := fun i => (#[Value.int .i64 u, .int .i64 v, .int .i64 W] : Array Value).getD i undef) (w.alloc (.cells #[.slice a E.length cap] 22)) #[.int .i64 u, .int .i64 v, .int .i64 W] 36 (by simp) (fun i hi => by
      rw [Array.getD_eq_getD_getElem?, Array.getElem?_eq_getElem (by simpa using hi)]; rfl)
    rw [World.size_alloc] at this
    exact this
  have hs0 : ((w.alloc (.cells #[.slice a E.length cap] 22)).alloc (.cells #[.int .i64 u, .int .i64 v, .int .i64 W] 36)).heap.size = w.heap.size + 1 + 1 := by simp
  have HS := Lib.hid hS
  clear hS
  go_enter Try.func22, Try.ntmps22
  go_wp2_with fail
  generalize (w.alloc (.cells #[.slice a E.length cap] 22)).alloc (.cells #[.int .i64 u, .int .i64 v, .int .i64 W] 36) = wa at *
  have HF := Lib.hid (forest_any B a cap A n E wa (HS.out.below (hb0.mono hB)) (by omega) hm)
  refine HF.out.mono ?_
  clear HF
  rintro e w1 ⟨hb1, ⟨h0, rfl⟩ | ⟨h0, o, fv, ho, rfl, hfv⟩⟩
  · obtain ⟨ee, hee⟩ : ∃ ee, gErr n E = ee := ⟨_, rfl⟩
    have H0 := Lib.hid h0; have HE := Lib.hid hee
    rw [hee] at h0 ⊢
    have hz : (ee != 0) = true := by simpa using h0
    clear h0 hee hx0 hr0
    go_wp2_with fail
    go_ret2
    exact ⟨hb0.trans (hb1.mono (by omega)), .inl ⟨H0.out, by rw [HE.out]; rfl⟩⟩
  · obtain ⟨fa, fc, FA, rfl, hF⟩ := ownI_rd hfv
    have bel1 := hb0.trans (hb1.mono (by omega))
    have hwl : w.heap.size < w1.heap.size := by have := hb1.size; omega
    have hwl2 : w.heap.size + 1 < w1.heap.size := by have := hb1.size; omega
    have hB01 := Nat.le_of_lt hwl
    have hx1 : Boxed w1 w.heap.size 22 (.slice a E.length cap) := (hb1.block _ (by omega)).trans hx0
    have hr1 := hr0.below hb1 (by omega)
    have c0 : w1.cell? ⟨w.heap.size + 1, 0, none⟩ = some (.int .i64 u) := hr1.cell (i := 0) (by omega)
    have c1 : w1.cell? ⟨w.heap.size + 1, 1, none⟩ = some (.int .i64 v) := hr1.cell (i := 1) (by omega)
    have HO := Lib.hid ho; have H0 := Lib.hid h0; have HFv := Lib.hid hfv; have HFr := Lib.hid hF
    have HX1 := Lib.hid hx1; have HR1 := Lib.hid hr1
    clear ho h0 hfv hF hx0 hr0 hx1 hr1
    by_cases h1 : u < 0
    · have k1 : decide (u < 0) = true := decide_eq_true h1
      have HB := Lib.hid (show ¬ (0 ≤ u ∧ u < n ∧ 0 ≤ v ∧ v < n) by omega)
      clear h1
      go_wp2_with fail
      go_ret2
      exact ⟨bel1, .inr ⟨H0.out, .inl ⟨HB.out, rfl⟩⟩⟩
    · have k1 : decide (u < 0) = false := decide_eq_false h1
      by_cases h2 : u ≥ n
      · have k2 : decide (u ≥ n) = true := decide_eq_true h2
        have HB := Lib.hid (show ¬ (0 ≤ u ∧ u < n ∧ 0 ≤ v ∧ v < n) by omega)
        clear h1 h2
        go_wp2_with fail
        go_ret2
        exact ⟨bel1, .inr ⟨H0.out, .inl ⟨HB.out, rfl⟩⟩⟩
      · have k2 : decide (u ≥ n) = false := decide_eq_false h2
        by_cases h3 : v < 0
        · have k3 : decide (v < 0) = true := decide_eq_true h3
          have HB := Lib.hid (show ¬ (0 ≤ u ∧ u < n ∧ 0 ≤ v ∧ v < n) by omega)
          clear h1 h2 h3
          go_wp2_with fail
          go_ret2
          exact ⟨bel1, .inr ⟨H0.out, .inl ⟨HB.out, rfl⟩⟩⟩
        · have k3 : decide (v < 0) = false := decide_eq_false h3
          by_cases h4 : v ≥ n
          · have k4 : decide (v ≥ n) = true := decide_eq_true h4
            have HB := Lib.hid (show ¬ (0 ≤ u ∧ u < n ∧ 0 ≤ v ∧ v < n) by omega)
            clear h1 h2 h3 h4
            go_wp2_with fail
            go_ret2
            exact ⟨bel1, .inr ⟨H0.out, .inl ⟨HB.out, rfl⟩⟩⟩
          · have k4 : decide (v ≥ n) = false := decide_eq_false h4
            have HB := Lib.hid (show (0 ≤ u ∧ u < n ∧ 0 ≤ v ∧ v < n) by omega)
            clear h1 h2 h3 h4
            by_cases h5 : u = v
            · have k5 : (u == v) = true := by simpa using h5
              have H5 := Lib.hid h5
              clear h5
              go_wp2_with fail
              go_ret2
              exact ⟨bel1, .inr ⟨H0.out, .inr ⟨HB.out, .inl ⟨H5.out, rfl⟩⟩⟩⟩
            · have k5 : (u == v) = false := by simpa using h5
              have H5 := Lib.hid h5
              clear h5
              obtain ⟨k, hkn, G⟩ := gErr_zero H0.out
              subst hkn
              have hk1 := G.n_le
              have HG := Lib.hid G
              have hmk : ∀ w, (Instr.makeSlice 59 (.int .i64 (k : Nat)) (.int .i64 (k : Nat))).run Try.prog w = .ok (.slice (some ⟨w.heap.size, 0, none⟩) k k) (w.alloc (.cells (madeCells #[.slice none 0 0] k) 24)) := fun w =>
                run_make_row' (P := Try.prog) 59 24 (.slice none 0 0) 24 Try.underlying59 Try.infoSI rfl .i64 .i64 k (by omega) (by omega) w
              clear G
              go_wp2_with fail
              obtain ⟨F, hFe⟩ : ∃ F, frs E o = F := ⟨_, rfl⟩
              have HFe := Lib.hid hFe
              have hFl : F.length ≤ 1000000 := by rw [← hFe]; have := frs_len E o; rw [HO.out.len] at this; have := HG.out.m_le; omega
              have hO0 : OwnRows 24 3 1 encI w1.heap.size w1.heap.size k (fun v => intsN (rowF E (F.take 0) v)) ((w1.alloc (.cells (madeCells #[.slice none 0 0] k) 24)).alloc (.cells #[.slice (some ⟨w1.heap.size, 0, none⟩) k k] 59)) :=
                ((OwnRows.start 24 3 1 encI w1.heap.size k w1 (Nat.le_refl _) (by decide)).below ((Below.refl _ _).alloc (Nat.le_refl _) _)).congr fun i _ => by simp [rowF, intsN]
              have hA0 : Boxed ((w1.alloc (.cells (madeCells #[.slice none 0 0] k) 24)).alloc (.cells #[.slice (some ⟨w1.heap.size, 0, none⟩) k k] 59)) (w1.heap.size + 1) 59 (.slice (some ⟨w1.heap.size, 0, none⟩) k k) := by
                have := Boxed.new (w1.alloc (.cells (madeCells #[.slice none 0 0] k) 24)) 59 (.slice (some ⟨w1.heap.size, 0, none⟩) k k)
                rw [World.size_alloc] at this
                exact this
              have hb2 : Below w1.heap.size w1 ((w1.alloc (.cells (madeCells #[.slice none 0 0] k) 24)).alloc (.cells #[.slice (some ⟨w1.heap.size, 0, none⟩) k k] 59)) := ((Below.refl _ w1).alloc (Nat.le_refl _) _).alloc (by simp) _
              rw [hFe] at HFr ⊢
              generalize (w1.alloc (.cells (madeCells #[.slice none 0 0] k) 24)).alloc (.cells #[.slice (some ⟨w1.heap.size, 0, none⟩) k k] 59) = wb at *
              clear hmk hFe
              go_loopw [54] (fun i wr => ∃ q : Nat, q ≤ F.length ∧ i = .int .i64 (q : Nat) ∧ Hid (OwnRows 24 3 1 encI w1.heap.size w1.heap.size k (fun v => intsN (rowF E (F.take q) v)) wr) ∧ Hid (Boxed wr (w1.heap.size + 1) 59 (.slice (some ⟨w1.heap.size, 0, none⟩) k k)) ∧ Below w1.heap.size w1 wr) (fun i _ => F.length - (intOf i).toNat)
              case atStart => exact ⟨0, Nat.zero_le _, rfl, Lib.hid hO0, Lib.hid hA0, hb2⟩
              case round =>
                clear hO0 hA0 hb2
                obtain ⟨q, hq, rfl, HO1, HA1, bel2⟩ := hrel
                by_cases hlt : q < F.length
                · obtain ⟨x, hx⟩ : ∃ x, F.getD q 0 = x := ⟨_, rfl⟩
                  have hmem : x ∈ F := by rw [← hx, List.getD_eq_getElem?_getD, List.getElem?_eq_getElem hlt]; exact List.getElem_mem _
                  have hxl : x < E.length := by rw [← HFe.out] at hmem; exact frs_mem HO.out hmem
                  obtain ⟨p, r, hp, hr, hpk, hrk, hpr⟩ := HG.out.nats hxl
                  have HED := Lib.hid (show edP E x = (p, r) by unfold edP; rw [hp, hr]; simp)
                  have HX := Lib.hid hx
                  have hRr := HFr.out.below bel2
                  have i0 := hRr.ix q hlt
                  have d0 := hRr.cell q hlt 0 (by omega)
                  rw [add_zero] at d0
                  have hn : nums .i64 (intsN F) q 0 = .int .i64 (x : Nat) := by rw [← hx]; simp [nums, nth, intsN, List.getD, hlt]
                  rw [hn] at d0
                  have hE2 := (HS.out.below ((bel1.mono hB).trans (bel2.mono (Nat.le_trans hB hB01))))
                  have i1 := hE2.ix x hxl
                  have hpv : (0 : Int) ≤ p ∧ (p : Int) < k := by omega
                  have hrv : (0 : Int) ≤ r ∧ (r : Int) < k := by omega
                  have hqv : (0 : Int) ≤ q ∧ (q : Int) < F.length := by omega
                  have hxv : (0 : Int) ≤ x ∧ (x : Int) < E.length := by omega
                  have HSB := Lib.hid (show ∀ w4, Below w1.heap.size w1 w4 → w4.cell? ⟨w1.heap.size + 1, 0, none⟩ = some (.slice (some ⟨w1.heap.size, 0, none⟩) k k) → w4.cell? ⟨w1.heap.size + 1, 0, none⟩ = some (.slice (some ⟨w1.heap.size, 0, none⟩) k k) ∧ w4.cell? ⟨w.heap.size, 0, none⟩ = some (.slice a E.length cap) ∧ w4.cell? (A x) = some (.int .i64 (p : Nat)) ∧ w4.cell? ⟨(A x).block, (A x).off + 1, none⟩ = some (.int .i64 (r : Nat)) from fun w4 b4 h4 => by
                    have hE4 := HS.out.below ((bel1.mono hB).trans (b4.mono (Nat.le_trans hB hB01)))
                    have h2 := ES.u hE4 hxl
                    have h3 := ES.v hE4 hxl
                    rw [hp] at h2; rw [hr] at h3
                    exact ⟨h4, (b4.cell (p := ⟨w.heap.size, 0, none⟩) hwl).trans HX1.out.cell, h2, h3⟩)
                  obtain ⟨R0, hR0⟩ : ∃ R0, (fun v => intsN (rowF E (F.take q) v)) = R0 := ⟨_, rfl⟩
                  have HR0 := Lib.hid hR0
                  rw [hR0] at HO1
                  have HL0 := Lib.hid (show ∀ v, (R0 v).length ≤ 2000000 from fun v => by
                    rw [← hR0]
                    have h1 := rowF_len E (F.take q) v
                    have h2 : (F.take q).length ≤ F.length := by rw [List.length_take]; omega
                    have h3 : (intsN (rowF E (F.take q) v)).length = (rowF E (F.take q) v).length := by simp [intsN]
                    show (intsN (rowF E (F.take q) v)).length ≤ 2000000
                    omega)
                  have HLNa := Lib.hid (HL0.out p)
                  have HOa := HO1; have HAa := HA1
                  clear hx hp hr hRr hn hE2 hR0 hmem HO1 HA1
                  have hla : (R0 p).length ≤ 2000000 := HLNa.out
                  obtain ⟨va, cva, fva, owa⟩ := HOa.out.at hpk
                  rw [encI_map] at owa
                  have hbsa : w1.heap.size ≤ wr.drew.heap.size := bel2.size
                  have cwa : (wr.alloc (.cells #[.int .i64 (x : Nat)] 3)).drew.cell? ⟨w1.heap.size, p, none⟩ = some va := by
                    have : (wr.alloc (.cells #[.int .i64 (x : Nat)] 3)).cell? ⟨w1.heap.size, p, none⟩ = some va := by rw [World.cell?_alloc_some _ _ _ (by rw [cva]; rfl)]; exact cva
                    exact this
                  have cua : wr.drew.cell? ⟨w1.heap.size, p, none⟩ = some va := cva
                  have owda : wr.drew.ownsRow w1.heap.size 3 1 va (R0 p).length ((R0 p).map (Value.int .i64)) := owa
                  have FINa := Lib.hid (fun (g cp : Nat) (w5 : World) (h1 : w5.ownsRow w1.heap.size 3 1 (.slice (some ⟨g, 0, none⟩) ((R0 p).length + 1 : Nat) cp) ((R0 p).length + 1) ((R0 p).map (Value.int .i64) ++ [.int .i64 (x : Nat)])) (h2 : wr.drew.grownBy w5 va.ownBlock) (h3 : Moved wr.drew va g) => rows_push (n := k) (W := wr.drew) (HOa.out.below (Below.refl _ _).drew) (show Boxed wr.drew (w1.heap.size + 1) 59 _ from HAa.out) (by omega) hpk cva owda h1 h2 h3)
                  have HS : wr.drew.cell? ⟨w1.heap.size + 1, 0, none⟩ = some (.slice (some ⟨w1.heap.size, 0, none⟩) k k) ∧ wr.drew.cell? ⟨w.heap.size, 0, none⟩ = some (.slice a E.length cap) ∧ wr.drew.cell? (A x) = some (.int .i64 (p : Nat)) ∧ wr.drew.cell? ⟨(A x).block, (A x).off + 1, none⟩ = some (.int .i64 (r : Nat)) := HSB.out wr.drew (bel2.drew) HAa.out.cell
                  have HS1 : (wr.alloc (.cells #[.int .i64 (x : Nat)] 3)).drew.cell? ⟨w1.heap.size + 1, 0, none⟩ = some (.slice (some ⟨w1.heap.size, 0, none⟩) k k) ∧ (wr.alloc (.cells #[.int .i64 (x : Nat)] 3)).drew.cell? ⟨w.heap.size, 0, none⟩ = some (.slice a E.length cap) ∧ (wr.alloc (.cells #[.int .i64 (x : Nat)] 3)).drew.cell? (A x) = some (.int .i64 (p : Nat)) ∧ (wr.alloc (.cells #[.int .i64 (x : Nat)] 3)).drew.cell? ⟨(A x).block, (A x).off + 1, none⟩ = some (.int .i64 (r : Nat)) := HSB.out (wr.alloc (.cells #[.int .i64 (x : Nat)] 3)).drew ((bel2.alloc bel2.size _).drew) (HAa.out.alloc _).cell
                  clear cva fva owa
                  go_wp2_with fail
                  refine region_plain (fun w' => w'.cell? ⟨w1.heap.size + 1, 0, none⟩ = some (.slice (some ⟨w1.heap.size, 0, none⟩) k k) ∧ w'.cell? ⟨w.heap.size, 0, none⟩ = some (.slice a E.length cap) ∧ w'.cell? (A x) = some (.int .i64 (p : Nat)) ∧ w'.cell? ⟨(A x).block, (A x).off + 1, none⟩ = some (.int .i64 (r : Nat))) (by kernel_rfl) ?_
                  refine take_at (i := 0) (d := 58) (v := ?_) rfl rfl (by kernel_rfl) (by kernel_rfl) (by kernel_rfl) (fun _ _ _ _ => NormalOnly.any) rfl ?hy1 HS ?rest1
                  case hy1 => intro w' hSw; (try dsimp only at hSw); go_simp; try (with_reducible rfl)
                  try simp only [List.setIfInBounds_toArray, List.set_cons_zero, List.set_cons_succ]
                  refine take_at (i := 1) (d := 59) (v := ?_) rfl rfl (by kernel_rfl) (by kernel_rfl) (by kernel_rfl) (fun _ _ _ _ => NormalOnly.any) rfl ?hy2 HS ?rest2
                  case hy2 => intro w' hSw; (try dsimp only at hSw); go_simp; try (with_reducible rfl)
                  try simp only [List.setIfInBounds_toArray, List.set_cons_zero, List.set_cons_succ]
                  refine take_at (i := 2) (d := 60) (v := ?_) rfl rfl (by kernel_rfl) (by kernel_rfl) (by kernel_rfl) (fun _ _ _ _ => NormalOnly.any) rfl ?hy3 HS ?rest3
                  case hy3 => intro w' hSw; (try dsimp only at hSw); go_simp; try (with_reducible rfl)
                  try simp only [List.setIfInBounds_toArray, List.set_cons_zero, List.set_cons_succ]
                  refine take_at (i := 3) (d := 61) (v := ?_) rfl rfl (by kernel_rfl) (by kernel_rfl) (by kernel_rfl) (fun _ _ _ _ => NormalOnly.any) rfl ?hy4 HS ?rest4
                  case hy4 => intro w' hSw; (try dsimp only at hSw); go_simp; try (with_reducible rfl)
                  try simp only [List.setIfInBounds_toArray, List.set_cons_zero, List.set_cons_succ]
                  refine take_at (i := 4) (d := 62) (v := ?_) rfl rfl (by kernel_rfl) (by kernel_rfl) (by kernel_rfl) (fun _ _ _ _ => NormalOnly.any) rfl ?hy5 HS ?rest5
                  case hy5 => intro w' hSw; (try dsimp only at hSw); go_simp; try (with_reducible rfl)
                  try simp only [List.setIfInBounds_toArray, List.set_cons_zero, List.set_cons_succ]
                  refine take_at (i := 5) (d := 63) (v := ?_) rfl rfl (by kernel_rfl) (by kernel_rfl) (by kernel_rfl) (fun _ _ _ _ => NormalOnly.any) rfl ?hy6 HS ?rest6
                  case hy6 => intro w' hSw; (try dsimp only at hSw); go_simp; try (with_reducible rfl)
                  try simp only [List.setIfInBounds_toArray, List.set_cons_zero, List.set_cons_succ]
                  refine take_at (i := 6) (d := 64) (v := ?_) rfl rfl (by kernel_rfl) (by kernel_rfl) (by kernel_rfl) (fun _ _ _ _ => NormalOnly.any) rfl ?hy7 HS ?rest7
                  case hy7 => intro w' hSw; (try dsimp only at hSw); go_simp; try (with_reducible rfl)
                  try simp only [List.setIfInBounds_toArray, List.set_cons_zero, List.set_cons_succ]
                  refine take_at (i := 7) (d := 65) (v := ?_) rfl rfl (by kernel_rfl) (by kernel_rfl) (by kernel_rfl) (fun _ _ _ _ => NormalOnly.any) rfl ?hy8 HS ?rest8
                  case hy8 => intro w' hSw; (try dsimp only at hSw); go_simp; try (with_reducible rfl)
                  try simp only [List.setIfInBounds_toArray, List.set_cons_zero, List.set_cons_succ]
                  refine take_at (i := 8) (d := 66) (v := ?_) rfl rfl (by kernel_rfl) (by kernel_rfl) (by kernel_rfl) (fun _ _ _ _ => NormalOnly.any) rfl ?hy9 HS ?rest9
                  case hy9 => intro w' hSw; (try dsimp only at hSw); go_simp; try (with_reducible rfl)
                  try simp only [List.setIfInBounds_toArray, List.set_cons_zero, List.set_cons_succ]
                  refine take_at (i := 9) (d := 67) (v := ?_) rfl rfl (by kernel_rfl) (by kernel_rfl) (by kernel_rfl) (fun _ _ _ _ => NormalOnly.any) rfl ?hy10 HS ?rest10
                  case hy10 => intro w' hSw; (try dsimp only at hSw); go_simp; try (with_reducible rfl)
                  try simp only [List.setIfInBounds_toArray, List.set_cons_zero, List.set_cons_succ]
                  refine take_at (i := 10) (d := 68) (v := ?_) rfl rfl (by kernel_rfl) (by kernel_rfl) (by kernel_rfl) (fun _ _ _ _ => NormalOnly.any) rfl ?hy11 HS ?rest11
                  case hy11 => intro w' hSw; (try dsimp only at hSw); go_simp; try (with_reducible rfl)
                  try simp only [List.setIfInBounds_toArray, List.set_cons_zero, List.set_cons_succ]
                  refine take_at (i := 11) (d := 69) (v := ?_) rfl rfl (by kernel_rfl) (by kernel_rfl) (by kernel_rfl) (fun _ _ _ _ => NormalOnly.any) rfl ?hy12 HS ?rest12
                  case hy12 => intro w' hSw; (try dsimp only at hSw); go_simp; try (with_reducible rfl)
                  try simp only [List.setIfInBounds_toArray, List.set_cons_zero, List.set_cons_succ]
                  refine take_at (i := 12) (d := 70) (v := ?_) rfl rfl (by kernel_rfl) (by kernel_rfl) (by kernel_rfl) (fun _ _ _ _ => NormalOnly.any) rfl ?hy13 HS ?rest13
                  case hy13 => intro w' hSw; (try dsimp only at hSw); go_simp; try (with_reducible rfl)
                  try simp only [List.setIfInBounds_toArray, List.set_cons_zero, List.set_cons_succ]
                  refine take_at (i := 14) (d := 72) (v := ?_) rfl rfl (by kernel_rfl) (by kernel_rfl) (by kernel_rfl) (fun _ _ _ _ => NormalOnly.any) rfl ?hy14 HS ?rest14
                  case hy14 => intro w' hSw; (try dsimp only at hSw); go_simp; try (with_reducible rfl)
                  try simp only [List.setIfInBounds_toArray, List.set_cons_zero, List.set_cons_succ]
                  refine wpAnyH_ready (rs := [13, 15]) (by kernel_rfl) (by simp) ?_
                  refine AllReadyH.cons rfl (fun K hK => ?_) (AllReadyH.cons rfl (fun K hK => ?_) AllReadyH.nil)
                  · go_simp
                    refine hK.out _ _ HS (fun _ => ?_)
                    clear hK
                    refine wpAnyH_ready (rs := [15]) (by kernel_rfl) (by simp) ?_
                    refine AllReadyH.cons rfl (fun K hK => ?_) AllReadyH.nil
                    go_simp
                    refine hK.out _ _ HS1 (fun _ => ?_)
                    clear hK
                    refine wpAnyH_ready (rs := [16]) (by kernel_rfl) (by simp) ?_
                    refine AllReadyH.cons rfl (fun K hK => ?_) AllReadyH.nil
                    refine step_pushM (w0 := wr.drew) rfl etI rfl _ _ rfl w1.heap.size va (R0 p).length _ owda rfl #[.int .i64 (x : Nat)] _ rfl rfl rfl (by simp [Value.oneCell']) (by omega) (by omega) hbsa ?_
                    intro ga cpa w5a hown hg hmv
                    obtain ⟨HOx, HAx, HAy, b5, b6, c1, f1⟩ := FINa.out ga cpa w5a hown hg hmv
                    have b7a := (bel2.drew).trans b5
                    have b8a := (bel2.drew).trans b6
                    have HS := HSB.out _ b7a HAx.cell
                    have HS2 := HSB.out _ b8a HAy.cell
                    have HOx := Lib.hid HOx; have HAy := Lib.hid HAy
                    clear HAx b5 b6 hown hg hmv HS1 owda cwa cua FINa
                    simp only [Act.put, List.setIfInBounds_toArray]
                    refine hK.out _ _ HS (fun _ => ?_)
                    clear hK
                    refine take_at (i := 17) (d := 75) (v := ?_) rfl rfl (by kernel_rfl) (by kernel_rfl) (by kernel_rfl) (fun _ _ _ _ => NormalOnly.any) rfl ?hy15 HS ?rest15
                    case hy15 => intro w' hSw; (try dsimp only at hSw); go_simp; try (with_reducible rfl)
                    try simp only [List.setIfInBounds_toArray, List.set_cons_zero, List.set_cons_succ]
                    refine wpAnyH_ready (rs := [18]) (by kernel_rfl) (by simp) ?_
                    refine AllReadyH.cons rfl (fun K hK => ?_) AllReadyH.nil
                    go_simp
                    refine hK.out _ _ HS2 (fun _ => ?_)
                    clear hK
                    refine wpAnyH_done (by kernel_rfl) ⟨rfl, ?_⟩ _
                    clear HS HS2 c1 f1
                    obtain ⟨R1, hR1⟩ : ∃ R1, (fun j => if j = p then R0 p ++ [(x : Int)] else R0 j) = R1 := ⟨_, rfl⟩
                    have HR1 := Lib.hid hR1
                    have HOb : Hid (OwnRows 24 3 1 encI w1.heap.size w1.heap.size k R1 (w5a.setCell ⟨w1.heap.size, p, none⟩ (.slice (some ⟨ga, 0, none⟩) ((R0 p).length + 1 : Nat) cpa))) := by rw [← hR1]; exact HOx
                    have HLNb : Hid ((R1 r).length ≤ 2000000) := by rw [← hR1]; refine Lib.hid ?_; simp only [if_neg (show ¬ r = p by omega)]; exact HL0.out r
                    have HAb := HAy
                    clear HOx HAy hR1 b7a
                    generalize w5a.setCell ⟨w1.heap.size, p, none⟩ (.slice (some ⟨ga, 0, none⟩) ((R0 p).length + 1 : Nat) cpa) = wm at *
                    have hlb : (R1 r).length ≤ 2000000 := HLNb.out
                    obtain ⟨vb, cvb, fvb, owb⟩ := HOb.out.at hrk
                    rw [encI_map] at owb
                    have hbsb : w1.heap.size ≤ wm.drew.heap.size := b8a.size
                    have cwb : (wm.alloc (.cells #[.int .i64 (x : Nat)] 3)).drew.cell? ⟨w1.heap.size, r, none⟩ = some vb := by
                      have : (wm.alloc (.cells #[.int .i64 (x : Nat)] 3)).cell? ⟨w1.heap.size, r, none⟩ = some vb := by rw [World.cell?_alloc_some _ _ _ (by rw [cvb]; rfl)]; exact cvb
                      exact this
                    have cub : wm.drew.cell? ⟨w1.heap.size, r, none⟩ = some vb := cvb
                    have owdb : wm.drew.ownsRow w1.heap.size 3 1 vb (R1 r).length ((R1 r).map (Value.int .i64)) := owb
                    have FINb := Lib.hid (fun (g cp : Nat) (w5 : World) (h1 : w5.ownsRow w1.heap.size 3 1 (.slice (some ⟨g, 0, none⟩) ((R1 r).length + 1 : Nat) cp) ((R1 r).length + 1) ((R1 r).map (Value.int .i64) ++ [.int .i64 (x : Nat)])) (h2 : wm.drew.grownBy w5 vb.ownBlock) (h3 : Moved wm.drew vb g) => rows_push (n := k) (W := wm.drew) (HOb.out.below (Below.refl _ _).drew) (show Boxed wm.drew (w1.heap.size + 1) 59 _ from HAb.out) (by omega) hrk cvb owdb h1 h2 h3)
                    have HS : wm.drew.cell? ⟨w1.heap.size + 1, 0, none⟩ = some (.slice (some ⟨w1.heap.size, 0, none⟩) k k) ∧ wm.drew.cell? ⟨w.heap.size, 0, none⟩ = some (.slice a E.length cap) ∧ wm.drew.cell? (A x) = some (.int .i64 (p : Nat)) ∧ wm.drew.cell? ⟨(A x).block, (A x).off + 1, none⟩ = some (.int .i64 (r : Nat)) := HSB.out wm.drew (b8a.drew) HAb.out.cell
                    have HS1 : (wm.alloc (.cells #[.int .i64 (x : Nat)] 3)).drew.cell? ⟨w1.heap.size + 1, 0, none⟩ = some (.slice (some ⟨w1.heap.size, 0, none⟩) k k) ∧ (wm.alloc (.cells #[.int .i64 (x : Nat)] 3)).drew.cell? ⟨w.heap.size, 0, none⟩ = some (.slice a E.length cap) ∧ (wm.alloc (.cells #[.int .i64 (x : Nat)] 3)).drew.cell? (A x) = some (.int .i64 (p : Nat)) ∧ (wm.alloc (.cells #[.int .i64 (x : Nat)] 3)).drew.cell? ⟨(A x).block, (A x).off + 1, none⟩ = some (.int .i64 (r : Nat)) := HSB.out (wm.alloc (.cells #[.int .i64 (x : Nat)] 3)).drew ((b8a.alloc b8a.size _).drew) (HAb.out.alloc _).cell
                    clear cvb fvb owb
                    go_wp2_with fail
                    refine region_plain (fun w' => w'.cell? ⟨w1.heap.size + 1, 0, none⟩ = some (.slice (some ⟨w1.heap.size, 0, none⟩) k k) ∧ w'.cell? ⟨w.heap.size, 0, none⟩ = some (.slice a E.length cap) ∧ w'.cell? (A x) = some (.int .i64 (p : Nat)) ∧ w'.cell? ⟨(A x).block, (A x).off + 1, none⟩ = some (.int .i64 (r : Nat))) (by kernel_rfl) ?_
                    refine take_at (i := 0) (d := 76) (v := ?_) rfl rfl (by kernel_rfl) (by kernel_rfl) (by kernel_rfl) (fun _ _ _ _ => NormalOnly.any) rfl ?hy16 HS ?rest16
                    case hy16 => intro w' hSw; (try dsimp only at hSw); go_simp; try (with_reducible rfl)
                    try simp only [List.setIfInBounds_toArray, List.set_cons_zero, List.set_cons_succ]
                    refine take_at (i := 1) (d := 77) (v := ?_) rfl rfl (by kernel_rfl) (by kernel_rfl) (by kernel_rfl) (fun _ _ _ _ => NormalOnly.any) rfl ?hy17 HS ?rest17
                    case hy17 => intro w' hSw; (try dsimp only at hSw); go_simp; try (with_reducible rfl)
                    try simp only [List.setIfInBounds_toArray, List.set_cons_zero, List.set_cons_succ]
                    refine take_at (i := 2) (d := 78) (v := ?_) rfl rfl (by kernel_rfl) (by kernel_rfl) (by kernel_rfl) (fun _ _ _ _ => NormalOnly.any) rfl ?hy18 HS ?rest18
                    case hy18 => intro w' hSw; (try dsimp only at hSw); go_simp; try (with_reducible rfl)
                    try simp only [List.setIfInBounds_toArray, List.set_cons_zero, List.set_cons_succ]
                    refine take_at (i := 3) (d := 79) (v := ?_) rfl rfl (by kernel_rfl) (by kernel_rfl) (by kernel_rfl) (fun _ _ _ _ => NormalOnly.any) rfl ?hy19 HS ?rest19
                    case hy19 => intro w' hSw; (try dsimp only at hSw); go_simp; try (with_reducible rfl)
                    try simp only [List.setIfInBounds_toArray, List.set_cons_zero, List.set_cons_succ]
                    refine take_at (i := 4) (d := 80) (v := ?_) rfl rfl (by kernel_rfl) (by kernel_rfl) (by kernel_rfl) (fun _ _ _ _ => NormalOnly.any) rfl ?hy20 HS ?rest20
                    case hy20 => intro w' hSw; (try dsimp only at hSw); go_simp; try (with_reducible rfl)
                    try simp only [List.setIfInBounds_toArray, List.set_cons_zero, List.set_cons_succ]
                    refine take_at (i := 5) (d := 81) (v := ?_) rfl rfl (by kernel_rfl) (by kernel_rfl) (by kernel_rfl) (fun _ _ _ _ => NormalOnly.any) rfl ?hy21 HS ?rest21
                    case hy21 => intro w' hSw; (try dsimp only at hSw); go_simp; try (with_reducible rfl)
                    try simp only [List.setIfInBounds_toArray, List.set_cons_zero, List.set_cons_succ]
                    refine take_at (i := 6) (d := 82) (v := ?_) rfl rfl (by kernel_rfl) (by kernel_rfl) (by kernel_rfl) (fun _ _ _ _ => NormalOnly.any) rfl ?hy22 HS ?rest22
                    case hy22 => intro w' hSw; (try dsimp only at hSw); go_simp; try (with_reducible rfl)
                    try simp only [List.setIfInBounds_toArray, List.set_cons_zero, List.set_cons_succ]
                    refine take_at (i := 7) (d := 83) (v := ?_) rfl rfl (by kernel_rfl) (by kernel_rfl) (by kernel_rfl) (fun _ _ _ _ => NormalOnly.any) rfl ?hy23 HS ?rest23
                    case hy23 => intro w' hSw; (try dsimp only at hSw); go_simp; try (with_reducible rfl)
                    try simp only [List.setIfInBounds_toArray, List.set_cons_zero, List.set_cons_succ]
                    refine take_at (i := 8) (d := 84) (v := ?_) rfl rfl (by kernel_rfl) (by kernel_rfl) (by kernel_rfl) (fun _ _ _ _ => NormalOnly.any) rfl ?hy24 HS ?rest24
                    case hy24 => intro w' hSw; (try dsimp only at hSw); go_simp; try (with_reducible rfl)
                    try simp only [List.setIfInBounds_toArray, List.set_cons_zero, List.set_cons_succ]
                    refine take_at (i := 9) (d := 85) (v := ?_) rfl rfl (by kernel_rfl) (by kernel_rfl) (by kernel_rfl) (fun _ _ _ _ => NormalOnly.any) rfl ?hy25 HS ?rest25
                    case hy25 => intro w' hSw; (try dsimp only at hSw); go_simp; try (with_reducible rfl)
                    try simp only [List.setIfInBounds_toArray, List.set_cons_zero, List.set_cons_succ]
                    refine take_at (i := 10) (d := 86) (v := ?_) rfl rfl (by kernel_rfl) (by kernel_rfl) (by kernel_rfl) (fun _ _ _ _ => NormalOnly.any) rfl ?hy26 HS ?rest26
                    case hy26 => intro w' hSw; (try dsimp only at hSw); go_simp; try (with_reducible rfl)
                    try simp only [List.setIfInBounds_toArray, List.set_cons_zero, List.set_cons_succ]
                    refine take_at (i := 11) (d := 87) (v := ?_) rfl rfl (by kernel_rfl) (by kernel_rfl) (by kernel_rfl) (fun _ _ _ _ => NormalOnly.any) rfl ?hy27 HS ?rest27
                    case hy27 => intro w' hSw; (try dsimp only at hSw); go_simp; try (with_reducible rfl)
                    try simp only [List.setIfInBounds_toArray, List.set_cons_zero, List.set_cons_succ]
                    refine take_at (i := 12) (d := 88) (v := ?_) rfl rfl (by kernel_rfl) (by kernel_rfl) (by kernel_rfl) (fun _ _ _ _ => NormalOnly.any) rfl ?hy28 HS ?rest28
                    case hy28 => intro w' hSw; (try dsimp only at hSw); go_simp; try (with_reducible rfl)
                    try simp only [List.setIfInBounds_toArray, List.set_cons_zero, List.set_cons_succ]
                    refine take_at (i := 14) (d := 90) (v := ?_) rfl rfl (by kernel_rfl) (by kernel_rfl) (by kernel_rfl) (fun _ _ _ _ => NormalOnly.any) rfl ?hy29 HS ?rest29
                    case hy29 => intro w' hSw; (try dsimp only at hSw); go_simp; try (with_reducible rfl)
                    try simp only [List.setIfInBounds_toArray, List.set_cons_zero, List.set_cons_succ]
                    refine wpAnyH_ready (rs := [13, 15]) (by kernel_rfl) (by simp) ?_
                    refine AllReadyH.cons rfl (fun K hK => ?_) (AllReadyH.cons rfl (fun K hK => ?_) AllReadyH.nil)
                    · go_simp
                      refine hK.out _ _ HS (fun _ => ?_)
                      clear hK
                      refine wpAnyH_ready (rs := [15]) (by kernel_rfl) (by simp) ?_
                      refine AllReadyH.cons rfl (fun K hK => ?_) AllReadyH.nil
                      go_simp
                      refine hK.out _ _ HS1 (fun _ => ?_)
                      clear hK
                      refine wpAnyH_ready (rs := [16]) (by kernel_rfl) (by simp) ?_
                      refine AllReadyH.cons rfl (fun K hK => ?_) AllReadyH.nil
                      refine step_pushM (w0 := wm.drew) rfl etI rfl _ _ rfl w1.heap.size vb (R1 r).length _ owdb rfl #[.int .i64 (x : Nat)] _ rfl rfl rfl (by simp [Value.oneCell']) (by omega) (by omega) hbsb ?_
                      intro gb cpb w5b hown hg hmv
                      obtain ⟨HOx, HAx, HAy, b5, b6, c1, f1⟩ := FINb.out gb cpb w5b hown hg hmv
                      have b7b := (b8a.drew).trans b5
                      have b8b := (b8a.drew).trans b6
                      have HS := HSB.out _ b7b HAx.cell
                      have HS2 := HSB.out _ b8b HAy.cell
                      have HOx := Lib.hid HOx; have HAy := Lib.hid HAy
                      clear HAx b5 b6 hown hg hmv HS1 owdb cwb cub FINb
                      simp only [Act.put, List.setIfInBounds_toArray]
                      refine hK.out _ _ HS (fun _ => ?_)
                      clear hK
                      refine take_at (i := 17) (d := 93) (v := ?_) rfl rfl (by kernel_rfl) (by kernel_rfl) (by kernel_rfl) (fun _ _ _ _ => NormalOnly.any) rfl ?hy30 HS ?rest30
                      case hy30 => intro w' hSw; (try dsimp only at hSw); go_simp; try (with_reducible rfl)
                      try simp only [List.setIfInBounds_toArray, List.set_cons_zero, List.set_cons_succ]
                      refine wpAnyH_ready (rs := [18]) (by kernel_rfl) (by simp) ?_
                      refine AllReadyH.cons rfl (fun K hK => ?_) AllReadyH.nil
                      go_simp
                      refine hK.out _ _ HS2 (fun _ => ?_)
                      clear hK
                      refine wpAnyH_done (by kernel_rfl) ⟨rfl, ?_⟩ _
                      clear HS HS2 c1 f1
                      go_wp2_with fail
                      go_roundw
                      case rel =>
                        refine ⟨q + 1, by omega, by go_num, ?_, HAy, b8b⟩
                        refine Lib.hid (HOx.out.congr fun i _ => ?_)
                        rw [← HR1.out, ← HR0.out, take_snocN hlt, HX.out]
                        exact rows_ints (E := E) (F := F.take q) HED.out (by omega) i
                      case measure => simp only [intOf]; omega
                    · go_simp
                      refine hK.out _ _ HS1 (fun _ => ?_)
                      clear hK
                      refine wpAnyH_ready (rs := [13]) (by kernel_rfl) (by simp) ?_
                      refine AllReadyH.cons rfl (fun K hK => ?_) AllReadyH.nil
                      go_simp
                      refine hK.out _ _ HS1 (fun _ => ?_)
                      clear hK
                      refine wpAnyH_ready (rs := [16]) (by kernel_rfl) (by simp) ?_
                      refine AllReadyH.cons rfl (fun K hK => ?_) AllReadyH.nil
                      refine step_pushM (w0 := wm.drew) rfl etI rfl _ _ rfl w1.heap.size vb (R1 r).length _ owdb rfl #[.int .i64 (x : Nat)] _ rfl rfl rfl (by simp [Value.oneCell']) (by omega) (by omega) hbsb ?_
                      intro gb cpb w5b hown hg hmv
                      obtain ⟨HOx, HAx, HAy, b5, b6, c1, f1⟩ := FINb.out gb cpb w5b hown hg hmv
                      have b7b := (b8a.drew).trans b5
                      have b8b := (b8a.drew).trans b6
                      have HS := HSB.out _ b7b HAx.cell
                      have HS2 := HSB.out _ b8b HAy.cell
                      have HOx := Lib.hid HOx; have HAy := Lib.hid HAy
                      clear HAx b5 b6 hown hg hmv HS1 owdb cwb cub FINb
                      simp only [Act.put, List.setIfInBounds_toArray]
                      refine hK.out _ _ HS (fun _ => ?_)
                      clear hK
                      refine take_at (i := 17) (d := 93) (v := ?_) rfl rfl (by kernel_rfl) (by kernel_rfl) (by kernel_rfl) (fun _ _ _ _ => NormalOnly.any) rfl ?hy31 HS ?rest31
                      case hy31 => intro w' hSw; (try dsimp only at hSw); go_simp; try (with_reducible rfl)
                      try simp only [List.setIfInBounds_toArray, List.set_cons_zero, List.set_cons_succ]
                      refine wpAnyH_ready (rs := [18]) (by kernel_rfl) (by simp) ?_
                      refine AllReadyH.cons rfl (fun K hK => ?_) AllReadyH.nil
                      go_simp
                      refine hK.out _ _ HS2 (fun _ => ?_)
                      clear hK
                      refine wpAnyH_done (by kernel_rfl) ⟨rfl, ?_⟩ _
                      clear HS HS2 c1 f1
                      go_wp2_with fail
                      go_roundw
                      case rel =>
                        refine ⟨q + 1, by omega, by go_num, ?_, HAy, b8b⟩
                        refine Lib.hid (HOx.out.congr fun i _ => ?_)
                        rw [← HR1.out, ← HR0.out, take_snocN hlt, HX.out]
                        exact rows_ints (E := E) (F := F.take q) HED.out (by omega) i
                      case measure => simp only [intOf]; omega
                  · go_simp
                    refine hK.out _ _ HS1 (fun _ => ?_)
                    clear hK
                    refine wpAnyH_ready (rs := [13]) (by kernel_rfl) (by simp) ?_
                    refine AllReadyH.cons rfl (fun K hK => ?_) AllReadyH.nil
                    go_simp
                    refine hK.out _ _ HS1 (fun _ => ?_)
                    clear hK
                    refine wpAnyH_ready (rs := [16]) (by kernel_rfl) (by simp) ?_
                    refine AllReadyH.cons rfl (fun K hK => ?_) AllReadyH.nil
                    refine step_pushM (w0 := wr.drew) rfl etI rfl _ _ rfl w1.heap.size va (R0 p).length _ owda rfl #[.int .i64 (x : Nat)] _ rfl rfl rfl (by simp [Value.oneCell']) (by omega) (by omega) hbsa ?_
                    intro ga cpa w5a hown hg hmv
                    obtain ⟨HOx, HAx, HAy, b5, b6, c1, f1⟩ := FINa.out ga cpa w5a hown hg hmv
                    have b7a := (bel2.drew).trans b5
                    have b8a := (bel2.drew).trans b6
                    have HS := HSB.out _ b7a HAx.cell
                    have HS2 := HSB.out _ b8a HAy.cell
                    have HOx := Lib.hid HOx; have HAy := Lib.hid HAy
                    clear HAx b5 b6 hown hg hmv HS1 owda cwa cua FINa
                    simp only [Act.put, List.setIfInBounds_toArray]
                    refine hK.out _ _ HS (fun _ => ?_)
                    clear hK
                    refine take_at (i := 17) (d := 75) (v := ?_) rfl rfl (by kernel_rfl) (by kernel_rfl) (by kernel_rfl) (fun _ _ _ _ => NormalOnly.any) rfl ?hy32 HS ?rest32
                    case hy32 => intro w' hSw; (try dsimp only at hSw); go_simp; try (with_reducible rfl)
                    try simp only [List.setIfInBounds_toArray, List.set_cons_zero, List.set_cons_succ]
                    refine wpAnyH_ready (rs := [18]) (by kernel_rfl) (by simp) ?_
                    refine AllReadyH.cons rfl (fun K hK => ?_) AllReadyH.nil
                    go_simp
                    refine hK.out _ _ HS2 (fun _ => ?_)
                    clear hK
                    refine wpAnyH_done (by kernel_rfl) ⟨rfl, ?_⟩ _
                    clear HS HS2 c1 f1
                    obtain ⟨R1, hR1⟩ : ∃ R1, (fun j => if j = p then R0 p ++ [(x : Int)] else R0 j) = R1 := ⟨_, rfl⟩
                    have HR1 := Lib.hid hR1
                    have HOb : Hid (OwnRows 24 3 1 encI w1.heap.size w1.heap.size k R1 (w5a.setCell ⟨w1.heap.size, p, none⟩ (.slice (some ⟨ga, 0, none⟩) ((R0 p).length + 1 : Nat) cpa))) := by rw [← hR1]; exact HOx
                    have HLNb : Hid ((R1 r).length ≤ 2000000) := by rw [← hR1]; refine Lib.hid ?_; simp only [if_neg (show ¬ r = p by omega)]; exact HL0.out r
                    have HAb := HAy
                    clear HOx HAy hR1 b7a
                    generalize w5a.setCell ⟨w1.heap.size, p, none⟩ (.slice (some ⟨ga, 0, none⟩) ((R0 p).length + 1 : Nat) cpa) = wm at *
                    have hlb : (R1 r).length ≤ 2000000 := HLNb.out
                    obtain ⟨vb, cvb, fvb, owb⟩ := HOb.out.at hrk
                    rw [encI_map] at owb
                    have hbsb : w1.heap.size ≤ wm.drew.heap.size := b8a.size
                    have cwb : (wm.alloc (.cells #[.int .i64 (x : Nat)] 3)).drew.cell? ⟨w1.heap.size, r, none⟩ = some vb := by
                      have : (wm.alloc (.cells #[.int .i64 (x : Nat)] 3)).cell? ⟨w1.heap.size, r, none⟩ = some vb := by rw [World.cell?_alloc_some _ _ _ (by rw [cvb]; rfl)]; exact cvb
                      exact this
                    have cub : wm.drew.cell? ⟨w1.heap.size, r, none⟩ = some vb := cvb
                    have owdb : wm.drew.ownsRow w1.heap.size 3 1 vb (R1 r).length ((R1 r).map (Value.int .i64)) := owb
                    have FINb := Lib.hid (fun (g cp : Nat) (w5 : World) (h1 : w5.ownsRow w1.heap.size 3 1 (.slice (some ⟨g, 0, none⟩) ((R1 r).length + 1 : Nat) cp) ((R1 r).length + 1) ((R1 r).map (Value.int .i64) ++ [.int .i64 (x : Nat)])) (h2 : wm.drew.grownBy w5 vb.ownBlock) (h3 : Moved wm.drew vb g) => rows_push (n := k) (W := wm.drew) (HOb.out.below (Below.refl _ _).drew) (show Boxed wm.drew (w1.heap.size + 1) 59 _ from HAb.out) (by omega) hrk cvb owdb h1 h2 h3)
                    have HS : wm.drew.cell? ⟨w1.heap.size + 1, 0, none⟩ = some (.slice (some ⟨w1.heap.size, 0, none⟩) k k) ∧ wm.drew.cell? ⟨w.heap.size, 0, none⟩ = some (.slice a E.length cap) ∧ wm.drew.cell? (A x) = some (.int .i64 (p : Nat)) ∧ wm.drew.cell? ⟨(A x).block, (A x).off + 1, none⟩ = some (.int .i64 (r : Nat)) := HSB.out wm.drew (b8a.drew) HAb.out.cell
                    have HS1 : (wm.alloc (.cells #[.int .i64 (x : Nat)] 3)).drew.cell? ⟨w1.heap.size + 1, 0, none⟩ = some (.slice (some ⟨w1.heap.size, 0, none⟩) k k) ∧ (wm.alloc (.cells #[.int .i64 (x : Nat)] 3)).drew.cell? ⟨w.heap.size, 0, none⟩ = some (.slice a E.length cap) ∧ (wm.alloc (.cells #[.int .i64 (x : Nat)] 3)).drew.cell? (A x) = some (.int .i64 (p : Nat)) ∧ (wm.alloc (.cells #[.int .i64 (x : Nat)] 3)).drew.cell? ⟨(A x).block, (A x).off + 1, none⟩ = some (.int .i64 (r : Nat)) := HSB.out (wm.alloc (.cells #[.int .i64 (x : Nat)] 3)).drew ((b8a.alloc b8a.size _).drew) (HAb.out.alloc _).cell
                    clear cvb fvb owb
                    go_wp2_with fail
                    refine region_plain (fun w' => w'.cell? ⟨w1.heap.size + 1, 0, none⟩ = some (.slice (some ⟨w1.heap.size, 0, none⟩) k k) ∧ w'.cell? ⟨w.heap.size, 0, none⟩ = some (.slice a E.length cap) ∧ w'.cell? (A x) = some (.int .i64 (p : Nat)) ∧ w'.cell? ⟨(A x).block, (A x).off + 1, none⟩ = some (.int .i64 (r : Nat))) (by kernel_rfl) ?_
                    refine take_at (i := 0) (d := 76) (v := ?_) rfl rfl (by kernel_rfl) (by kernel_rfl) (by kernel_rfl) (fun _ _ _ _ => NormalOnly.any) rfl ?hy33 HS ?rest33
                    case hy33 => intro w' hSw; (try dsimp only at hSw); go_simp; try (with_reducible rfl)
                    try simp only [List.setIfInBounds_toArray, List.set_cons_zero, List.set_cons_succ]
                    refine take_at (i := 1) (d := 77) (v := ?_) rfl rfl (by kernel_rfl) (by kernel_rfl) (by kernel_rfl) (fun _ _ _ _ => NormalOnly.any) rfl ?hy34 HS ?rest34
                    case hy34 => intro w' hSw; (try dsimp only at hSw); go_simp; try (with_reducible rfl)
                    try simp only [List.setIfInBounds_toArray, List.set_cons_zero, List.set_cons_succ]
                    refine take_at (i := 2) (d := 78) (v := ?_) rfl rfl (by kernel_rfl) (by kernel_rfl) (by kernel_rfl) (fun _ _ _ _ => NormalOnly.any) rfl ?hy35 HS ?rest35
                    case hy35 => intro w' hSw; (try dsimp only at hSw); go_simp; try (with_reducible rfl)
                    try simp only [List.setIfInBounds_toArray, List.set_cons_zero, List.set_cons_succ]
                    refine take_at (i := 3) (d := 79) (v := ?_) rfl rfl (by kernel_rfl) (by kernel_rfl) (by kernel_rfl) (fun _ _ _ _ => NormalOnly.any) rfl ?hy36 HS ?rest36
                    case hy36 => intro w' hSw; (try dsimp only at hSw); go_simp; try (with_reducible rfl)
                    try simp only [List.setIfInBounds_toArray, List.set_cons_zero, List.set_cons_succ]
                    refine take_at (i := 4) (d := 80) (v := ?_) rfl rfl (by kernel_rfl) (by kernel_rfl) (by kernel_rfl) (fun _ _ _ _ => NormalOnly.any) rfl ?hy37 HS ?rest37
                    case hy37 => intro w' hSw; (try dsimp only at hSw); go_simp; try (with_reducible rfl)
                    try simp only [List.setIfInBounds_toArray, List.set_cons_zero, List.set_cons_succ]
                    refine take_at (i := 5) (d := 81) (v := ?_) rfl rfl (by kernel_rfl) (by kernel_rfl) (by kernel_rfl) (fun _ _ _ _ => NormalOnly.any) rfl ?hy38 HS ?rest38
                    case hy38 => intro w' hSw; (try dsimp only at hSw); go_simp; try (with_reducible rfl)
                    try simp only [List.setIfInBounds_toArray, List.set_cons_zero, List.set_cons_succ]
                    refine take_at (i := 6) (d := 82) (v := ?_) rfl rfl (by kernel_rfl) (by kernel_rfl) (by kernel_rfl) (fun _ _ _ _ => NormalOnly.any) rfl ?hy39 HS ?rest39
                    case hy39 => intro w' hSw; (try dsimp only at hSw); go_simp; try (with_reducible rfl)
                    try simp only [List.setIfInBounds_toArray, List.set_cons_zero, List.set_cons_succ]
                    refine take_at (i := 7) (d := 83) (v := ?_) rfl rfl (by kernel_rfl) (by kernel_rfl) (by kernel_rfl) (fun _ _ _ _ => NormalOnly.any) rfl ?hy40 HS ?rest40
                    case hy40 => intro w' hSw; (try dsimp only at hSw); go_simp; try (with_reducible rfl)
                    try simp only [List.setIfInBounds_toArray, List.set_cons_zero, List.set_cons_succ]
                    refine take_at (i := 8) (d := 84) (v := ?_) rfl rfl (by kernel_rfl) (by kernel_rfl) (by kernel_rfl) (fun _ _ _ _ => NormalOnly.any) rfl ?hy41 HS ?rest41
                    case hy41 => intro w' hSw; (try dsimp only at hSw); go_simp; try (with_reducible rfl)
                    try simp only [List.setIfInBounds_toArray, List.set_cons_zero, List.set_cons_succ]
                    refine take_at (i := 9) (d := 85) (v := ?_) rfl rfl (by kernel_rfl) (by kernel_rfl) (by kernel_rfl) (fun _ _ _ _ => NormalOnly.any) rfl ?hy42 HS ?rest42
                    case hy42 => intro w' hSw; (try dsimp only at hSw); go_simp; try (with_reducible rfl)
                    try simp only [List.setIfInBounds_toArray, List.set_cons_zero, List.set_cons_succ]
                    refine take_at (i := 10) (d := 86) (v := ?_) rfl rfl (by kernel_rfl) (by kernel_rfl) (by kernel_rfl) (fun _ _ _ _ => NormalOnly.any) rfl ?hy43 HS ?rest43
                    case hy43 => intro w' hSw; (try dsimp only at hSw); go_simp; try (with_reducible rfl)
                    try simp only [List.setIfInBounds_toArray, List.set_cons_zero, List.set_cons_succ]
                    refine take_at (i := 11) (d := 87) (v := ?_) rfl rfl (by kernel_rfl) (by kernel_rfl) (by kernel_rfl) (fun _ _ _ _ => NormalOnly.any) rfl ?hy44 HS ?rest44
                    case hy44 => intro w' hSw; (try dsimp only at hSw); go_simp; try (with_reducible rfl)
                    try simp only [List.setIfInBounds_toArray, List.set_cons_zero, List.set_cons_succ]
                    refine take_at (i := 12) (d := 88) (v := ?_) rfl rfl (by kernel_rfl) (by kernel_rfl) (by kernel_rfl) (fun _ _ _ _ => NormalOnly.any) rfl ?hy45 HS ?rest45
                    case hy45 => intro w' hSw; (try dsimp only at hSw); go_simp; try (with_reducible rfl)
                    try simp only [List.setIfInBounds_toArray, List.set_cons_zero, List.set_cons_succ]
                    refine take_at (i := 14) (d := 90) (v := ?_) rfl rfl (by kernel_rfl) (by kernel_rfl) (by kernel_rfl) (fun _ _ _ _ => NormalOnly.any) rfl ?hy46 HS ?rest46
                    case hy46 => intro w' hSw; (try dsimp only at hSw); go_simp; try (with_reducible rfl)
                    try simp only [List.setIfInBounds_toArray, List.set_cons_zero, List.set_cons_succ]
                    refine wpAnyH_ready (rs := [13, 15]) (by kernel_rfl) (by simp) ?_
                    refine AllReadyH.cons rfl (fun K hK => ?_) (AllReadyH.cons rfl (fun K hK => ?_) AllReadyH.nil)
                    · go_simp
                      refine hK.out _ _ HS (fun _ => ?_)
                      clear hK
                      refine wpAnyH_ready (rs := [15]) (by kernel_rfl) (by simp) ?_
                      refine AllReadyH.cons rfl (fun K hK => ?_) AllReadyH.nil
                      go_simp
                      refine hK.out _ _ HS1 (fun _ => ?_)
                      clear hK
                      refine wpAnyH_ready (rs := [16]) (by kernel_rfl) (by simp) ?_
                      refine AllReadyH.cons rfl (fun K hK => ?_) AllReadyH.nil
                      refine step_pushM (w0 := wm.drew) rfl etI rfl _ _ rfl w1.heap.size vb (R1 r).length _ owdb rfl #[.int .i64 (x : Nat)] _ rfl rfl rfl (by simp [Value.oneCell']) (by omega) (by omega) hbsb ?_
                      intro gb cpb w5b hown hg hmv
                      obtain ⟨HOx, HAx, HAy, b5, b6, c1, f1⟩ := FINb.out gb cpb w5b hown hg hmv
                      have b7b := (b8a.drew).trans b5
                      have b8b := (b8a.drew).trans b6
                      have HS := HSB.out _ b7b HAx.cell
                      have HS2 := HSB.out _ b8b HAy.cell
                      have HOx := Lib.hid HOx; have HAy := Lib.hid HAy
                      clear HAx b5 b6 hown hg hmv HS1 owdb cwb cub FINb
                      simp only [Act.put, List.setIfInBounds_toArray]
                      refine hK.out _ _ HS (fun _ => ?_)
                      clear hK
                      refine take_at (i := 17) (d := 93) (v := ?_) rfl rfl (by kernel_rfl) (by kernel_rfl) (by kernel_rfl) (fun _ _ _ _ => NormalOnly.any) rfl ?hy47 HS ?rest47
                      case hy47 => intro w' hSw; (try dsimp only at hSw); go_simp; try (with_reducible rfl)
                      try simp only [List.setIfInBounds_toArray, List.set_cons_zero, List.set_cons_succ]
                      refine wpAnyH_ready (rs := [18]) (by kernel_rfl) (by simp) ?_
                      refine AllReadyH.cons rfl (fun K hK => ?_) AllReadyH.nil
                      go_simp
                      refine hK.out _ _ HS2 (fun _ => ?_)
                      clear hK
                      refine wpAnyH_done (by kernel_rfl) ⟨rfl, ?_⟩ _
                      clear HS HS2 c1 f1
                      go_wp2_with fail
                      go_roundw
                      case rel =>
                        refine ⟨q + 1, by omega, by go_num, ?_, HAy, b8b⟩
                        refine Lib.hid (HOx.out.congr fun i _ => ?_)
                        rw [← HR1.out, ← HR0.out, take_snocN hlt, HX.out]
                        exact rows_ints (E := E) (F := F.take q) HED.out (by omega) i
                      case measure => simp only [intOf]; omega
                    · go_simp
                      refine hK.out _ _ HS1 (fun _ => ?_)
                      clear hK
                      refine wpAnyH_ready (rs := [13]) (by kernel_rfl) (by simp) ?_
                      refine AllReadyH.cons rfl (fun K hK => ?_) AllReadyH.nil
                      go_simp
                      refine hK.out _ _ HS1 (fun _ => ?_)
                      clear hK
                      refine wpAnyH_ready (rs := [16]) (by kernel_rfl) (by simp) ?_
                      refine AllReadyH.cons rfl (fun K hK => ?_) AllReadyH.nil
                      refine step_pushM (w0 := wm.drew) rfl etI rfl _ _ rfl w1.heap.size vb (R1 r).length _ owdb rfl #[.int .i64 (x : Nat)] _ rfl rfl rfl (by simp [Value.oneCell']) (by omega) (by omega) hbsb ?_
                      intro gb cpb w5b hown hg hmv
                      obtain ⟨HOx, HAx, HAy, b5, b6, c1, f1⟩ := FINb.out gb cpb w5b hown hg hmv
                      have b7b := (b8a.drew).trans b5
                      have b8b := (b8a.drew).trans b6
                      have HS := HSB.out _ b7b HAx.cell
                      have HS2 := HSB.out _ b8b HAy.cell
                      have HOx := Lib.hid HOx; have HAy := Lib.hid HAy
                      clear HAx b5 b6 hown hg hmv HS1 owdb cwb cub FINb
                      simp only [Act.put, List.setIfInBounds_toArray]
                      refine hK.out _ _ HS (fun _ => ?_)
                      clear hK
                      refine take_at (i := 17) (d := 93) (v := ?_) rfl rfl (by kernel_rfl) (by kernel_rfl) (by kernel_rfl) (fun _ _ _ _ => NormalOnly.any) rfl ?hy48 HS ?rest48
                      case hy48 => intro w' hSw; (try dsimp only at hSw); go_simp; try (with_reducible rfl)
                      try simp only [List.setIfInBounds_toArray, List.set_cons_zero, List.set_cons_succ]
                      refine wpAnyH_ready (rs := [18]) (by kernel_rfl) (by simp) ?_
                      refine AllReadyH.cons rfl (fun K hK => ?_) AllReadyH.nil
                      go_simp
                      refine hK.out _ _ HS2 (fun _ => ?_)
                      clear hK
                      refine wpAnyH_done (by kernel_rfl) ⟨rfl, ?_⟩ _
                      clear HS HS2 c1 f1
                      go_wp2_with fail
                      go_roundw
                      case rel =>
                        refine ⟨q + 1, by omega, by go_num, ?_, HAy, b8b⟩
                        refine Lib.hid (HOx.out.congr fun i _ => ?_)
                        rw [← HR1.out, ← HR0.out, take_snocN hlt, HX.out]
                        exact rows_ints (E := E) (F := F.take q) HED.out (by omega) i
                      case measure => simp only [intOf]; omega
                · obtain rfl : q = F.length := by omega
                  have hR1 := HO1.out
                  rw [List.take_length] at hR1
                  have HRo := Lib.hid hR1
                  have hsw := bel2.size
                  obtain ⟨un, rfl⟩ : ∃ un : Nat, u = (un : Nat) := ⟨u.toNat, by have := HB.out; omega⟩
                  obtain ⟨vn, rfl⟩ : ∃ vn : Nat, v = (vn : Nat) := ⟨v.toNat, by have := HB.out; omega⟩
                  have hk1 : un < k ∧ vn < k := by have := HB.out; omega
                  have hne : un ≠ vn := fun e => H5.out (by rw [e])
                  have cx : (wr.alloc (.cells #[(.func (.func 49) #[] #[.pointer (some ⟨w.heap.size + 1, 0, none⟩), .pointer (some ⟨w1.heap.size + 1, 0, none⟩), .pointer (some ⟨wr.heap.size, 0, none⟩), .pointer (some ⟨w.heap.size, 0, none⟩)])] 85)).cell? ⟨w.heap.size + 1, 0, none⟩ = some (.int .i64 (un : Nat)) := ((HR1.out.below bel2 hwl2).alloc _).cell (i := 0) (by omega)
                  have hcut := cut_frs HG.out HO.out
                  rw [HFe.out] at hcut
                  have hFm : ∀ i, i ∈ F → i < E.length := fun i hi => frs_mem HO.out (by rw [HFe.out]; exact hi)
                  have HBF := Lib.hid (show Below wr.heap.size wr (wr.alloc (.cells #[(.func (.func 49) #[] #[.pointer (some ⟨w.heap.size + 1, 0, none⟩), .pointer (some ⟨w1.heap.size + 1, 0, none⟩), .pointer (some ⟨wr.heap.size, 0, none⟩), .pointer (some ⟨w.heap.size, 0, none⟩)])] 85)) from (Below.refl _ wr).alloc (Nat.le_refl _) _)
                  have HCF := Lib.hid (show (wr.alloc (.cells #[(.func (.func 49) #[] #[.pointer (some ⟨w.heap.size + 1, 0, none⟩), .pointer (some ⟨w1.heap.size + 1, 0, none⟩), .pointer (some ⟨wr.heap.size, 0, none⟩), .pointer (some ⟨w.heap.size, 0, none⟩)])] 85)).cell? ⟨wr.heap.size, 0, none⟩ = some (.func (.func 49) #[] #[.pointer (some ⟨w.heap.size + 1, 0, none⟩), .pointer (some ⟨w1.heap.size + 1, 0, none⟩), .pointer (some ⟨wr.heap.size, 0, none⟩), .pointer (some ⟨w.heap.size, 0, none⟩)]) from (Boxed.new wr _ _).cell)
                  have HSF := Lib.hid (show (wr.alloc (.cells #[(.func (.func 49) #[] #[.pointer (some ⟨w.heap.size + 1, 0, none⟩), .pointer (some ⟨w1.heap.size + 1, 0, none⟩), .pointer (some ⟨wr.heap.size, 0, none⟩), .pointer (some ⟨w.heap.size, 0, none⟩)])] 85)).heap.size = wr.heap.size + 1 by simp)
                  have HCut := Lib.hid hcut; have HFm := Lib.hid hFm; have HNe := Lib.hid hne
                  have HAr := HA1
                  clear hR1 HO1 HA1 hcut hFm hne
                  go_wp2_with fail
                  generalize (wr.alloc (.cells #[(.func (.func 49) #[] #[.pointer (some ⟨w.heap.size + 1, 0, none⟩), .pointer (some ⟨w1.heap.size + 1, 0, none⟩), .pointer (some ⟨wr.heap.size, 0, none⟩), .pointer (some ⟨w.heap.size, 0, none⟩)])] 85)) = wf at *
                  have hsf := HSF.out
                  have bel3 := bel2.trans (HBF.out.mono hsw)
                  have hRX : Row wf (w.heap.size + 1) 3 _ := HR1.out.below bel3 hwl2
                  have hAf : Boxed wf (w1.heap.size + 1) 59 (.slice (some ⟨w1.heap.size, 0, none⟩) k k) := (HBF.out.block _ HAr.out.lt).trans HAr.out
                  have hOf := HRo.out.below HBF.out
                  have hXf : Boxed wf w.heap.size 22 (.slice a E.length cap) := (bel3.block _ hwl).trans HX1.out
                  have hEf := (HS.out.below ((bel1.mono hB).trans (bel3.mono (Nat.le_trans hB hB01)))).mono (show B ≤ wf.heap.size by omega)
                  have hAl := HAr.out.lt
                  have hOl := hOf.lt
                  have HLF := Lib.hid (show LastF wf k E F (rowF E F) (w.heap.size + 1) (w1.heap.size + 1) w1.heap.size wr.heap.size w.heap.size vn a cap A from {
                    lt := by omega
                    hx := hRX.cell (i := 1) (by omega)
                    har := hAf.cell
                    hrow := fun v hv => by
                      obtain ⟨vv, c1, _, c3⟩ := hOf.at hv
                      rw [encI_map] at c3
                      have c4 : OwnI w1.heap.size vv (rowF E F v) wf := by unfold OwnI; rw [intsN_len] at c3; exact c3
                      obtain ⟨ra, rc, RA, rfl, h5⟩ := ownI_rd c4
                      exact ⟨ra, rc, RA, c1, h5⟩
                    hl := HCF.out
                    hb := hXf.cell
                    hE := hEf
                    mem := fun v i => rowF_mem
                    few := fun v => Nat.le_trans (rowF_len E F v) hFl })
                  have HLa := Lib.hid (last_any wf k E F (rowF E F) (w.heap.size + 1) (w1.heap.size + 1) w1.heap.size wr.heap.size w.heap.size vn a cap A HLF.out HG.out HFm.out HCut.out _ un none wf (Nat.lt_succ_self _) hk1.1 ⟨fun j hj => by cases hj⟩ (Below.refl _ _))
                  clear hRX hAf hOf hXf hEf hAl hOl cx hsf
                  unfold optI at HLa
                  dsimp only at HLa
                  refine HLa.out.mono ?_
                  clear HLa
                  rintro e w4 ⟨hres, bel4⟩
                  have hrest : rest (fun x => x ∈ F) none = (fun x => x ∈ F) := by funext j; simp [rest]
                  rw [hrest] at hres
                  have bel5 := bel3.trans (bel4.mono bel3.size)
                  have cl : w4.cell? ⟨w.heap.size, 0, none⟩ = some (.slice a E.length cap) := Boxed.cell ((bel5.block _ hwl).trans HX1.out)
                  have cw : w4.cell? ⟨w.heap.size + 1, 2, none⟩ = some (.int .i64 W) := (HR1.out.below bel5 hwl2).cell (i := 2) (by omega)
                  have belF := bel1.trans (bel5.mono hB01)
                  rcases hres with ⟨r, hP, hrF, rfl⟩ | ⟨hNo, rfl⟩
                  · cases r with
                    | none => exact absurd hP HNe.out
                    | some j =>
                      have hjl := HFm.out j (hrF j rfl)
                      have hE5 := HS.out.below (belF.mono hB)
                      have i1 := hE5.ix j hjl
                      have c2 := ES.w hE5 hjl
                      obtain ⟨wj, hwj⟩ : ∃ z, (eAt E j).w = z := ⟨_, rfl⟩
                      rw [hwj] at c2
                      have hjv : (0 : Int) ≤ j ∧ (j : Int) < E.length := by omega
                      have HWj := Lib.hid hwj; have HP := Lib.hid hP
                      have z1 : decide ((j : Int) < 0) = false := decide_eq_false (by omega)
                      have hH : ∃ rj, optI (some j) = rj ∧ rj = (j : Nat) := ⟨_, rfl, rfl⟩
                      obtain ⟨rj, hrj, hrj2⟩ := hH
                      rw [hrj, hrj2]
                      clear hwj hrest hrF hE5 hrj hrj2
                      by_cases hc : wj ≤ W
                      · have z2 : decide (wj ≤ W) = true := decide_eq_true hc
                        have HC := Lib.hid hc
                        clear hc
                        go_wp2_with fail
                        go_quiet (fail)
                        go_wp2_with fail
                        go_ret2
                        exact ⟨below_drewN belF _, .inr ⟨H0.out, .inr ⟨HB.out, .inr ⟨fun e => H5.out e, o, _, HO.out, .inr ⟨rfl, .inr ⟨j, by rw [HFe.out]; simpa using HP.out, by rw [HWj.out]; exact HC.out⟩⟩, rfl⟩⟩⟩⟩
                      · have z2 : decide (wj ≤ W) = false := decide_eq_false hc
                        have HC := Lib.hid hc
                        clear hc
                        go_wp2_with fail
                        go_quiet (fail)
                        go_wp2_with fail
                        go_ret2
                        exact ⟨below_drewN belF _, .inr ⟨H0.out, .inr ⟨HB.out, .inr ⟨fun e => H5.out e, o, _, HO.out, .inl ⟨j, by rw [HFe.out]; simpa using HP.out, by rw [HWj.out]; have := HC.out; omega, rfl⟩, rfl⟩⟩⟩⟩
                  · have HNo := Lib.hid hNo
                    clear hNo hrest
                    go_wp2_with fail
                    go_quiet (fail)
                    go_wp2_with fail
                    go_ret2
                    exact ⟨below_drewN belF _, .inr ⟨H0.out, .inr ⟨HB.out, .inr ⟨fun e => H5.out e, o, _, HO.out, .inr ⟨rfl, .inl (by rw [HFe.out]; simpa using HNo.out)⟩, rfl⟩⟩⟩⟩
end Go.Proofs.Ytbmcflmflmlmaaa
