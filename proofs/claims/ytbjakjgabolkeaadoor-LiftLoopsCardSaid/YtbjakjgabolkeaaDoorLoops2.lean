/- The walk of the law LiftLoops. Conditions: the bytes are given as cells; the library's table of de Bruijn is as its initialiser lays it. -/
import Derived.Test.YtbjakjgabolkeaaDoorLoops
namespace Go.Proofs.YtbjakjgabolkeaaDoor
open Go.RowKit Go.Shelf

theorem SQ.stepB {w0 w1 w2 : World} {B b : Nat} {p : List Int} {Q : World → Prop} (S : SQ w0 B b p Q w1) (hb : Below B w1 w2) (h1 : 1 < B) (h0 : w0.heap.size ≤ B) : SQ w0 B b p Q w2 :=
  ⟨⟨S.st.tab.below hb, S.st.deb.below hb h1, Nat.le_trans S.st.le hb.size, S.st.bel.trans (hb.mono h0)⟩, S.keep _ _ hb S.q, S.keep⟩
theorem SQ.aboveB {w0 w1 : World} {B b : Nat} {p : List Int} {Q : World → Prop} (S : SQ w0 B b p Q w1) {x v : Int} {y : Bool} (hy : abB p x v = y) :
    Calls Tryd.prog 18 #[.pointer (some ⟨b, 0, none⟩), .int .i64 x, .int .i64 v] w1 fun e w' => e = .returned (.bool y) ∧ SQ w0 B b p Q w' ∧ Below w1.heap.size w1 w' := by
  subst hy
  exact (above_tab _ _ _ _ _ _ S.st.tab S.st.le S.st.deb).mono fun _ _ ⟨h, hb⟩ => ⟨h, S.step hb, hb⟩

set_option maxRecDepth 100000 in
set_option maxHeartbeats 8000000 in
theorem loops_walk (B : Nat) (ao : Option Addr) (cap : Nat) (A : Nat → Addr) (L : List Int) (turned : Bool) (x y : Nat) (n : Int) (w : World) (hT : DeB w) (hS : Sl 22 .u8 w B (.slice ao L.length cap) L A) (hB : B ≤ w.heap.size) (hc : L.length ≤ cap) (hm : L.length ≤ 9223372036854775807) (hb : ∀ i, i < L.length → 0 ≤ nth L i ∧ nth L i ≤ 255) (hx : x ≤ 65535) (hy : y ≤ 65535) (hn64 : -9223372036854775808 ≤ n ∧ n ≤ 9223372036854775807) :
    Calls Tryd.prog 4 #[.slice ao L.length cap, .bool turned, .int .u16 x, .int .u16 y, .int .i64 n] w fun e w' => e = .returned (.bool true) ∧ Below w.heap.size w w' := by
  have hM := made_any B ao cap A L turned w hT hS hB hc hm hb
  have hR := made_range L turned
  obtain ⟨hn1, hn2⟩ := hn64
  have hmk : ∀ w, (Instr.makeSlice 25 (.int .i64 8193) (.int .i64 8193)).run Tryd.prog w = .ok (.slice (some ⟨w.heap.size, 0, none⟩) 8193 8193) (w.alloc (.cells (madeCells #[.int .i64 0] 8193) 3)) := fun w =>
    run_make_row' (P := Tryd.prog) 25 3 (.int .i64 0) 8 Tryd.underlying25 Tryd.info3 rfl .i64 .i64 8193 (by omega) (by omega) w
  clear hS hB hc hb hT
  generalize madeL L turned = p at hM hR
  go_enter Tryd.func4, Tryd.ntmps4
  go_wp2_with fail
  refine hM.mono ?_
  rintro e w1 ⟨b0, a1, cap1, A1, K, rfl, S, hSp⟩
  clear hM
  have S0 := S.top.hold hSp
  have S1 := S0.step ((Below.refl w1.heap.size w1).alloc (Nat.le_refl _) (.cells (madeCells #[.int .i64 0] 8193) 3))
  have hsz := (S.bel).size
  have hdl := S.deb.lt
  clear S hSp
  go_wp2_with fail
  generalize (w1.alloc (.cells (madeCells #[.int .i64 0] 8193) 3)) = W2 at *
  refine (new_arg _ _ _ _ (by omega) (by omega)).mono ?_
  rintro e w2 ⟨rfl, rfl⟩
  clear hmk S0
  by_cases h0 : p.length = 0
  · have h0' : ((p.length : Int) == 0) = true := by rw [h0]; rfl
    clear h0
    go_wp2_with fail
    refine S1.works.mono ?_
    rintro e w3 ⟨rfl, S3⟩
    go_wp2_with fail
    go_ret
    exact ⟨rfl, S3.st.bel⟩
  have h0' : ((p.length : Int) == 0) = false := by rw [beq_eq_false_iff_ne]; omega
  have hn : (1 : Int) ≤ p.length := by omega
  have h8 := S1.st.tab.small
  obtain ⟨v, hv, hvl⟩ := mod_nat x (show 0 < p.length by omega)
  have HF := Lib.hid S1.st.tab.tree
  have HV := Lib.hid hv
  have hW2 := S1.st.le
  clear hv
  go_wp2_with fail
  rw [HV.out]
  clear HV
  go_loopw [16, 17] (fun s i wr => ∃ k : Nat, k ≤ p.length ∧ i = .int .i64 k ∧ wr.ownsRow w1.heap.size 3 1 s (underTo p v k).length ((underTo p v k).map nat64) ∧ SQ w w1.heap.size b0 p (fun w => Sl 25 .i64 w w1.heap.size (.slice a1 p.length cap1) p A1) wr) (fun _ i _ => p.length - (intOf i).toNat)
  case atStart => exact ⟨0, Nat.zero_le _, rfl, World.ownsRow_nil _ _ _ _, S1⟩
  case round =>
    obtain ⟨k, hk, rfl, hown, T1⟩ := hrel
    clear S1
    by_cases hlt : k < p.length
    · have hle := underTo_len p v k
      have hsu := underTo_succ p v k
      have hab := ab_at hvl hlt
      cases hz : isAnc p v k
      · have HA := Lib.hid (hab.trans hz)
        have HS : underTo p v (k + 1) = underTo p v k := by rw [hsu, hz]; rfl
        have HS' := Lib.hid HS
        clear hsu hab hz HS
        go_wp2_with fail
        refine (T1.aboveB HA.out).mono ?_
        rintro e w3 ⟨rfl, T2, b3⟩
        have hown2 := ownsRow_below hown b3
        clear T1 hown b3
        go_wp2_with fail
        go_roundw
        case rel => exact ⟨k + 1, by omega, by go_num, by rw [HS'.out]; exact hown2, T2⟩
        case measure => simp [intOf]; omega
      · have HA := Lib.hid (hab.trans hz)
        have HS : underTo p v (k + 1) = underTo p v k ++ [k] := by rw [hsu, hz]; rfl
        have HS' := Lib.hid HS
        clear hsu hab hz HS
        go_wp2_with fail
        refine (T1.aboveB HA.out).mono ?_
        rintro e w3 ⟨rfl, T2, b3⟩
        have hown2 := ownsRow_below hown b3
        have hle3 := T2.st.le
        clear T1 hown b3
        go_wp2_with (at_builtin; refine push et25 rfl _ _ rfl w1.heap.size _ _ _ hown2 rfl #[nat64 k] _ rfl rfl rfl (by simp [nat64, Value.oneCell']) (by omega) (by omega) (by omega) ?_; intro g cp w4 hown4 hg4 hv4)
        have T3 := T2.stepB ((Below.refl w1.heap.size w3).grown hg4 hle3 (fun j e => (hown2.lt j e).1)) hdl hsz
        have hl4 : (underTo p v (k + 1)).length = (underTo p v k).length + 1 := by rw [HS'.out]; simp
        go_roundw
        case rel => exact ⟨k + 1, by omega, by go_num, by rw [hl4, HS'.out, List.map_append]; exact hown4, T3⟩
        case measure => simp [intOf]; omega
    · obtain rfl : k = p.length := by omega
      have hMl := underTo_len p v p.length
      have hpos : 0 < (underTo p v p.length).length := List.length_pos_of_mem (mem_under.2 ⟨hvl, isAnc_self HF.out hvl⟩)
      obtain ⟨q, hq, hql⟩ := mod_nat y hpos
      obtain ⟨hul, hanc⟩ := mem_under.1 (List.getElem_mem hql)
      have hU := map_at hql
      obtain ⟨au, cu, rfl, huc⟩ := own_view hown
      obtain ⟨gu, rfl, _, _, hcu, _⟩ := huc q _ hU
      generalize (underTo p v p.length)[q] = u at *
      have hloop := Lib.hid (newE_loop HF.out hR h8 hvl hul hanc)
      have hcu' : wr.cell? ⟨gu, q, none⟩ = some (.int .i64 u) := hcu
      have hgl : gu < wr.heap.size := by
        obtain ⟨o, ho, _⟩ := cells_of_cell hcu'
        exact (Array.getElem?_eq_some_iff.1 ho).1
      have hlen0 : (((underTo p v p.length).length : Int) == 0) = false := by rw [beq_eq_false_iff_ne]; omega
      have hlen1 : (1 : Int) ≤ (underTo p v p.length).length := by omega
      clear hU huc hown hcu hanc
      generalize (underTo p v p.length).length = M at *
      have hSl := T1.q
      have hdeb := T1.st.deb
      have hbel := T1.st.bel
      have hBr := T1.st.le
      have hqi : (0 : Int) ≤ q ∧ (q : Int) < M := by omega
      have hvi : (0 : Int) ≤ v ∧ (v : Int) < p.length := by omega
      go_wp2_with (at_builtin; refine copied et25 rfl _ _ rfl hSl hBr rfl (by omega) _ rfl rfl rfl (by omega) (by omega) ?_; intro g cp w4 hg R4 D4; have hcu4 : w4.cell? ⟨gu, q, none⟩ = some (.int .i64 u) := (D4.cell (by exact hgl)).trans hcu'; have e0 : w4.cell? ⟨g, v, none⟩ = some (.int .i64 (nth p v)) := (R4.cellAt v (by omega)).trans (by simp [nth, hvl]); have z0 := R4.frozenAt v)
      have R5 := (R4.stored v (.int .i64 u)).1
      rw [← List.map_set] at R5
      have D5 := (D4.setCell (p := ⟨g, v, none⟩) hg (.int .i64 u))
      have hdl' : 1 < wr.heap.size := by omega
      clear R4 D4 e0 z0 hcu4 T1 hSl hBr
      generalize w4.setCell ⟨g, v, none⟩ (.int .i64 u) = w5 at *
      obtain ⟨hl5, A5, T5⟩ := Sl.ownAt R5
      by_cases c1 : n < -2
      · have m1 := Lib.hid (newE_off (m := n) h8 hvl (by omega))
        have m2 := Lib.hid (newE_off (m := (p.length : Int)) h8 hvl (by omega))
        refine (new_badN hl5 hloop.out (by decide) (by omega) T5 (Nat.le_refl _)).mono ?_
        rintro e w6 ⟨rfl, b6⟩
        have R6 := ownsRow_below R5 b6
        have D6 := D5.trans (b6.mono D5.size)
        clear R5 D5 b6 T5 hl5
        have e0 : w6.cell? ⟨g, v, none⟩ = some (.int .i64 u) := by rw [R6.cellAt v (by omega)]; simp [hvl]
        have z0 := R6.frozenAt v
        go_wp2_with fail
        have R7 := (R6.stored v (.int .i64 (n))).1
        rw [← List.map_set, List.set_set] at R7
        have D7 := D6.setCell (p := ⟨g, v, none⟩) hg (.int .i64 (n))
        clear R6 D6 e0 z0
        generalize w6.setCell ⟨g, v, none⟩ (.int .i64 (n)) = w7 at *
        obtain ⟨hl7, A7, T7⟩ := Sl.ownAt R7
        refine (new_badN hl7 m1.out (by decide) (by omega) T7 (Nat.le_refl _)).mono ?_
        rintro e w8 ⟨rfl, b8⟩
        have R8 := ownsRow_below R7 b8
        have D8 := D7.trans (b8.mono D7.size)
        clear R7 D7 b8 T7 hl7
        have e0 : w8.cell? ⟨g, v, none⟩ = some (.int .i64 (n)) := by rw [R8.cellAt v (by omega)]; simp [hvl]
        have z0 := R8.frozenAt v
        go_wp2_with fail
        have R9 := (R8.stored v (.int .i64 ((p.length : Int)))).1
        rw [← List.map_set, List.set_set] at R9
        have D9 := D8.setCell (p := ⟨g, v, none⟩) hg (.int .i64 ((p.length : Int)))
        clear R8 D8 e0 z0
        generalize w8.setCell ⟨g, v, none⟩ (.int .i64 ((p.length : Int))) = w9 at *
        obtain ⟨hl9, A9, T9⟩ := Sl.ownAt R9
        refine (new_badN hl9 m2.out (by decide) (by omega) T9 (Nat.le_refl _)).mono ?_
        rintro e w10 ⟨rfl, b10⟩
        have D10 := D9.trans (b10.mono D9.size)
        clear R9 D9 b10 T9 hl9
        go_wp2_with fail
        refine (works_any _ (hdeb.below D10 (by omega))).mono ?_
        rintro e w11 ⟨rfl, b11⟩
        go_wp2_with fail
        go_ret
        exact ⟨rfl, hbel.trans ((D10.trans (b11.mono D10.size)).mono hbel.size)⟩
      by_cases c2 : n = -2
      · subst c2
        have m1 := Lib.hid (newE_off (m := -2) h8 hvl (by omega))
        have m2 := Lib.hid (newE_off (m := (p.length : Int)) h8 hvl (by omega))
        refine (new_badN hl5 hloop.out (by decide) (by omega) T5 (Nat.le_refl _)).mono ?_
        rintro e w6 ⟨rfl, b6⟩
        have R6 := ownsRow_below R5 b6
        have D6 := D5.trans (b6.mono D5.size)
        clear R5 D5 b6 T5 hl5
        have e0 : w6.cell? ⟨g, v, none⟩ = some (.int .i64 u) := by rw [R6.cellAt v (by omega)]; simp [hvl]
        have z0 := R6.frozenAt v
        go_wp2_with fail
        have R7 := (R6.stored v (.int .i64 (-2))).1
        rw [← List.map_set, List.set_set] at R7
        have D7 := D6.setCell (p := ⟨g, v, none⟩) hg (.int .i64 (-2))
        clear R6 D6 e0 z0
        generalize w6.setCell ⟨g, v, none⟩ (.int .i64 (-2)) = w7 at *
        obtain ⟨hl7, A7, T7⟩ := Sl.ownAt R7
        refine (new_badN hl7 m1.out (by decide) (by omega) T7 (Nat.le_refl _)).mono ?_
        rintro e w8 ⟨rfl, b8⟩
        have R8 := ownsRow_below R7 b8
        have D8 := D7.trans (b8.mono D7.size)
        clear R7 D7 b8 T7 hl7
        have e0 : w8.cell? ⟨g, v, none⟩ = some (.int .i64 (-2)) := by rw [R8.cellAt v (by omega)]; simp [hvl]
        have z0 := R8.frozenAt v
        go_wp2_with fail
        have R9 := (R8.stored v (.int .i64 ((p.length : Int)))).1
        rw [← List.map_set, List.set_set] at R9
        have D9 := D8.setCell (p := ⟨g, v, none⟩) hg (.int .i64 ((p.length : Int)))
        clear R8 D8 e0 z0
        generalize w8.setCell ⟨g, v, none⟩ (.int .i64 ((p.length : Int))) = w9 at *
        obtain ⟨hl9, A9, T9⟩ := Sl.ownAt R9
        refine (new_badN hl9 m2.out (by decide) (by omega) T9 (Nat.le_refl _)).mono ?_
        rintro e w10 ⟨rfl, b10⟩
        have D10 := D9.trans (b10.mono D9.size)
        clear R9 D9 b10 T9 hl9
        go_wp2_with fail
        refine (works_any _ (hdeb.below D10 (by omega))).mono ?_
        rintro e w11 ⟨rfl, b11⟩
        go_wp2_with fail
        go_ret
        exact ⟨rfl, hbel.trans ((D10.trans (b11.mono D10.size)).mono hbel.size)⟩
      by_cases c3 : n < p.length
      · have m1 := Lib.hid (newE_off (m := -2) h8 hvl (by omega))
        have m2 := Lib.hid (newE_off (m := (p.length : Int)) h8 hvl (by omega))
        refine (new_badN hl5 hloop.out (by decide) (by omega) T5 (Nat.le_refl _)).mono ?_
        rintro e w6 ⟨rfl, b6⟩
        have R6 := ownsRow_below R5 b6
        have D6 := D5.trans (b6.mono D5.size)
        clear R5 D5 b6 T5 hl5
        have e0 : w6.cell? ⟨g, v, none⟩ = some (.int .i64 u) := by rw [R6.cellAt v (by omega)]; simp [hvl]
        have z0 := R6.frozenAt v
        go_wp2_with fail
        have R7 := (R6.stored v (.int .i64 (-2))).1
        rw [← List.map_set, List.set_set] at R7
        have D7 := D6.setCell (p := ⟨g, v, none⟩) hg (.int .i64 (-2))
        clear R6 D6 e0 z0
        generalize w6.setCell ⟨g, v, none⟩ (.int .i64 (-2)) = w7 at *
        obtain ⟨hl7, A7, T7⟩ := Sl.ownAt R7
        refine (new_badN hl7 m1.out (by decide) (by omega) T7 (Nat.le_refl _)).mono ?_
        rintro e w8 ⟨rfl, b8⟩
        have R8 := ownsRow_below R7 b8
        have D8 := D7.trans (b8.mono D7.size)
        clear R7 D7 b8 T7 hl7
        have e0 : w8.cell? ⟨g, v, none⟩ = some (.int .i64 (-2)) := by rw [R8.cellAt v (by omega)]; simp [hvl]
        have z0 := R8.frozenAt v
        go_wp2_with fail
        have R9 := (R8.stored v (.int .i64 ((p.length : Int)))).1
        rw [← List.map_set, List.set_set] at R9
        have D9 := D8.setCell (p := ⟨g, v, none⟩) hg (.int .i64 ((p.length : Int)))
        clear R8 D8 e0 z0
        generalize w8.setCell ⟨g, v, none⟩ (.int .i64 ((p.length : Int))) = w9 at *
        obtain ⟨hl9, A9, T9⟩ := Sl.ownAt R9
        refine (new_badN hl9 m2.out (by decide) (by omega) T9 (Nat.le_refl _)).mono ?_
        rintro e w10 ⟨rfl, b10⟩
        have D10 := D9.trans (b10.mono D9.size)
        clear R9 D9 b10 T9 hl9
        go_wp2_with fail
        refine (works_any _ (hdeb.below D10 (by omega))).mono ?_
        rintro e w11 ⟨rfl, b11⟩
        go_wp2_with fail
        go_ret
        exact ⟨rfl, hbel.trans ((D10.trans (b11.mono D10.size)).mono hbel.size)⟩
      by_cases c4 : n = p.length
      · subst c4
        have m1 := Lib.hid (newE_off (m := -2) h8 hvl (by omega))
        have m2 := Lib.hid (newE_off (m := (p.length : Int)) h8 hvl (by omega))
        refine (new_badN hl5 hloop.out (by decide) (by omega) T5 (Nat.le_refl _)).mono ?_
        rintro e w6 ⟨rfl, b6⟩
        have R6 := ownsRow_below R5 b6
        have D6 := D5.trans (b6.mono D5.size)
        clear R5 D5 b6 T5 hl5
        have e0 : w6.cell? ⟨g, v, none⟩ = some (.int .i64 u) := by rw [R6.cellAt v (by omega)]; simp [hvl]
        have z0 := R6.frozenAt v
        go_wp2_with fail
        have R7 := (R6.stored v (.int .i64 (-2))).1
        rw [← List.map_set, List.set_set] at R7
        have D7 := D6.setCell (p := ⟨g, v, none⟩) hg (.int .i64 (-2))
        clear R6 D6 e0 z0
        generalize w6.setCell ⟨g, v, none⟩ (.int .i64 (-2)) = w7 at *
        obtain ⟨hl7, A7, T7⟩ := Sl.ownAt R7
        refine (new_badN hl7 m1.out (by decide) (by omega) T7 (Nat.le_refl _)).mono ?_
        rintro e w8 ⟨rfl, b8⟩
        have R8 := ownsRow_below R7 b8
        have D8 := D7.trans (b8.mono D7.size)
        clear R7 D7 b8 T7 hl7
        have e0 : w8.cell? ⟨g, v, none⟩ = some (.int .i64 (-2)) := by rw [R8.cellAt v (by omega)]; simp [hvl]
        have z0 := R8.frozenAt v
        go_wp2_with fail
        have R9 := (R8.stored v (.int .i64 ((p.length : Int)))).1
        rw [← List.map_set, List.set_set] at R9
        have D9 := D8.setCell (p := ⟨g, v, none⟩) hg (.int .i64 ((p.length : Int)))
        clear R8 D8 e0 z0
        generalize w8.setCell ⟨g, v, none⟩ (.int .i64 ((p.length : Int))) = w9 at *
        obtain ⟨hl9, A9, T9⟩ := Sl.ownAt R9
        refine (new_badN hl9 m2.out (by decide) (by omega) T9 (Nat.le_refl _)).mono ?_
        rintro e w10 ⟨rfl, b10⟩
        have D10 := D9.trans (b10.mono D9.size)
        clear R9 D9 b10 T9 hl9
        go_wp2_with fail
        refine (works_any _ (hdeb.below D10 (by omega))).mono ?_
        rintro e w11 ⟨rfl, b11⟩
        go_wp2_with fail
        go_ret
        exact ⟨rfl, hbel.trans ((D10.trans (b11.mono D10.size)).mono hbel.size)⟩
      · have m1 := Lib.hid (newE_off (m := -2) h8 hvl (by omega))
        have m2 := Lib.hid (newE_off (m := n) h8 hvl (by omega))
        refine (new_badN hl5 hloop.out (by decide) (by omega) T5 (Nat.le_refl _)).mono ?_
        rintro e w6 ⟨rfl, b6⟩
        have R6 := ownsRow_below R5 b6
        have D6 := D5.trans (b6.mono D5.size)
        clear R5 D5 b6 T5 hl5
        have e0 : w6.cell? ⟨g, v, none⟩ = some (.int .i64 u) := by rw [R6.cellAt v (by omega)]; simp [hvl]
        have z0 := R6.frozenAt v
        go_wp2_with fail
        have R7 := (R6.stored v (.int .i64 (-2))).1
        rw [← List.map_set, List.set_set] at R7
        have D7 := D6.setCell (p := ⟨g, v, none⟩) hg (.int .i64 (-2))
        clear R6 D6 e0 z0
        generalize w6.setCell ⟨g, v, none⟩ (.int .i64 (-2)) = w7 at *
        obtain ⟨hl7, A7, T7⟩ := Sl.ownAt R7
        refine (new_badN hl7 m1.out (by decide) (by omega) T7 (Nat.le_refl _)).mono ?_
        rintro e w8 ⟨rfl, b8⟩
        have R8 := ownsRow_below R7 b8
        have D8 := D7.trans (b8.mono D7.size)
        clear R7 D7 b8 T7 hl7
        have e0 : w8.cell? ⟨g, v, none⟩ = some (.int .i64 (-2)) := by rw [R8.cellAt v (by omega)]; simp [hvl]
        have z0 := R8.frozenAt v
        go_wp2_with fail
        have R9 := (R8.stored v (.int .i64 (n))).1
        rw [← List.map_set, List.set_set] at R9
        have D9 := D8.setCell (p := ⟨g, v, none⟩) hg (.int .i64 (n))
        clear R8 D8 e0 z0
        generalize w8.setCell ⟨g, v, none⟩ (.int .i64 (n)) = w9 at *
        obtain ⟨hl9, A9, T9⟩ := Sl.ownAt R9
        refine (new_badN hl9 m2.out (by decide) (by omega) T9 (Nat.le_refl _)).mono ?_
        rintro e w10 ⟨rfl, b10⟩
        have D10 := D9.trans (b10.mono D9.size)
        clear R9 D9 b10 T9 hl9
        go_wp2_with fail
        refine (works_any _ (hdeb.below D10 (by omega))).mono ?_
        rintro e w11 ⟨rfl, b11⟩
        go_wp2_with fail
        go_ret
        exact ⟨rfl, hbel.trans ((D10.trans (b11.mono D10.size)).mono hbel.size)⟩
end Go.Proofs.YtbjakjgabolkeaaDoor
