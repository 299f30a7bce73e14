/- The walk of the law KruskalCycles: an edge outside of the forest connects what the forest's edges up to its weight connect. No conditions. -/
import Derived.Test.YtbmcflmflmlmaaaKWorks
import Derived.Test.YtbmcflmflmlmaaaKSom
import Derived.Test.YtbmcflmflmlmaaaBlt
namespace Go.Proofs.Ytbmcflmflmlmaaa
open Go.RowKit

theorem Try.infoBo : (Try.prog.info? 4).map (fun i => (i.zero, i.size, i.bytes)) = some (some (.bool false), 1, 1) := by kernel_rfl
theorem in_step (l : List Nat) (k x : Nat) (hk : k < l.length) (hx : l.getD k 0 = x) (i : Nat) : (if i = x then Value.bool true else .bool (decide (i ∈ l.take k))) = .bool (decide (i ∈ l.take (k + 1))) := by
  rw [take_snocN hk, hx]
  by_cases h : i = x
  · subst h; simp
  · rw [if_neg h]
    congr 1
    rw [Bool.eq_iff_iff]
    simp [h]
theorem cyc_same {E : List Ed} {o : List Nat} (ho : OrdOf E o) {i : Nat} (hi : i < E.length) : labO (undE (someE E (frs E o)) (eAt E i).w) (List.range (undE (someE E (frs E o)) (eAt E i).w).length) (edP E i).1 = labO (undE (someE E (frs E o)) (eAt E i).w) (List.range (undE (someE E (frs E o)) (eAt E i).w).length) (edP E i).2 := by
  rw [und_some, someE_lab]
  refine ci_lab.1 ((ci_upto ho.sorted i (ho.mem.2 hi)).mono fun l hl => List.mem_filter.2 ⟨hl.1, ?_⟩)
  have h2 := hl.2
  unfold leW
  simp only [decide_eq_true_eq]
  unfold ltE at h2
  omega
set_option maxRecDepth 100000 in
set_option maxHeartbeats 4000000 in
theorem cycles_walk (a : Option Addr) (cap : Nat) (L : List Lk) (A : Nat → Addr) (w : World) (hS : LS w w.heap.size (.slice a L.length cap) L A) (hl : L.length ≤ 9223372036854775807) (hr : LkR L) :
    Calls Try.prog 6 #[.slice a L.length cap] w fun e w' => e = .returned (.bool true) ∧ Below w.heap.size w w' := by
  have HS := Lib.hid hS; have HR := Lib.hid hr
  clear hS hr
  by_cases h120 : 120 < L.length
  · have d1 : decide ((L.length : Int) > 120) = true := decide_eq_true (by omega)
    have d2 : decide (120 < L.length) = true := decide_eq_true h120
    clear h120
    go_enter Try.func6, Try.ntmps6
    go_wp2_with fail
    refine (works_any _).mono ?_
    rintro e w7 ⟨rfl, b7⟩
    go_wp2_with fail
    go_ret
    exact ⟨rfl, b7⟩
  · have d1 : decide ((L.length : Int) > 120) = false := decide_eq_false (by omega)
    have d2 : decide (120 < L.length) = false := decide_eq_false h120
    have hl2 : L.length ≤ 120 := by omega
    clear h120 hl
    go_enter Try.func6, Try.ntmps6
    go_wp2_with fail
    refine (built_any w.heap.size a cap 30 A L w HS.out (Nat.le_refl _) HR.out (by omega) (by omega) (by omega)).mono ?_
    rintro e w1 ⟨v, rfl, hO, b1⟩
    obtain ⟨E, hE⟩ : ∃ E, bltE 30 L = E := ⟨_, rfl⟩
    have hG : GOk 30 E := by rw [← hE]; exact bltE_ok (by omega) (by omega) (by omega)
    have hEl : E.length ≤ 120 := by rw [← hE]; exact Nat.le_trans (bltE_len 30 L) hl2
    rw [hE] at hO
    obtain ⟨ea, ec, EA, rfl, hES⟩ := hO.rd
    have HG0 := Lib.hid hG; have HG := Lib.hid hG; have HE1 := Lib.hid hES; have B1 := Lib.hid b1
    clear hE hG hO hES b1
    go_wp2_with fail
    refine (forest_any w1.heap.size ea ec EA 30 E w1 HE1.out (Nat.le_refl _) (by omega)).mono ?_
    rintro e w2 ⟨b2, ⟨h0, _⟩ | ⟨_, o, fv, ho, rfl, hfv⟩⟩
    · exact absurd (gErr_ok HG.out) h0
    obtain ⟨fa, fc, FA, rfl, hF⟩ := ownI_rd hfv
    have HO := Lib.hid ho
    have hFm : ∀ i, i ∈ frs E o → i < E.length := fun i hi => ho.mem.1 ((frs_sub E o).mem hi)
    have hFl : (frs E o).length ≤ 120 := by have := frs_len E o; rw [ho.len] at this; omega
    have HFm := Lib.hid hFm
    have HF2 := Lib.hid hF
    have HE2 := Lib.hid ((HE1.out.below b2).mono b2.size)
    have B2 := Lib.hid (B1.out.trans (b2.mono B1.out.size))
    clear ho hfv hF hFm b2
    go_wp2_with fail
    refine (some_any ea fa ec fc EA FA E (frs E o) w2 HE2.out HF2.out HFm.out (by omega)).mono ?_
    rintro e w4 ⟨sv, rfl, hO4, b4⟩
    obtain ⟨sa, sc, SA, rfl, hS4⟩ := hO4.rd
    have HS4 := Lib.hid hS4
    have HE4 := Lib.hid ((HE2.out.below b4).mono b4.size); have HF4 := Lib.hid ((HF2.out.below b4).mono b4.size)
    have HGs := Lib.hid (gok_some HG.out HFm.out (by omega))
    have B4 := Lib.hid (B2.out.trans (b4.mono B2.out.size))
    have hsl := someE_len E (frs E o)
    have HSl := Lib.hid hsl
    clear hO4 hS4 b4 hsl
    go_wp2_with fail
    refine (gnew_any w4.heap.size sa sc SA 30 (someE E (frs E o)) w4 HS4.out (Nat.le_refl _) (by rw [HSl.out]; omega)).mono ?_
    rintro e w5 ⟨b5, ⟨h0, _⟩ | ⟨g2, k, hk, _, rfl, hG5⟩⟩
    · exact absurd (gErr_ok HGs.out) h0
    obtain rfl : k = 30 := by omega
    clear hk
    have HG5 := Lib.hid hG5
    have HE5 := Lib.hid ((HE4.out.below b5).mono b5.size); have HF5 := Lib.hid ((HF4.out.below b5).mono b5.size)
    have B5 := Lib.hid (B4.out.trans (b5.mono B4.out.size))
    obtain ⟨F, hFe⟩ : ∃ F, frs E o = F := ⟨_, rfl⟩
    rw [hFe] at HF5 hFl HFm HG5 ⊢
    have HCy := Lib.hid (show ∀ i, i < E.length → labO (undE (someE E F) (eAt E i).w) (List.range (undE (someE E F) (eAt E i).w).length) (edP E i).1 = labO (undE (someE E F) (eAt E i).w) (List.range (undE (someE E F) (eAt E i).w).length) (edP E i).2 from fun i hi => by
      rw [← hFe]; exact cyc_same HO.out hi)
    clear hG5 b5 hFe HG HE1 B1 B2 HE2 HF2 HS4 HE4 HF4 HGs B4 HSl
    have hmk : ∀ w, (Instr.makeSlice 46 (.int .i64 (E.length : Nat)) (.int .i64 (E.length : Nat))).run Try.prog w = .ok (.slice (some ⟨w.heap.size, 0, none⟩) E.length E.length) (w.alloc (.cells (madeCells #[.bool false] E.length) 4)) := fun w =>
      run_make_row' (P := Try.prog) 46 4 (.bool false) 1 Try.underlying46 Try.infoBo rfl .i64 .i64 E.length (by omega) (by omega) w
    have HRa := Lib.hid ((Row.made w5 (.bool false) E.length 4).congr (f' := fun j => .bool (decide (j ∈ F.take 0))) fun j _ => by simp)
    have HBa := Lib.hid (show Below w5.heap.size w5 (w5.alloc (.cells (madeCells #[.bool false] E.length) 4)) from (Below.refl _ _).alloc (Nat.le_refl _) _)
    go_wp2_with fail
    generalize hwa : w5.alloc (.cells (madeCells #[.bool false] E.length) 4) = wa at *
    clear hwa hmk
    go_loopw [9] (fun iv wr => ∃ q : Nat, q ≤ F.length ∧ iv = .int .i64 (q : Nat) ∧ Hid (Row wr w5.heap.size E.length (fun j => .bool (decide (j ∈ F.take q)))) ∧ Hid (Below w5.heap.size w5 wr)) (fun iv _ => F.length - (intOf iv).toNat)
    case atStart => exact ⟨0, Nat.zero_le _, rfl, HRa, HBa⟩
    case round =>
      clear HRa HBa
      obtain ⟨q, hq, rfl, HR, HB⟩ := hrel
      by_cases hlt : q < F.length
      · obtain ⟨x, hx⟩ : ∃ x, F.getD q 0 = x := ⟨_, rfl⟩
        have hxl : x < E.length := HFm.out x (by rw [← hx, List.getD_eq_getElem?_getD, List.getElem?_eq_getElem hlt]; exact List.getElem_mem _)
        have ix := HF5.out.ix q hlt
        have c0 := (HF5.out.below HB.out).cell q hlt 0 (by omega)
        rw [add_zero] at c0
        unfold nums at c0
        rw [intsN_nth, hx] at c0
        have e1 := HR.out.cell hxl
        have f1 := HR.out.frozen x
        have d1 : decide ((x : Int) < 0) = false := decide_eq_false (by omega)
        have d2 : decide ((x : Int) ≥ (E.length : Int)) = false := decide_eq_false (by omega)
        have d3 : decide (E.length ≤ x) = false := decide_eq_false (by omega)
        have hqv : (0 : Int) ≤ q ∧ (q : Int) < F.length := by omega
        have hxv : (0 : Int) ≤ x ∧ (x : Int) < E.length := by omega
        have HR2 := Lib.hid ((HR.out.set x (.bool true)).congr fun j _ => in_step F q x hlt hx j)
        have HB2 := Lib.hid (HB.out.setCell (p := ⟨w5.heap.size, x, none⟩) (Nat.le_refl _) (.bool true))
        clear hx HR HB
        go_wp2_with fail
        go_roundw
        case rel => exact ⟨q + 1, by omega, by go_num, HR2, HB2⟩
        case measure => simp only [intOf]; omega
      · have hqe : q = F.length := by omega
        have HRf := Lib.hid (show Row wr w5.heap.size E.length (fun j => .bool (decide (j ∈ F))) by have := HR.out; rw [hqe, List.take_length] at this; exact this)
        clear HR hqe
        have HBf := HB
        clear HB
        go_wp2_with fail
        obtain ⟨wp, hwp⟩ : ∃ wp, wr = wp := ⟨_, rfl⟩
        subst hwp
        go_loopw [10] (fun iv wv => ∃ i : Nat, i ≤ E.length ∧ iv = .int .i64 (i : Nat) ∧ Hid (Row wv w5.heap.size E.length (fun j => .bool (decide (j ∈ F)))) ∧ Hid (Below w5.heap.size w5 wv)) (fun iv _ => E.length - (intOf iv).toNat)
        case atStart => exact ⟨0, Nat.zero_le _, rfl, HRf, HBf⟩
        case round =>
          clear HRf HBf
          obtain ⟨i, hi, rfl, HR, HB⟩ := hrel
          by_cases hli : i < E.length
          · have c0 := HR.out.cell hli
            have hiv : (0 : Int) ≤ i ∧ (i : Int) < E.length := by omega
            by_cases hin : i ∈ F
            · rw [decide_eq_true hin] at c0
              clear hin
              go_wp2_with fail
              go_roundw
              case rel => exact ⟨i + 1, by omega, by go_num, HR, HB⟩
              case measure => simp only [intOf]; omega
            · rw [decide_eq_false hin] at c0
              have hEr := HE5.out.below HB.out
              have i1 := hEr.ix i hli
              have e2 := ES.w hEr hli
              obtain ⟨θ, hθ⟩ : ∃ z, (eAt E i).w = z := ⟨_, rfl⟩
              have HC := Lib.hid (HCy.out i hli)
              rw [hθ] at e2 HC
              have HGr := Lib.hid ((HG5.out.below HB.out).mono HB.out.size)
              have hs5 := HB.out.size
              clear hEr hin hθ
              go_wp2_with fail
              refine (gunder_any wr.heap.size g2 30 (someE E F) θ wr HGr.out (Nat.le_refl _)).mono ?_
              rintro e v6 ⟨u1, rfl, hU6, b6⟩
              have HU6 := Lib.hid hU6
              have HR6 := Lib.hid (HR.out.below b6 HR.out.lt)
              have HB6 := Lib.hid (HB.out.trans (b6.mono hs5))
              clear hU6 b6 c0 e2
              go_wp2_with fail
              refine (glabels_any v6.heap.size u1 30 (undE (someE E F) θ) v6 HU6.out (Nat.le_refl _)).mono ?_
              rintro e v7 ⟨l1, rfl, hR7, _, b7⟩
              obtain ⟨f, hf⟩ : ∃ f, labO (undE (someE E F) θ) (List.range (undE (someE E F) θ).length) = f := ⟨_, rfl⟩
              rw [hf] at hR7 HC
              have HRb := Lib.hid (HR6.out.below b7 HR6.out.lt)
              have HBb := Lib.hid (HB6.out.trans (b7.mono HB6.out.size))
              have hE7 := HE5.out.below HBb.out
              have e0 := ES.u hE7 hli
              have e1 := ES.v hE7 hli
              obtain ⟨u, v, hu, hv, hun, hvn, huv⟩ := HG0.out.nats hli
              rw [hu] at e0; rw [hv] at e1
              have HC2 := HC.out
              have hed : edP E i = (u, v) := by unfold edP; rw [hu, hv]; simp
              rw [hed] at HC2
              have c1 : v7.cell? ⟨l1, u, none⟩ = some (.int .i64 (f u : Nat)) := hR7.cell hun
              have c2 : v7.cell? ⟨l1, v, none⟩ = some (.int .i64 (f v : Nat)) := hR7.cell hvn
              rw [← HC2] at c2
              generalize f u = p at *
              have k1 : ((p : Int) != (p : Int)) = false := by simp
              have hu2 : (0 : Int) ≤ u ∧ (u : Int) < 30 := by omega
              have hv2 : (0 : Int) ≤ v ∧ (v : Int) < 30 := by omega
              clear hf hR7 b7 hE7 hu hv HC HC2 hed
              go_wp2_with fail
              go_quiet (fail)
              go_wp2_with fail
              go_roundw
              case rel => exact ⟨i + 1, by omega, by go_num, Lib.hid HRb.out, Lib.hid (below_drewN HBb.out _)⟩
              case measure => simp only [intOf]; omega
          · go_wp2_with fail
            refine (works_any _).mono ?_
            rintro e v7 ⟨rfl, b7⟩
            have B7 := Lib.hid ((B5.out.trans (HB.out.mono B5.out.size)).trans (b7.mono (Nat.le_trans B5.out.size HB.out.size)))
            clear b7
            go_wp2_with fail
            go_ret
            exact ⟨rfl, B7.out⟩
end Go.Proofs.Ytbmcflmflmlmaaa
