/- The walk of the law KruskalForests: the forest is a minimum spanning forest. No conditions. -/
import Derived.Test.YtbmcflmflmlmaaaKWorks
import Derived.Test.YtbmcflmflmlmaaaKSom
import Derived.Test.YtbmcflmflmlmaaaKLsm
import Derived.Test.YtbmcflmflmlmaaaMin
import Derived.Test.YtbmcflmflmlmaaaSwR
import Derived.Test.YtbmcflmflmlmaaaBlt
import Derived.Test.YtbmcflmflmlmaaaGrR
namespace Go.Proofs.Ytbmcflmflmlmaaa
open Go.RowKit

theorem row_count (x y z : Int) (w : World) : (Instr.field 61 (.agg #[.int .i64 x, .int .i64 y, .int .i64 z]) 1).run Try.prog w = .ok (.int .i64 y) w := by
  have u2 := Try.underlying3
  have a2 := Try.isAgg3
  have z2 := Try.sizeOf3
  simp only [Instr.field, Sem.run_bind, run_underlying Try.underlying61]
  go_simp
  simp [asAgg]
def F0 (E : List Ed) (o : List Nat) : List Nat := frs E o
theorem toN_ints (p : List Nat) : toN (intsN p) = p := by
  unfold toN intsN
  rw [List.map_map]
  conv => rhs; rw [← List.map_id p]
  exact List.map_congr_left fun x _ => by simp
theorem spE_ints {m : Nat} {p : List Nat} (h : ∀ i, i ∈ p → i < m) (hd : p.Nodup) : spE m (intsN p) = 0 := by
  unfold spE
  rw [if_pos (fun x hx => by obtain ⟨i, hi, rfl⟩ := List.mem_map.1 hx; have := h i hi; omega), toN_ints, if_pos hd]
theorem some_ws (E : List Ed) (p : List Nat) : (someE E p).map (fun e => e.w) = wsOf E p := by unfold someE wsOf; rw [List.map_map]; rfl
theorem some_sum (E : List Ed) (p : List Nat) : eSum (someE E p) = wSum E p := by unfold eSum wSum; rw [some_ws]
theorem some_same {E E' : List Ed} {p p' : List Nat} (h : wsOf E p = wsOf E' p') {i : Nat} (hi : i < p.length) (hi' : i < p'.length) : (eAt (someE E p) i).w = (eAt (someE E' p') i).w := by
  rw [← some_ws, ← some_ws] at h
  have h1 := congrArg (fun l => l[i]?) h
  simp only [List.getElem?_map] at h1
  rw [List.getElem?_eq_getElem (by rw [someE_len]; exact hi), List.getElem?_eq_getElem (by rw [someE_len]; exact hi')] at h1
  rw [eAt_eq (by rw [someE_len]; exact hi), eAt_eq (by rw [someE_len]; exact hi')]
  simpa using h1
theorem some_small {E : List Ed} {p : List Nat} (hp : ∀ i, i ∈ p → i < E.length) (hw : ∀ i, i < E.length → -128 ≤ (eAt E i).w ∧ (eAt E i).w ≤ 127) : ∀ i, i < (someE E p).length → -128 ≤ (eAt (someE E p) i).w ∧ (eAt (someE E p) i).w ≤ 127 := fun i hi => by
  rw [someE_len] at hi
  rw [someE_at hi]
  exact hw _ (hp _ (by rw [List.getD_eq_getElem?_getD, List.getElem?_eq_getElem hi]; exact List.getElem_mem _))
theorem frs_len_eq {k : Nat} {E : List Ed} {o : List Nat} (G : GOk k E) (ho : OrdOf E o) : (frs E o).length = k - cntN k (labO E (List.range E.length)) := by
  have h := frs_rank (G.inE fun i hi => ho.mem.1 hi)
  rw [show labO E o = labO E (List.range E.length) from labO_set fun i => by rw [ho.mem, List.mem_range]] at h
  omega
set_option maxRecDepth 100000 in
set_option maxHeartbeats 4000000 in
theorem forests_walk (a : Option Addr) (cap : Nat) (L : List Lk) (A : Nat → Addr) (w : World) (hS : LS w w.heap.size (.slice a L.length cap) L A) (hl : L.length ≤ 9223372036854775807) (hr : LkR L) :
    Calls Try.prog 11 #[.slice a L.length cap] w fun e w' => e = .returned (.bool true) ∧ Below w.heap.size w w' := by
  have HS := Lib.hid hS; have HR := Lib.hid hr
  clear hS hr
  by_cases h120 : 120 < L.length
  · have d1 : decide ((L.length : Int) > 120) = true := decide_eq_true (by omega)
    have d2 : decide (120 < L.length) = true := decide_eq_true h120
    clear h120
    go_enter Try.func11, Try.ntmps11
    go_wp2_with fail
    refine (works_any _).mono ?_
    rintro e w7 ⟨rfl, b7⟩
    go_wp2_with fail
    go_ret
    exact ⟨rfl, b7⟩
  · have d1 : decide ((L.length : Int) > 120) = false := decide_eq_false (by omega)
    have d2 : decide (120 < L.length) = false := decide_eq_false h120
    have hl2 : L.length ≤ 120 := by omega
    clear h120 hl
    go_enter Try.func11, Try.ntmps11
    go_wp2_with fail
    refine (built_any w.heap.size a cap 30 A L w HS.out (Nat.le_refl _) HR.out (by omega) (by omega) (by omega)).mono ?_
    rintro e w1 ⟨v, rfl, hO, b1⟩
    obtain ⟨E, hE⟩ : ∃ E, bltE 30 L = E := ⟨_, rfl⟩
    have hG : GOk 30 E := by rw [← hE]; exact bltE_ok (by omega) (by omega) (by omega)
    have hEl : E.length ≤ 120 := by rw [← hE]; exact Nat.le_trans (bltE_len 30 L) hl2
    have HEw := Lib.hid (show ∀ i, i < E.length → -128 ≤ (eAt E i).w ∧ (eAt E i).w ≤ 127 by rw [← hE]; exact bltE_w HR.out)
    rw [hE] at hO
    obtain ⟨ea, ec, EA, rfl, hES⟩ := hO.rd
    have HG := Lib.hid hG; have HE1 := Lib.hid hES; have B1 := Lib.hid b1
    clear hE hG hO hES b1
    go_wp2_with fail
    refine (forest_any w1.heap.size ea ec EA 30 E w1 HE1.out (Nat.le_refl _) (by omega)).mono ?_
    rintro e w2 ⟨b2, ⟨h0, _⟩ | ⟨_, o, fv, ho, rfl, hfv⟩⟩
    · exact absurd (gErr_ok HG.out) h0
    obtain ⟨fa, fc, FA, rfl, hF⟩ := ownI_rd hfv
    have HO := Lib.hid ho
    have hFm : ∀ i, i ∈ frs E o → i < E.length := fun i hi => ho.mem.1 ((frs_sub E o).mem hi)
    have hFl : (frs E o).length ≤ 120 := by have := frs_len E o; rw [ho.len] at this; omega
    have HFm := Lib.hid hFm
    have HF2 := Lib.hid hF
    have HE2 := Lib.hid ((HE1.out.below b2).mono b2.size)
    have B2 := Lib.hid (B1.out.trans (b2.mono B1.out.size))
    clear ho hfv hF hFm b2
    go_wp2_with fail
    refine (gnew_any w2.heap.size ea ec EA 30 E w2 HE2.out (Nat.le_refl _) (by omega)).mono ?_
    rintro e w3 ⟨b3, ⟨h0, _⟩ | ⟨g1, k, hk, _, rfl, hG3⟩⟩
    · exact absurd (gErr_ok HG.out) h0
    obtain rfl : k = 30 := by omega
    clear hk
    have HG3 := Lib.hid hG3
    have HF3 := Lib.hid ((HF2.out.below b3).mono b3.size)
    have HE3 := Lib.hid ((HE2.out.below b3).mono b3.size)
    have B3 := Lib.hid (B2.out.trans (b3.mono B2.out.size))
    clear hG3 b3
    have HCn := Lib.hid (frs_len_eq HG.out HO.out)
    obtain ⟨cn, hcn⟩ : ∃ c, cntN 30 (labO E (List.range E.length)) = c := ⟨_, rfl⟩
    have hc30 := cntN_le 30 (labO E (List.range E.length))
    rw [hcn] at HCn hc30
    have HC := Lib.hid hcn
    have hFc : (F0 E o).length = 30 - cn := HCn.out
    have k0 : (((F0 E o).length : Int) != (30 : Int) - (cn : Int)) = false := by simp; omega
    clear hcn
    go_wp2_with fail
    refine (grow_any w3.heap.size g1 30 E w3 HG3.out (Nat.le_refl _)).mono ?_
    rintro e w4 ⟨rfl, b4⟩
    rw [HC.out]
    obtain ⟨rl, hrl⟩ : ∃ z : Int, ((lgN 30 (labO E (List.range E.length)) (lbL (labO E (List.range E.length)) 30) : Nat) : Int) = z := ⟨_, rfl⟩
    obtain ⟨rs, hrs⟩ : ∃ z : Int, ((sqN 30 (labO E (List.range E.length)) (lbL (labO E (List.range E.length)) 30) : Nat) : Int) = z := ⟨_, rfl⟩
    rw [hrl, hrs]
    have hfld := fun w => row_count rl (cn : Int) rs w
    have hwc : IntKind.i64.wrap ((30 : Int) - (cn : Int)) = (30 : Int) - (cn : Int) := IntWalk.i64_in _ (by omega)
    clear hrl hrs
    have HF4 := Lib.hid ((HF3.out.below b4).mono b4.size)
    have HE4 := Lib.hid ((HE3.out.below b4).mono b4.size)
    have B4 := Lib.hid (B3.out.trans (b4.mono B3.out.size))
    obtain ⟨F, hFe⟩ : ∃ F, frs E o = F := ⟨_, rfl⟩
    have HNd := Lib.hid (show F.Nodup by rw [← hFe]; exact (frs_sub _ _).nodup (HO.out.perm.nodup_iff.2 List.nodup_range))
    have HAc := Lib.hid (show Acy E F by rw [← hFe]; exact acy_frs E o)
    have HPw := Lib.hid (show F.Pairwise (ltE E) by rw [← hFe]; exact HO.out.sorted.sublist (frs_sub E o))
    unfold F0 at k0 hFc
    rw [hFe] at HF4 hFl HFm k0 ⊢
    clear hFc
    have HFe := Lib.hid hFe
    have hpl : (intsN F).length = F.length := intsN_len F
    have hSp := spansX_any w4.heap.size ea fa ec fc EA FA 30 E (intsN F) w4 HE4.out (by unfold Sl; rw [hpl]; exact HF4.out) (Nat.le_refl _) (by omega) (by rw [hpl]; omega)
    rw [hpl] at hSp
    have HSp := Lib.hid hSp
    have HPl := Lib.hid hpl
    clear hSp hpl hFe b4
    go_wp2_with fail
    clear k0 hfld hwc
    refine HSp.out.mono ?_
    clear HSp
    rintro e w5 ⟨bb, ⟨h0, _⟩ | ⟨_, o2, ho2, rfl⟩⟩
    · exact absurd (gErr_ok HG.out) h0
    obtain rfl := HO.out.uniq ho2
    have HSE := Lib.hid (spE_ints HFm.out HNd.out)
    have hsb : spB E (intsN F) (frs E o).length = true := decide_eq_true ⟨HSE.out, by rw [HPl.out, HFe.out], by rw [toN_ints]; exact HAc.out⟩
    rw [hsb, HSE.out]
    have HSB := Lib.hid hsb
    have HE5 := Lib.hid ((HE4.out.below bb).mono bb.size); have HF5 := Lib.hid ((HF4.out.below bb).mono bb.size)
    have B5 := Lib.hid (B4.out.trans (bb.mono B4.out.size))
    have hMn := minimal_any w5.heap.size ea fa ec fc EA FA 30 E (intsN F) w5 HE5.out (by unfold Sl; rw [HPl.out]; exact HF5.out) (Nat.le_refl _) (by omega) (by rw [HPl.out]; omega)
    rw [HPl.out] at hMn
    have HMn := Lib.hid hMn
    clear hMn hsb ho2 bb
    go_wp2_with fail
    refine HMn.out.mono ?_
    clear HMn
    rintro e w6 ⟨bb, ⟨h0, _⟩ | ⟨_, o2, ho2, rfl⟩⟩
    · exact absurd (gErr_ok HG.out) h0
    obtain rfl := HO.out.uniq ho2
    have hmb : minB E o (intsN F) = true := by
      unfold minB
      rw [HSB.out, Bool.true_and, toN_ints, HFe.out]
      exact decide_eq_true rfl
    rw [hmb, HSE.out]
    have HE6 := Lib.hid ((HE5.out.below bb).mono bb.size); have HF6 := Lib.hid ((HF5.out.below bb).mono bb.size)
    have B6 := Lib.hid (B5.out.trans (bb.mono B5.out.size))
    clear hmb ho2 bb
    go_wp2_with fail
    refine (weight_any w6.heap.size ea ec EA 30 E w6 HE6.out (Nat.le_refl _) (by omega) (fun i hi => by have := HEw.out i hi; unfold inR; omega)).mono ?_
    rintro e w7 ⟨bb, ⟨h0, _⟩ | ⟨_, o2, ho2, rfl⟩⟩
    · exact absurd (gErr_ok HG.out) h0
    obtain rfl := HO.out.uniq ho2
    obtain ⟨X, hXe⟩ : ∃ X, someE E F = X := ⟨_, rfl⟩
    have hXl : X.length = F.length := by rw [← hXe]; exact someE_len E F
    have hXw := some_small HFm.out HEw.out
    rw [hXe] at hXw
    have hsx : eSum X = wSum E F := by rw [← hXe]; exact some_sum E F
    have hbd := eSum_bd hXw X.length (Nat.le_refl _)
    rw [List.take_length] at hbd
    rw [HFe.out, ← hsx]
    have hin : inR (eSum X) := by unfold inR; omega
    unfold sumW sumO
    rw [if_pos hin, if_pos hin]
    have HE7 := Lib.hid ((HE6.out.below bb).mono bb.size); have HF7 := Lib.hid ((HF6.out.below bb).mono bb.size)
    have B7 := Lib.hid (B6.out.trans (bb.mono B6.out.size))
    have HXw := Lib.hid hXw; have HXe := Lib.hid hXe
    clear hXw hXe hsx hbd hin ho2 bb
    go_wp2_with fail
    refine (some_any ea fa ec fc EA FA E F w7 HE7.out HF7.out HFm.out (by omega)).mono ?_
    rintro e w8 ⟨xv, rfl, hX, bb⟩
    rw [HXe.out] at hX
    obtain ⟨xa, xc, XA, rfl, hXE⟩ := hX.rd
    have HX8 := Lib.hid hXE
    have HF8 := Lib.hid ((HF7.out.below bb).mono bb.size)
    have B8 := Lib.hid (B7.out.trans (bb.mono B7.out.size))
    have HLs := Lib.hid (lsum_any xa xc XA X w8 hXE (by omega) HXw.out)
    have k1 : ((X.length : Int) != (F.length : Int)) = false := by simp; omega
    have HXl := Lib.hid hXl
    have hX120 : X.length ≤ 120 := by omega
    clear hX hXE bb hXl
    go_wp2_with fail
    refine HLs.out.mono ?_
    rintro e wz ⟨rfl, rfl⟩
    have k2 : (eSum X != eSum X) = false := by simp
    clear HLs
    go_wp2_with fail
    clear k1 k2
    go_loopw [15] (fun iv wr => ∃ q : Nat, 1 ≤ q ∧ iv = .int .i64 (q : Nat) ∧ Hid (∃ m, wr = w8.drewN m)) (fun iv _ => X.length - (intOf iv).toNat)
    case atStart => exact ⟨1, Nat.le_refl _, rfl, Lib.hid ⟨0, rfl⟩⟩
    case round =>
      obtain ⟨q, hq, rfl, HW⟩ := hrel
      have bw : Below w8.heap.size w8 wr := by obtain ⟨m, rfl⟩ := HW.out; exact below_drewN (Below.refl _ _) _
      by_cases hlt : q < X.length
      · obtain ⟨p, hp⟩ : ∃ p, p + 1 = q := ⟨q - 1, by omega⟩
        have hpX : p < X.length := by omega
        have hqF : q < F.length := by have := HXl.out; omega
        have hpF : p < F.length := by omega
        have i1 := HX8.out.ix q hlt
        have i2 := HX8.out.ix p hpX
        have c1 := ES.w (HX8.out.below bw) hlt
        have c2 := ES.w (HX8.out.below bw) hpX
        have i3 := HF8.out.ix q hqF
        have i4 := HF8.out.ix p hpF
        have c3 := (HF8.out.below bw).cell q hqF 0 (by omega)
        have c4 := (HF8.out.below bw).cell p hpF 0 (by omega)
        rw [add_zero] at c3 c4
        unfold nums at c3 c4
        rw [intsN_nth] at c3 c4
        have hlt2 : ltE E (F.getD p 0) (F.getD q 0) := by
          have h1 := List.pairwise_iff_getElem.1 HPw.out p q hpF hqF (by omega)
          simpa [List.getD, hpF, hqF] using h1
        have hx1 : (eAt X q).w = (eAt E (F.getD q 0)).w := by rw [← HXe.out, someE_at hqF]
        have hx2 : (eAt X p).w = (eAt E (F.getD p 0)).w := by rw [← HXe.out, someE_at hpF]
        rw [hx1] at c1; rw [hx2] at c2
        unfold ltE at hlt2
        generalize F.getD q 0 = fq at *
        generalize F.getD p 0 = fp at *
        generalize (eAt E fq).w = y at *
        generalize (eAt E fp).w = x at *
        have hw1 : IntKind.i64.wrap ((q : Int) - 1) = (p : Nat) := by rw [IntWalk.i64_in _ (by omega)]; omega
        have hw2 : (q : Int) - 1 = (p : Nat) := by omega
        have hqv : (0 : Int) ≤ q ∧ (q : Int) < X.length := by omega
        have hpv : (0 : Int) ≤ p ∧ (p : Int) < X.length := by omega
        have hqv2 : (0 : Int) ≤ q ∧ (q : Int) < F.length := by omega
        have hpv2 : (0 : Int) ≤ p ∧ (p : Int) < F.length := by omega
        have d1 : decide (x > y) = false := decide_eq_false (by omega)
        clear hx1 hx2 bw hp hpX hqF hpF
        by_cases hxy : x = y
        · have k1 : (x == y) = true := by simp [hxy]
          have d2 : decide ((fp : Int) ≥ (fq : Int)) = false := decide_eq_false (by omega)
          have d3 : decide (fq ≤ fp) = false := decide_eq_false (by omega)
          clear hxy hlt2
          go_wp2_with fail
          go_quiet (fail)
          go_wp2_with fail
          go_roundw
          case rel =>
            refine ⟨q + 1, by omega, by go_num, Lib.hid ?_⟩
            obtain ⟨m, rfl⟩ := HW.out; exact ⟨_, World.drewN_drewN _ _ _⟩
          case measure => simp only [intOf]; omega
        · have k1 : (x == y) = false := by simpa using hxy
          clear hxy hlt2
          go_wp2_with fail
          go_quiet (fail)
          go_wp2_with fail
          go_roundw
          case rel =>
            refine ⟨q + 1, by omega, by go_num, Lib.hid ?_⟩
            obtain ⟨m, rfl⟩ := HW.out; exact ⟨_, World.drewN_drewN _ _ _⟩
          case measure => simp only [intOf]; omega
      · have B9 := Lib.hid (B8.out.trans (bw.mono B8.out.size))
        have hws := bw.size
        clear bw
        go_wp2_with fail
        refine (works_any _).mono ?_
        rintro e w9 ⟨rfl, b9⟩
        have Bz := Lib.hid (B9.out.trans (b9.mono B9.out.size))
        clear b9
        go_wp2_with fail
        go_ret
        exact ⟨rfl, Bz.out⟩
end Go.Proofs.Ytbmcflmflmlmaaa
