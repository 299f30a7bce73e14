/- The walk of Spans of the document's kruskal. Conditions: the choice is short. -/
import Derived.Test.YtbmcflmflmlmaaaRChk
import Derived.Test.YtbmcflmflmlmaaaRLab
namespace Go.Proofs.Ytbmcflmflmlmaaa
open Go.RowKit

/-- some of the edges -/
def someE (E : List Ed) (p : List Nat) : List Ed := p.map (eAt E)
theorem someE_len (E : List Ed) (p : List Nat) : (someE E p).length = p.length := by simp [someE]
theorem someE_at {E : List Ed} {p : List Nat} {i : Nat} (h : i < p.length) : eAt (someE E p) i = eAt E (p.getD i 0) := by
  unfold someE
  rw [eAt_eq (by simpa using h), List.getElem_map]
  simp [List.getD, h]
theorem someE_lab (E : List Ed) (p : List Nat) : labO (someE E p) (List.range (someE E p).length) = labO E p := by
  have h : (List.range (someE E p).length).map (edP (someE E p)) = p.map (edP E) := by
    apply List.ext_getElem
    · simp [someE]
    · intro i h1 h2
      simp only [List.length_map] at h2
      simp only [List.getElem_map, List.getElem_range]
      unfold edP
      rw [someE_at h2]
      simp [List.getD, h2]
  unfold labO; rw [h]
theorem toN_take (P : List Int) (k : Nat) : toN (P.take k) = (toN P).take k := by simp [toN, List.map_take]
theorem toN_at {P : List Int} {k : Nat} (h : k < P.length) : (toN P).getD k 0 = (nth P k).toNat := by
  simp [toN, nth, List.getD, h]
theorem toN_take_succ {P : List Int} {k : Nat} (h : k < P.length) : toN (P.take (k + 1)) = toN (P.take k) ++ [(nth P k).toNat] := by
  rw [take_nth h]; simp [toN]
theorem someE_snoc (E : List Ed) (p : List Nat) (x : Nat) : someE E (p ++ [x]) = someE E p ++ [eAt E x] := by simp [someE]
theorem cntN_succ (n : Nat) (k : Nat → Nat) : cntN (n + 1) k = cntN n k + (if k n = n then 1 else 0) := by
  unfold cntN
  rw [List.range_succ, List.filter_append, List.length_append]
  split <;> simp_all
/-- do they connect the same vertices, and are they few? -/
def rspB (k : Nat) (E : List Ed) (P : List Int) : Bool := decide ((∀ i, i < k → labO E (List.range E.length) i = labO E (toN P) i) ∧ (P.length : Int) = (k : Int) - (cntN k (labO E (List.range E.length)) : Nat))
/-- what the document's Spans answers -/
def RSpansRes (n : Int) (E : List Ed) (P : List Int) (w : World) (e : Ending) (w' : World) : Prop :=
  Below w.heap.size w w' ∧ ((ckE n E P ≠ 0 ∧ e = .returned (.tuple #[.bool false, .int .i64 (ckE n E P)])) ∨ (ckE n E P = 0 ∧ e = .returned (.tuple #[.bool (rspB n.toNat E P), .int .i64 0])))
theorem ckE_zero {n : Int} {E : List Ed} {P : List Int} (h : ckE n E P = 0) : gErr n E = 0 ∧ (∀ x, x ∈ P → 0 ≤ x ∧ x < (E.length : Int)) ∧ (toN P).Nodup := by
  unfold ckE at h
  split at h
  · rename_i h0
    exact ⟨h0, spE_zero h⟩
  · rename_i h0; exact absurd h h0
theorem gok_some {k : Nat} {E : List Ed} {p : List Nat} (G : GOk k E) (hp : ∀ i, i ∈ p → i < E.length) (hl : p.length ≤ 16384) : GOk k (someE E p) :=
  ⟨G.n_le, by rw [someE_len]; exact hl, fun i hi => by
    rw [someE_len] at hi
    rw [someE_at hi]
    exact G.ends _ (hp _ (by rw [List.getD_eq_getElem?_getD, List.getElem?_eq_getElem hi]; exact List.getElem_mem _))⟩
set_option maxRecDepth 100000 in
set_option maxHeartbeats 4000000 in
theorem rspans_any (B : Nat) (a pa : Option Addr) (cap pc : Nat) (A PA : Nat → Addr) (n : Int) (E : List Ed) (P : List Int) (w : World) (hS : ES w B (.slice a E.length cap) E A) (hP : Sl 24 .i64 w B (.slice pa P.length pc) P PA) (hB : B ≤ w.heap.size) (hm : E.length ≤ 9223372036854775807) (hl : P.length ≤ 16384) :
    Calls Try.prog 30 #[.int .i64 n, .slice a E.length cap, .slice pa P.length pc] w (RSpansRes n E P w) := by
  have HC := Lib.hid (rcheck_any B a pa cap pc A PA n E P w hS hP hB hm (by omega))
  have HS := Lib.hid hS; have HP := Lib.hid hP
  clear hS hP
  go_enter Try.func30, Try.ntmps30
  go_wp2_with fail
  refine HC.out.mono ?_
  clear HC
  rintro e w1 ⟨rfl, hb1⟩
  obtain ⟨ee, hee⟩ : ∃ ee, ckE n E P = ee := ⟨_, rfl⟩
  have HE := Lib.hid hee
  rw [hee]
  clear hee
  have hs1 := hb1.size
  have HB1 := Lib.hid hb1
  have HS1 := Lib.hid ((HS.out.below (hb1.mono hB)).mono (Nat.le_trans hB hs1))
  have HP1 := Lib.hid ((HP.out.below (hb1.mono hB)).mono (Nat.le_trans hB hs1))
  clear hb1
  by_cases hz0 : ee = 0
  · have hz : (ee != 0) = false := by simp [hz0]
    obtain ⟨h0, hr, hd⟩ := ckE_zero (HE.out.trans hz0)
    have HZ := Lib.hid (HE.out.trans hz0)
    obtain ⟨k, rfl, G⟩ := gErr_zero h0
    have HR := Lib.hid hr
    have HG := Lib.hid G
    have hkn := G.n_le
    have hml := G.m_le
    clear hz0 h0 hr hd G
    go_wp2_with fail
    go_loopw [9, 10] (fun v iv wr => ∃ i : Nat, i ≤ P.length ∧ iv = .int .i64 (i : Nat) ∧ Hid (wr.ownsRow w1.heap.size 36 3 v i (flat (edC (someE E (toN (P.take i)))) i 3)) ∧ Below w1.heap.size w1 wr) (fun _ iv _ => P.length - (intOf iv).toNat)
    case atStart => exact ⟨0, Nat.zero_le _, rfl, Lib.hid (World.ownsRow_nil _ _ _ _), Below.refl _ _⟩
    case round =>
      obtain ⟨i, hi, rfl, HO, bel⟩ := hrel
      by_cases hlt : i < P.length
      · have ix := HP1.out.ix i hlt
        have c0 := Sl.at (HP1.out.below bel) hlt
        obtain ⟨x, hx⟩ : ∃ x : Nat, nth P i = x := ⟨(nth P i).toNat, by have := HR.out (nth P i) (nth_mem hlt); omega⟩
        have hxl : x < E.length := by have := HR.out (nth P i) (nth_mem hlt); omega
        rw [hx] at c0
        have i1 := HS1.out.ix x hxl
        have hEr := HS1.out.below bel
        have e0 := ES.u hEr hxl
        have e1 := ES.v hEr hxl
        have e2 := ES.w hEr hxl
        have HSn := Lib.hid (show flat (edC (someE E (toN (P.take (i + 1))))) (i + 1) 3 = flat (edC (someE E (toN (P.take i)))) i 3 ++ #[Value.int .i64 (eAt E x).u, .int .i64 (eAt E x).v, .int .i64 (eAt E x).w].toList by
          have h1 := flat_snoc (someE E (toN (P.take i))) (eAt E x)
          rw [← someE_snoc] at h1
          have h2 : toN (P.take i) ++ [x] = toN (P.take (i + 1)) := by rw [toN_take_succ hlt, hx]; simp
          have h3 : (someE E (toN (P.take i))).length = i := by rw [someE_len, toN_len, List.length_take]; omega
          have h4 : (someE E (toN (P.take (i + 1)))).length = i + 1 := by rw [someE_len, toN_len, List.length_take]; omega
          rw [h2, h3, h4] at h1
          exact h1)
        obtain ⟨xu, hxu⟩ : ∃ z, (eAt E x).u = z := ⟨_, rfl⟩
        obtain ⟨xv, hxv⟩ : ∃ z, (eAt E x).v = z := ⟨_, rfl⟩
        obtain ⟨xw, hxw⟩ : ∃ z, (eAt E x).w = z := ⟨_, rfl⟩
        rw [hxu] at e0 HSn; rw [hxv] at e1 HSn; rw [hxw] at e2 HSn
        have hiv : (0 : Int) ≤ i ∧ (i : Int) < P.length := by omega
        have hxv2 : (0 : Int) ≤ x ∧ (x : Int) < E.length := by omega
        have hown := HO.out
        have hsz := bel.size
        clear hx hEr hxu hxv hxw HO
        go_wp2_with (at_builtin; refine push etE rfl _ _ rfl w1.heap.size _ _ _ hown rfl #[.int .i64 xu, .int .i64 xv, .int .i64 xw] _ rfl rfl rfl (by simp [Value.oneCell']) (by omega) (by omega) hsz ?_; intro g cp w5 hown5 hg5 hv5)
        have hb5 : Below w1.heap.size wr w5 := (Below.refl _ wr).grown hg5 hsz (fun j e => (hown.lt j e).1)
        go_roundw
        case rel => exact ⟨i + 1, by omega, by go_num, by rw [HSn.out]; exact Lib.hid hown5, bel.trans hb5⟩
        case measure => simp only [intOf]; omega
      · obtain rfl : i = P.length := by omega
        have hown := HO.out
        rw [List.take_length] at hown
        have hOE : OwnE w1.heap.size u9 (someE E (toN P)) wr := by unfold OwnE; rw [someE_len, toN_len]; exact hown
        obtain ⟨sa, sc, SA, rfl, hSo⟩ := hOE.rd
        have hsl : (someE E (toN P)).length = P.length := by rw [someE_len, toN_len]
        have hs2 := bel.size
        have HSo := Lib.hid hSo
        have HSr := Lib.hid ((HS1.out.below bel).mono hs2)
        have HB2 := Lib.hid (HB1.out.trans (bel.mono hs1))
        have HN1 := Lib.hid (rnew_any wr.heap.size a cap A k E wr HSr.out (Nat.le_refl _) (by omega))
        have HGs := Lib.hid (gok_some HG.out (p := toN P) (fun i hi => by
          obtain ⟨y, hy, rfl⟩ := List.mem_map.1 hi
          have := HR.out y hy; omega) (by rw [toN_len]; omega))
        have HSl := Lib.hid hsl
        obtain ⟨wq, hwq⟩ : ∃ wq, wr = wq := ⟨_, rfl⟩
        subst hwq
        clear hown hOE hSo HO hsl bel
        go_wp2_with fail
        refine HN1.out.mono ?_
        clear HN1
        rintro e w3 ⟨v3, rfl, hv3, hb3⟩
        rw [gO_some HG.out] at hv3
        obtain ⟨b3, rfl, hA3⟩ := hv3
        have HA3 := Lib.hid hA3
        have HB3 := Lib.hid (HB2.out.trans (hb3.mono HB2.out.size))
        have HSo3 := Lib.hid ((HSo.out.below hb3).mono hb3.size)
        have hn2 := rnew_any w3.heap.size sa sc SA k (someE E (toN P)) w3 HSo3.out (Nat.le_refl _) (by rw [HSl.out]; omega)
        rw [gErr_ok HG.out]
        have HN2 := Lib.hid hn2
        clear hn2 hb3 hA3
        go_wp2_with fail
        refine HN2.out.mono ?_
        clear HN2
        rintro e w4 ⟨v4, rfl, hv4, hb4⟩
        rw [gO_some HGs.out] at hv4
        obtain ⟨b4, rfl, hA4⟩ := hv4
        rw [gErr_ok HGs.out]
        have HA4 := Lib.hid hA4
        have HA34 := Lib.hid ((HA3.out.below hb4).mono hb4.size)
        have HB4 := Lib.hid (HB3.out.trans (hb4.mono HB3.out.size))
        clear hb4 hA4
        go_wp2_with fail
        refine (rlabels_any w4.heap.size b3 k E w4 HA34.out (Nat.le_refl _)).mono ?_
        rintro e w5 ⟨v5, rfl, hv5, hb5⟩
        obtain ⟨la, lc, LA, rfl, hL5⟩ := LabO.rd hv5
        have HL5 := Lib.hid hL5
        have HA45 := Lib.hid ((HA4.out.below hb5).mono hb5.size)
        have HB5 := Lib.hid (HB4.out.trans (hb5.mono HB4.out.size))
        clear hb5 hv5 hL5
        go_wp2_with fail
        refine (rlabels_any w5.heap.size b4 k (someE E (toN P)) w5 HA45.out (Nat.le_refl _)).mono ?_
        rintro e w6 ⟨v6, rfl, hv6, hb6⟩
        rw [someE_lab] at hv6
        obtain ⟨ma, mc, MA, rfl, hL6⟩ := LabO.rd hv6
        have HM6 := Lib.hid hL6
        have HL6 := Lib.hid ((HL5.out.below hb6).mono hb6.size)
        have HB6 := Lib.hid (HB5.out.trans (hb6.mono HB5.out.size))
        obtain ⟨f, hf⟩ : ∃ f, labO E (List.range E.length) = f := ⟨_, rfl⟩
        obtain ⟨g, hg⟩ : ∃ g, labO E (toN P) = g := ⟨_, rfl⟩
        rw [hf] at HL6; rw [hg] at HM6
        have Hf := Lib.hid hf; have Hg := Lib.hid hg
        clear hb6 hv6 hL6 hf hg
        go_wp2_with fail
        go_loopw [17, 18] (fun c iv wr => ∃ i : Nat, i ≤ k ∧ iv = .int .i64 (i : Nat) ∧ c = .int .i64 (cntN i f : Nat) ∧ Hid (∀ j, j < i → f j = g j) ∧ Hid (∃ m, wr = w6.drewN m)) (fun _ iv _ => k - (intOf iv).toNat)
        case atStart => exact ⟨0, Nat.zero_le _, rfl, rfl, Lib.hid (fun j hj => absurd hj (by omega)), Lib.hid ⟨0, rfl⟩⟩
        case round =>
          obtain ⟨i, hi, rfl, rfl, HQ, HW⟩ := hrel
          have bel : Below w6.heap.size w6 wr := by obtain ⟨m, rfl⟩ := HW.out; exact below_drewN (Below.refl _ _) _
          have hb : Below w.heap.size w wr := by obtain ⟨m, rfl⟩ := HW.out; exact below_drewN HB6.out _
          have hcl := cntN_le i f
          by_cases hlt : i < k
          · have i1 := HL6.out.ix i hlt
            have i2 := HM6.out.ix i hlt
            have c1 := lab_cell (HL6.out.below bel) hlt
            have c2 := lab_cell (HM6.out.below bel) hlt
            obtain ⟨p, hp⟩ : ∃ p, f i = p := ⟨_, rfl⟩
            obtain ⟨r, hr⟩ : ∃ r, g i = r := ⟨_, rfl⟩
            rw [hp] at c1; rw [hr] at c2
            have HP := Lib.hid hp; have HRr := Lib.hid hr
            have hiv : (0 : Int) ≤ i ∧ (i : Int) < k := by omega
            have hcs := cntN_succ i f
            rw [hp] at hcs
            obtain ⟨cc, hcc⟩ : ∃ cc, cntN i f = cc := ⟨_, rfl⟩
            rw [hcc] at hcs hcl ⊢
            clear hp hr bel hcc
            by_cases hpr : p = r
            · have k1 : ((p : Int) != (r : Int)) = false := by simp [hpr]
              have HQ2 := Lib.hid (show ∀ j, j < i + 1 → f j = g j from fun j hj => by
                by_cases e : j = i
                · rw [e, HP.out, HRr.out, hpr]
                · exact HQ.out j (by omega))
              clear hpr
              by_cases hpi : p = i
              · have k2 : ((p : Int) == (i : Int)) = true := by simp [hpi]
                have HCs := Lib.hid (show cntN (i + 1) f = cc + 1 by rw [hcs, if_pos hpi])
                clear hpi hcs
                go_wp2_with fail
                go_quiet (fail)
                go_wp2_with fail
                go_roundw
                case rel =>
                  refine ⟨i + 1, by omega, by go_num, by rw [HCs.out]; go_num, HQ2, Lib.hid ?_⟩
                  obtain ⟨m, rfl⟩ := HW.out; exact ⟨_, World.drewN_drewN _ _ _⟩
                case measure => simp only [intOf]; omega
              · have k2 : ((p : Int) == (i : Int)) = false := by simp; omega
                have HCs := Lib.hid (show cntN (i + 1) f = cc by rw [hcs, if_neg hpi]; rfl)
                clear hpi hcs
                go_wp2_with fail
                go_quiet (fail)
                go_wp2_with fail
                go_roundw
                case rel =>
                  refine ⟨i + 1, by omega, by go_num, by rw [HCs.out], HQ2, Lib.hid ?_⟩
                  obtain ⟨m, rfl⟩ := HW.out; exact ⟨_, World.drewN_drewN _ _ _⟩
                case measure => simp only [intOf]; omega
            · have k1 : ((p : Int) != (r : Int)) = true := by simp; omega
              have HF := Lib.hid (show rspB k E P = false from decide_eq_false fun c => hpr (by have := c.1 i hlt; rw [Hf.out, Hg.out, HP.out, HRr.out] at this; exact this))
              clear hpr hcs
              go_wp2_with fail
              go_quiet (fail)
              go_wp2_with fail
              go_ret2
              exact ⟨below_drewN hb _, .inr ⟨HZ.out, by rw [Int.toNat_natCast, HF.out]; rfl⟩⟩
          · obtain rfl : i = k := by omega
            obtain ⟨cc, hcc⟩ : ∃ cc, cntN i f = cc := ⟨_, rfl⟩
            rw [hcc] at hcl ⊢
            have HRv := Lib.hid (show rspB i E P = ((P.length : Int) == (i : Int) - (cc : Int)) by
              unfold rspB
              rw [Hf.out, Hg.out, hcc, Bool.eq_iff_iff]
              simp only [decide_eq_true_eq, beq_iff_eq]
              exact ⟨fun h => h.2, fun h => ⟨HQ.out, h⟩⟩)
            have hw1 : IntKind.i64.wrap ((i : Int) - (cc : Int)) = (i : Int) - (cc : Int) := IntWalk.i64_in _ (by omega)
            clear hcc
            go_wp2_with fail
            go_ret2
            exact ⟨hb, .inr ⟨HZ.out, by rw [Int.toNat_natCast, HRv.out]; rfl⟩⟩
  · have hz : (ee != 0) = true := by simpa using hz0
    have HZ := Lib.hid hz0
    clear hz0
    go_wp2_with fail
    go_ret2
    exact ⟨HB1.out, .inl ⟨by rw [HE.out]; exact HZ.out, by rw [HE.out]; rfl⟩⟩
end Go.Proofs.Ytbmcflmflmlmaaa
