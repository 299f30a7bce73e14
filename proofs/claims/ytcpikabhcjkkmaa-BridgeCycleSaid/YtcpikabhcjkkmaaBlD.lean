/- The walk of the law BridgeDoubles. Conditions: the pairs are in range. -/
import Derived.Test.YtcpikabhcjkkmaaBlC
import Derived.Test.YtcpikabhcjkkmaaBpD
namespace Go.Proofs.Ytcpikabhcjkkmaa
open Go.RowKit Go.Shelf

theorem dblB_len (m : Nat) (B : List Nat) : (dblB m B).length = 2 * B.length := by simp [dblB]; omega
theorem dblB_take (m : Nat) (B : List Nat) : (dblB m B).take B.length = B := by simp [dblB]
theorem bkL_len (E : List Ed) : (bkL E).length ≤ E.length := by
  have := List.length_filter_le (fun a => decide (bkK E a = a)) (List.range E.length)
  simpa [bkL] using this
theorem nodup_of_lt {l : List Nat} (h : l.Pairwise (· < ·)) : l.Nodup := h.imp fun h => by omega
theorem blk_len {n : Nat} {E : List Ed} (G : GOk n E) {B : List Nat} (hB : B ∈ bkL E) : B.length ≤ E.length :=
  nodup_lt (nodup_of_lt ((bkL_ok G).cls B hB).1) fun _ hi => blk_lt G hB hi
/-- the first indexes of a list -/
theorem run_uptoA {t e : TypeId} {size bytes : Nat} (E : ET t e size bytes) {ad : Addr} {n cap hi : Nat} (h : hi ≤ cap) (w' : World) : (Instr.slice t (.slice (some ad) n cap) none (some (.int .i64 (hi : Nat))) none).run Try.prog w' = .ok (.slice (some ad) hi cap) w' := by
  simp [Instr.slice, run_underlying E.ht, Instr.sliceBounds, Instr.sliceBound, asIntOf, E.size, go_sem]
  intro hh; omega
theorem RdI.upto {w : World} {B : Nat} {a : Option Addr} {c : Nat} {l : List Nat} (h : RdI w B (.slice a l.length c) l) (hl : 0 < l.length) (hc : l.length ≤ c) {m : Nat} (hm : m ≤ l.length) :
    (∀ w', (Instr.slice 29 (.slice a l.length c) none (some (.int .i64 (m : Nat))) none).run Try.prog w' = .ok (.slice a m c) w') ∧ RdI w B (.slice a m c) (l.take m) := by
  obtain ⟨a', c', A, e, hr⟩ := h
  cases e
  obtain ⟨ad, rfl, h1, h2, h3⟩ := hr.view etI hl
  have hm2 : (l.take m).length = m := by rw [List.length_take]; omega
  refine ⟨fun w' => run_uptoA etI (by omega) w', some ad, c, fun i => ad.add (i * 1), by rw [hm2], ?_⟩
  rw [hm2]
  refine Rd.addr etI (fun _ => h1) fun i hi j hj => ?_
  rw [h3 i (by omega) j hj]
  unfold nums
  rw [intsN_nth, intsN_nth]
  have : (l.take m).getD i 0 = l.getD i 0 := by
    rw [List.getD_eq_getElem?_getD, List.getD_eq_getElem?_getD, List.getElem?_take, if_pos hi]
  rw [this]
/-- a row of lists in memory, at one place -/
theorem BMem.get {w : World} {B : Nat} {v : Value} {X : List (List Nat)} (h : BMem w B v X) {i : Nat} (hi : i < X.length) :
    ∃ (ad : Addr) (a : Option Addr) (c : Nat), (∀ w', (Instr.indexAt 33 v (.int .i64 (i : Nat))).run Try.prog w' = .ok (.pointer (some ad)) w') ∧ w.cell? ad = some (.slice a (X.getD i []).length c) ∧ RdI w B (.slice a (X.getD i []).length c) (X.getD i []) ∧ (X.getD i []).length ≤ c ∧ ad.block < B := by
  obtain ⟨a, cap, A, RV, rfl, h1, h2⟩ := h
  obtain ⟨h3, a', c', h4, h5⟩ := h2 i hi
  have c0 := h1.cell i hi 0 (by omega)
  rw [add_zero, h4] at c0
  rw [h4] at h3
  exact ⟨A i, a', c', h1.ix i hi, c0, h3, h5, h1.lt i hi⟩
theorem BMem.view {w : World} {B : Nat} {v : Value} {X : List (List Nat)} (h : BMem w B v X) : ∃ a c, v = .slice a X.length c := by
  obtain ⟨a, cap, A, RV, rfl, _⟩ := h
  exact ⟨a, cap, rfl⟩
set_option maxRecDepth 1000000 in
set_option maxHeartbeats 8000000 in
theorem doubles_walk (z : Int) (a : Option Addr) (cap : Nat) (A : Nat → Addr) (L : List (Int × Int)) (w : World) (hS : PS w w.heap.size (.slice a L.length cap) L A) (hr : PrR L) (hz : 0 ≤ z ∧ z ≤ 255) (hl : L.length ≤ 9223372036854775807) :
    Calls Try.prog 10 #[.int .u8 z, .slice a L.length cap] w fun e w' => e = .returned (.bool true) ∧ Below w.heap.size w w' := by
  have HM := Lib.hid (made_any w.heap.size a cap A L z w hS (Nat.le_refl _) hr hz hl)
  clear hS hr
  go_enter Try.func10, Try.ntmps10
  go_wp2_with fail
  refine HM.out.mono ?_
  clear HM
  rintro e w1 ⟨b, n, E, ea, ec, EA, rfl, hG, hES, hO, hn0, hn1, hm, hb1⟩
  have HGk := Lib.hid hG.ok
  have HG := Lib.hid (show GV w1 w1.heap.size (.pointer (some ⟨b, 0, none⟩)) (some (n, E)) from ⟨b, rfl, hG⟩)
  have HGa := Lib.hid hG
  have HES := Lib.hid hES
  have HB := Lib.hid hb1
  clear hG hES hb1 hO
  go_wp2_with (at_builtin; refine Hid.out ?_)
  refine Lib.hid ?_
  have ba : Below w1.heap.size w1 (w1.alloc (.cells #[] 48)) := (Below.refl _ w1).alloc (Nat.le_refl _) _
  refine moreE rfl _ _ rfl w1.heap.size _ [] (OwnE.lit0 w1 w1.heap.size (Nat.le_refl _)) rfl E ea ec w1.heap.size EA (HES.out.below ba) rfl (by simp) (by simp only [List.length_nil]; omega) ?_
  intro v2 w2 hv2 hg2 hl2
  rw [List.nil_append] at hv2
  have b2 := ba.grown hg2 (by simp) (fun b hb => hl2 b hb)
  have HV2 := Lib.hid hv2
  have BB2 := Lib.hid b2
  have hs2 := b2.size
  clear hv2 hg2 hl2 ba b2
  go_wp2_with (at_builtin; refine Hid.out ?_)
  refine Lib.hid ?_
  refine moreE rfl _ _ rfl w1.heap.size _ E HV2.out rfl E ea ec w1.heap.size EA (HES.out.below BB2.out) rfl hs2 (by omega) ?_
  intro v3 w3 hv3 hg3 hl3
  have HDb := Lib.hid (show bkL (E ++ E) = (bkL E).map (dblB E.length) from dbl_blk HGk.out (by omega))
  have HDr := Lib.hid (show briL (E ++ E) = [] from dbl_bri)
  have HDc := Lib.hid (show cutL n (E ++ E) = cutL n E from dbl_cut HGk.out (by omega))
  have HDl := Lib.hid (show labO (E ++ E) (nbL (E ++ E)) = labO E (List.range E.length) from dbl_lab)
  have GD := dbl_ok HGk.out (by omega)
  have hlen : (E ++ E).length = 2 * E.length := dbl_len E
  obtain ⟨D, hD⟩ : ∃ D, E ++ E = D := ⟨_, rfl⟩
  rw [hD] at HDb HDr HDc HDl GD hlen hv3
  clear hD
  have b3 := BB2.out.grown hg3 hs2 (fun b hb => hl3 b hb)
  obtain ⟨a3, c3, A3, rfl, hES3⟩ := hv3.rd
  have HGd := Lib.hid GD
  have HN := Lib.hid (gnew_any w3.heap.size a3 c3 A3 n D w3 hES3 (Nat.le_refl _) (by omega))
  replace HG := Lib.hid ((HG.out.below b3).mono b3.size)
  replace HGa := Lib.hid ((HGa.out.below b3).mono b3.size)
  replace HB := Lib.hid (HB.out.trans (b3.mono HB.out.size))
  clear b3
  clear hv3 hg3 hl3 hES3 GD HV2 BB2 hs2 HES hlen
  go_wp2_with fail
  refine HN.out.mono ?_
  clear HN
  rintro e w4 ⟨b4, ⟨h0, _⟩ | ⟨p4, k4, hk4, -, rfl, hGr⟩⟩
  · exact absurd (gErr_ok HGd.out) h0
  have hk4 : k4 = n := by omega
  rw [hk4] at hGr
  replace HG := Lib.hid ((HG.out.below b4).mono b4.size)
  replace HGa := Lib.hid ((HGa.out.below b4).mono b4.size)
  replace HB := Lib.hid (HB.out.trans (b4.mono HB.out.size))
  clear b4
  have HH := Lib.hid (show GV w4 w4.heap.size (.pointer (some ⟨p4, 0, none⟩)) (some (n, D)) from ⟨p4, rfl, hGr⟩)
  have HC := Lib.hid (blocks_out w4.heap.size (some ⟨b, 0, none⟩) n E (some (n, E)) (.inl rfl) w4 HG.out (Nat.le_refl _))
  clear hGr hk4
  go_wp2_with fail
  refine HC.out.mono ?_
  clear HC
  rintro e w5 ⟨v5, rfl, hM5, b5⟩
  replace HG := Lib.hid ((HG.out.below b5).mono b5.size)
  replace HGa := Lib.hid ((HGa.out.below b5).mono b5.size)
  replace HH := Lib.hid ((HH.out.below b5).mono b5.size)
  replace HB := Lib.hid (HB.out.trans (b5.mono HB.out.size))
  clear b5
  have HM5 := Lib.hid hM5
  obtain ⟨a5, c5, hv5⟩ := hM5.view
  have HC := Lib.hid (blocks_out w5.heap.size (some ⟨p4, 0, none⟩) n D (some (n, D)) (.inl rfl) w5 HH.out (Nat.le_refl _))
  clear hM5
  subst hv5
  go_wp2_with fail
  refine HC.out.mono ?_
  clear HC
  rintro e w6 ⟨v6, rfl, hM6, b6⟩
  rw [HDb.out] at hM6
  replace HG := Lib.hid ((HG.out.below b6).mono b6.size)
  replace HGa := Lib.hid ((HGa.out.below b6).mono b6.size)
  replace HH := Lib.hid ((HH.out.below b6).mono b6.size)
  replace HM5 := Lib.hid ((HM5.out.below b6).mono b6.size)
  replace HB := Lib.hid (HB.out.trans (b6.mono HB.out.size))
  clear b6
  have HM6 := Lib.hid hM6
  obtain ⟨a6, c6, hv6⟩ := hM6.view
  rw [List.length_map] at hv6
  have HC := Lib.hid (bridges_out w6.heap.size (some ⟨p4, 0, none⟩) n D (some (n, D)) (.inl rfl) w6 HH.out (Nat.le_refl _))
  have hxx : (((bkL E).length : Int) != ((bkL E).length : Int)) = false := by simp
  clear hM6
  subst hv6
  go_wp2_with fail
  refine HC.out.mono ?_
  clear HC
  rintro e w7 ⟨v7, rfl, hv7, b7⟩
  rw [HDr.out] at hv7
  obtain ⟨a7, c7, A7, rfl, _⟩ := hv7
  simp only [List.length_nil]
  replace HG := Lib.hid ((HG.out.below b7).mono b7.size)
  replace HGa := Lib.hid ((HGa.out.below b7).mono b7.size)
  replace HH := Lib.hid ((HH.out.below b7).mono b7.size)
  replace HM5 := Lib.hid ((HM5.out.below b7).mono b7.size)
  replace HM6 := Lib.hid ((HM6.out.below b7).mono b7.size)
  replace HB := Lib.hid (HB.out.trans (b7.mono HB.out.size))
  clear b7
  have HC := Lib.hid (cuts_out w7.heap.size (some ⟨b, 0, none⟩) n E (some (n, E)) (.inl rfl) w7 HG.out (Nat.le_refl _))
  go_wp2_with fail
  refine HC.out.mono ?_
  clear HC
  rintro e w8 ⟨v8, rfl, hv8, b8⟩
  replace HG := Lib.hid ((HG.out.below b8).mono b8.size)
  replace HGa := Lib.hid ((HGa.out.below b8).mono b8.size)
  replace HH := Lib.hid ((HH.out.below b8).mono b8.size)
  replace HM5 := Lib.hid ((HM5.out.below b8).mono b8.size)
  replace HM6 := Lib.hid ((HM6.out.below b8).mono b8.size)
  replace HB := Lib.hid (HB.out.trans (b8.mono HB.out.size))
  clear b8
  have HV8 := Lib.hid hv8
  have HC := Lib.hid (cuts_out w8.heap.size (some ⟨p4, 0, none⟩) n D (some (n, D)) (.inl rfl) w8 HH.out (Nat.le_refl _))
  clear hv8
  go_wp2_with fail
  refine HC.out.mono ?_
  clear HC
  rintro e w9 ⟨v9, rfl, hv9, b9⟩
  rw [HDc.out] at hv9
  replace HG := Lib.hid ((HG.out.below b9).mono b9.size)
  replace HGa := Lib.hid ((HGa.out.below b9).mono b9.size)
  replace HH := Lib.hid ((HH.out.below b9).mono b9.size)
  replace HM5 := Lib.hid ((HM5.out.below b9).mono b9.size)
  replace HM6 := Lib.hid ((HM6.out.below b9).mono b9.size)
  replace HV8 := Lib.hid ((HV8.out.below b9).mono b9.size)
  replace HB := Lib.hid (HB.out.trans (b9.mono HB.out.size))
  clear b9
  have HSm := sameI_any w9.heap.size v8 v9 _ _ w9 HV8.out hv9 (by have := cutL_len n E; omega)
  rw [decide_eq_true rfl] at HSm
  have HSm := Lib.hid HSm
  clear hv9
  go_wp2_with fail
  refine HSm.out.mono ?_
  clear HSm
  rintro e w10 ⟨rfl, m10, rfl⟩
  have b10 := below_drewN (Below.refl w9.heap.size w9) m10
  replace HG := Lib.hid ((HG.out.below b10).mono b10.size)
  replace HGa := Lib.hid ((HGa.out.below b10).mono b10.size)
  replace HH := Lib.hid ((HH.out.below b10).mono b10.size)
  replace HM5 := Lib.hid ((HM5.out.below b10).mono b10.size)
  replace HM6 := Lib.hid ((HM6.out.below b10).mono b10.size)
  replace HB := Lib.hid (HB.out.trans (b10.mono HB.out.size))
  clear b10
  have HC := Lib.hid (labels_out _ (some ⟨p4, 0, none⟩) n D (some (n, D)) (.inl rfl) _ HH.out (Nat.le_refl _))
  generalize w9.drewN m10 = w10 at *
  go_wp2_with fail
  refine HC.out.mono ?_
  clear HC
  rintro e w11 ⟨v11, rfl, hv11, b11⟩
  rw [HDl.out] at hv11
  replace HG := Lib.hid ((HG.out.below b11).mono b11.size)
  replace HGa := Lib.hid ((HGa.out.below b11).mono b11.size)
  replace HH := Lib.hid ((HH.out.below b11).mono b11.size)
  replace HM5 := Lib.hid ((HM5.out.below b11).mono b11.size)
  replace HM6 := Lib.hid ((HM6.out.below b11).mono b11.size)
  replace HB := Lib.hid (HB.out.trans (b11.mono HB.out.size))
  clear b11
  have HV11 := Lib.hid hv11
  have HC := Lib.hid (glabels_any w11.heap.size b n E w11 HGa.out (Nat.le_refl _))
  clear hv11
  go_wp2_with fail
  refine HC.out.mono ?_
  clear HC
  rintro e w12 ⟨gl, rfl, hrw, -, b12⟩
  replace HG := Lib.hid ((HG.out.below b12).mono b12.size)
  replace HH := Lib.hid ((HH.out.below b12).mono b12.size)
  replace HM5 := Lib.hid ((HM5.out.below b12).mono b12.size)
  replace HM6 := Lib.hid ((HM6.out.below b12).mono b12.size)
  replace HV11 := Lib.hid ((HV11.out.below b12).mono b12.size)
  replace HB := Lib.hid (HB.out.trans (b12.mono HB.out.size))
  clear b12
  have HRd := row_rdI (cap := n) hrw
  have HSm := sameI_any w12.heap.size _ _ _ _ w12 HV11.out HRd (by simp; omega)
  rw [decide_eq_true rfl] at HSm
  have HSm := Lib.hid HSm
  clear HRd hrw HV8 HV11
  go_wp2_with fail
  refine HSm.out.mono ?_
  clear HSm
  rintro e w13 ⟨rfl, m13, rfl⟩
  have b13 := below_drewN (Below.refl w12.heap.size w12) m13
  replace HM5 := Lib.hid ((HM5.out.below b13).mono b13.size)
  replace HM6 := Lib.hid ((HM6.out.below b13).mono b13.size)
  replace HB := Lib.hid (HB.out.trans (b13.mono HB.out.size))
  clear b13
  clear HG HH
  generalize w12.drewN m13 = w13 at *
  go_wp2_with fail
  go_loopw [12] (fun iv wr => ∃ k : Nat, k ≤ (bkL E).length ∧ iv = .int .i64 (k : Nat) ∧ Below w13.heap.size w13 wr) (fun iv _ => (bkL E).length - (intOf iv).toNat)
  case atStart => exact ⟨0, Nat.zero_le _, rfl, Below.refl _ _⟩
  case round =>
    obtain ⟨k, hk, rfl, bel⟩ := hrel
    have hbkl := bkL_len E
    by_cases hlt : k < (bkL E).length
    · obtain ⟨ak, rk, ck, ix5, c5', r5, hc5, -⟩ := (HM5.out.below bel).get hlt
      obtain ⟨aj, rj, cj, ix6, c6', r6, hc6, -⟩ := (HM6.out.below bel).get (i := k) (by rw [List.length_map]; exact hlt)
      have hBm := getD_mem hlt
      have hg : ((bkL E).map (dblB E.length)).getD k [] = dblB E.length ((bkL E).getD k []) := by
        rw [List.getD_eq_getElem?_getD, List.getD_eq_getElem?_getD, List.getElem?_map, List.getElem?_eq_getElem hlt]; rfl
      have hbn := blk_ne HGk.out hBm
      have hble := blk_len HGk.out hBm
      rw [hg] at c6' r6 hc6
      have hl2 := dblB_len E.length ((bkL E).getD k [])
      obtain ⟨hsl, hr6⟩ := RdI.upto r6 (m := ((bkL E).getD k []).length) (by omega) hc6 (by omega)
      rw [dblB_take] at hr6
      rw [hl2] at hsl c6'
      have HSm := fun q => (sameI_any w13.heap.size _ _ _ _ (wr.drewN q) (hr6.below (below_drewN (Below.refl _ _) q)) (r5.below (below_drewN (Below.refl _ _) q)) (by omega))
      rw [decide_eq_true rfl] at HSm
      have HSm := Lib.hid HSm
      obtain ⟨m, hm1⟩ : ∃ m, ((bkL E).getD k []).length = m := ⟨_, rfl⟩
      rw [hm1] at hsl c6' c5' HSm hble
      have hkn : (0 : Int) ≤ k ∧ (k : Int) < (bkL E).length := by omega
      have hw2 : IntKind.i64.wrap (2 * (m : Int)) = 2 * (m : Int) := IntWalk.i64_in _ (by omega)
      have hne : ((2 * (m : Int)) != (2 * (m : Int))) = false := by simp
      have hcast : ((2 * m : Nat) : Int) = 2 * (m : Int) := by omega
      clear r5 r6 hr6 hc5 hc6 hBm hg hbn hl2 hm1
      go_wp2_with fail
      go_quiet ((go_at_call 15; exact Calls.quiet_of (HSm.out _)))
      go_wp2_with fail
      go_roundw
      case rel => exact ⟨k + 1, by omega, by go_num, below_drewN bel _⟩
      case measure => simp only [intOf]; omega
    · obtain rfl : k = (bkL E).length := by omega
      go_wp2_with fail
      refine (works_any _).mono ?_
      rintro e w14 ⟨rfl, b14⟩
      replace HB := Lib.hid (HB.out.trans ((bel.trans (b14.mono bel.size)).mono HB.out.size))
      go_wp2_with fail
      go_ret
      exact ⟨rfl, HB.out⟩
end Go.Proofs.Ytcpikabhcjkkmaa
