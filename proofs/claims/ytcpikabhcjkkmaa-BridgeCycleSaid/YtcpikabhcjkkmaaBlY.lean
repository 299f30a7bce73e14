/- The walk of the law BridgeCycle. Conditions: the pairs are in range. -/
import Derived.Test.YtcpikabhcjkkmaaBlP
import Derived.Test.YtcpikabhcjkkmaaBpC
namespace Go.Proofs.Ytcpikabhcjkkmaa
open Go.RowKit Go.Shelf

/-- what holds on the way round the cycle -/
structure CyI (n : Nat) (E : List Ed) (p : Nat) (f : Nat → Int) (l : List Nat) (u i x : Nat) (sf : Nat → Bool) : Prop where
  xn : x < n
  fx : f x = f u + 1 - (i : Int)
  f0 : 0 ≤ f x
  ch : l.drop i = chn E p f (f x).toNat x
  sn : ∀ j, j < n → sf j = true → f x < f j
section
variable {n : Nat} {E : List Ed} {p u v i x : Nat} {f : Nat → Int} {l : List Nat} {sf : Nat → Bool}
theorem CyI.start (hu : u < n) (h0 : 0 ≤ f u) (hl : l = cyc E p f u) : CyI n E p f l u 1 u fun _ => false := by
  refine ⟨hu, by omega, h0, ?_, fun _ _ h => by cases h⟩
  rw [hl, cyc, if_neg (by omega)]; rfl
theorem CyI.more (G : GOk n E) (hF : DistF E (NE E p) n v f) (h : CyI n E p f l u i x sf) (hi : i < l.length) :
    ∃ c, l.getD i 0 = c ∧ c < E.length ∧ c ≠ p ∧ inc E x c = true ∧ sf x = false ∧ CyI n E p f l u (i + 1) (oN E x c) (upd sf x true) := by
  have hc := h.ch
  rw [List.drop_eq_getElem_cons hi] at hc
  obtain ⟨k, hk⟩ : ∃ k, (f x).toNat = k + 1 := by
    cases hk : (f x).toNat with
    | zero => rw [hk, chn_zero] at hc; cases hc
    | succ k => exact ⟨k, rfl⟩
  have h0 := h.f0
  obtain ⟨c, hnx⟩ := nx_some G hF h.xn (by omega)
  obtain ⟨h1, h2, h3, h4⟩ := nx_mem hnx
  rw [hk, chn_step hnx] at hc
  injection hc with hc1 hc2
  have hy := oN_lnk G h1 h2
  refine ⟨c, ?_, h1, h3, h2, ?_, hy.2.2.1, ?_, by omega, ?_, fun j hj hs => ?_⟩
  · rw [List.getD_eq_getElem?_getD, List.getElem?_eq_getElem hi]; exact hc1
  · cases hs : sf x with
    | false => rfl
    | true => have := h.sn x h.xn hs; omega
  · have := h.fx; omega
  · rw [hc2, h4, show (f x - 1).toNat = k by omega]
  · by_cases e : j = x
    · rw [e, h4]; omega
    · rw [upd_ne _ _ e] at hs
      have := h.sn j hj hs
      omega
theorem CyI.end (G : GOk n E) (hF : DistF E (NE E p) n v f) (h : CyI n E p f l u l.length x sf) : x = v := by
  have hc := h.ch
  rw [List.drop_length] at hc
  have h0 := h.f0
  have := chn_len G hF (f x).toNat x h.xn (by omega)
  rw [← hc] at this
  simp at this
  exact zero_root hF h.xn (by omega)
theorem oN_u {a b : Nat} (he : edP E i = (a, b)) (hab : a ≠ b) (hx : x = a) : oN E x i = b := by
  unfold oN; rw [he]; simp only
  rw [if_neg (by omega)]
theorem oN_v {a b : Nat} (he : edP E i = (a, b)) (hx : x = b) : oN E x i = a := by
  unfold oN; rw [he]; simp only
  rw [if_pos (by omega)]
theorem inc_or {a b : Nat} (hu : (eAt E i).u = (a : Int)) (hv : (eAt E i).v = (b : Int)) (h : inc E x i = true) : x = a ∨ x = b := by
  unfold inc at h
  rw [hu, hv] at h
  simp only [decide_eq_true_eq] at h
  omega
end
set_option maxRecDepth 1000000 in
set_option maxHeartbeats 8000000 in
theorem cycles_walk (z y : Int) (a : Option Addr) (cap : Nat) (A : Nat → Addr) (L : List (Int × Int)) (w : World) (hS : PS w w.heap.size (.slice a L.length cap) L A) (hr : PrR L) (hz : 0 ≤ z ∧ z ≤ 255) (hy : 0 ≤ y ∧ y ≤ 255) (hl : L.length ≤ 9223372036854775807) :
    Calls Try.prog 9 #[.int .u8 z, .slice a L.length cap, .int .u8 y] w fun e w' => e = .returned (.bool true) ∧ Below w.heap.size w w' := by
  have HM := Lib.hid (made_any w.heap.size a cap A L z w hS (Nat.le_refl _) hr hz hl)
  have cy0 : IntKind.i64.wrap y = y := IntWalk.i64_in _ (by omega)
  clear hS hr
  go_enter Try.func9, Try.ntmps9
  go_wp2_with fail
  refine HM.out.mono ?_
  clear HM
  rintro e w1 ⟨b, n, E, ea, ec, EA, rfl, hG, hES, hO, hn0, hn1, hm, hb1⟩
  have HGk := Lib.hid hG.ok
  have HG := Lib.hid (show GV w1 w1.heap.size (.pointer (some ⟨b, 0, none⟩)) (some (n, E)) from ⟨b, rfl, hG⟩)
  have HES := Lib.hid (show Rd 22 3 w1 w1.heap.size (.slice ea E.length ec) E.length (edC E) EA from hES)
  have HO := Lib.hid hO
  have HB := Lib.hid hb1
  clear hG hES hb1 hO
  by_cases hE0 : E.length = 0
  · have hz0 : ((E.length : Int) == 0) = true := beq_iff_eq.2 (by omega)
    have HC := Lib.hid (cycle_any w1.heap.size (some ⟨b, 0, none⟩) n E (some (n, E)) (.inl rfl) y w1 HG.out (Nat.le_refl _))
    have HE0 := Lib.hid hE0
    clear hE0
    go_wp2_with fail
    refine HC.out.mono ?_
    clear HC
    rintro e w2 ⟨v2, l, rfl, hc, hv2, b2⟩
    obtain rfl : l = [] := hc.1 (fun h => by have := h.2; rw [HE0.out] at this; have := h.1; omega)
    obtain ⟨a2, c2, A2, rfl, _⟩ := hv2
    simp only [List.length_nil]
    replace HG := Lib.hid ((HG.out.below b2).mono b2.size)
    replace HB := Lib.hid (HB.out.trans (b2.mono HB.out.size))
    clear b2
    clear hc
    go_wp2_with fail
    refine (works_any _).mono ?_
    rintro e w3 ⟨rfl, b3⟩
    replace HB := Lib.hid (HB.out.trans (b3.mono HB.out.size))
    clear b3
    go_wp2_with fail
    go_ret
    exact ⟨rfl, HB.out⟩
  · have hz0 : ((E.length : Int) == 0) = false := beq_eq_false_iff_ne.2 (by omega)
    have hmp : 0 < E.length := by omega
    obtain ⟨p, hp, hpm⟩ : ∃ p : Nat, y % (E.length : Int) = (p : Int) ∧ p < E.length := ⟨(y % (E.length : Int)).toNat, by
      have := Int.emod_nonneg y (show (E.length : Int) ≠ 0 by omega); omega, by
      have := Int.emod_nonneg y (show (E.length : Int) ≠ 0 by omega)
      have := Int.emod_lt_of_pos y (show (0 : Int) < E.length by omega); omega⟩
    have htm : y.tmod (E.length : Int) = (p : Int) := by rw [Int.tmod_eq_emod_of_nonneg hy.1]; exact hp
    have hwp : IntKind.i64.wrap (p : Int) = (p : Int) := IntWalk.i64_in _ (by omega)
    obtain ⟨u, v, hu, hv, h1, h2, huv⟩ := HGk.out.nats hpm
    have hep : edP E p = (u, v) := by unfold edP; rw [hu, hv]; rfl
    have HEp := Lib.hid hep
    have hlk : Lnk E p u v := .inl hep
    have HLk := Lib.hid hlk
    have HC := Lib.hid (cycle_any w1.heap.size (some ⟨b, 0, none⟩) n E (some (n, E)) (.inl rfl) (p : Nat) w1 HG.out (Nat.le_refl _))
    have HUv := Lib.hid (And.intro hu hv)
    have hpn : (0 : Int) ≤ p ∧ (p : Int) < E.length := by omega
    clear hE0 hp hep hlk hu hv
    go_wp2_with fail
    refine HC.out.mono ?_
    clear HC
    rintro e w2 ⟨v2, l, rfl, hc, hv2, b2⟩
    have HO2 := Lib.hid (HO.out.below b2)
    replace HG := Lib.hid ((HG.out.below b2).mono b2.size)
    replace HES := Lib.hid ((HES.out.below b2).mono b2.size)
    replace HB := Lib.hid (HB.out.trans (b2.mono HB.out.size))
    clear b2
    have HCy := Lib.hid hv2
    have HCl := Lib.hid hc
    have HW := Lib.hid (without_any w.heap.size ea ec n p E w2 HO2.out HGk.out hpm)
    obtain ⟨a2, c2, A2, hv2e, -⟩ := hv2
    subst hv2e
    clear hc HO
    go_wp2_with fail
    refine HW.out.mono ?_
    clear HW
    rintro e w3 ⟨b3, rfl, hG3, bb3⟩
    replace HG := Lib.hid ((HG.out.below bb3).mono bb3.size)
    replace HES := Lib.hid ((HES.out.below bb3).mono bb3.size)
    replace HCy := Lib.hid ((HCy.out.below bb3).mono bb3.size)
    replace HB := Lib.hid (HB.out.trans (bb3.mono HB.out.size))
    clear bb3
    have hE3 := HES.out
    have ix := hE3.ix p hpm
    have e0 := ES.u hE3 hpm
    have e1 := ES.v hE3 hpm
    rw [HUv.out.1] at e0; rw [HUv.out.2] at e1
    have HD := Lib.hid (dist_any w3.heap.size (some ⟨b3, 0, none⟩) n (cutE E p) v w3 ⟨b3, rfl, hG3⟩ (Nat.le_refl _) h2)
    clear hG3 HO2 hE3
    go_wp2_with fail
    refine HD.out.mono ?_
    clear HD
    rintro e w4 ⟨f, rfl, hF, hDR, b4⟩
    have hdb4 := hDR.lt
    have HDR := Lib.hid (show Row w4 w3.heap.size n (fun x => .int .i64 (f x)) from hDR)
    have HF := Lib.hid (dist_cut hpm hF)
    have hl0 : l = cyc E p f u := by
      obtain ⟨d, hd1, hd2⟩ := HCl.out.2 p rfl hpm
      rw [HEp.out] at hd1 hd2
      rw [hd2]
      exact cyc_congr HGk.out (fun x hx => hd1.uniq HF.out hx) h1
    have HL := Lib.hid hl0
    replace HG := Lib.hid ((HG.out.below b4).mono b4.size)
    replace HES := Lib.hid ((HES.out.below b4).mono b4.size)
    replace HCy := Lib.hid ((HCy.out.below b4).mono b4.size)
    replace HB := Lib.hid (HB.out.trans (b4.mono HB.out.size))
    clear b4
    have e0' : w4.cell? (EA p) = some (.int .i64 (u : Nat)) := by
      have := ES.u HES.out hpm; rw [HUv.out.1] at this; exact this
    have e1' : w4.cell? ⟨(EA p).block, (EA p).off + 1, none⟩ = some (.int .i64 (v : Nat)) := by
      have := ES.v HES.out hpm; rw [HUv.out.2] at this; exact this
    have cu : w4.cell? ⟨w3.heap.size, u, none⟩ = some (.int .i64 (f u)) := HDR.out.cell h1
    have hun : (0 : Int) ≤ u ∧ (u : Int) < n := by omega
    have hnn : ((n : Int) != (n : Int)) = false := by simp
    clear hF hDR hl0 e0 e1 HCl
    have hfu := HF.out.iff h1
    rcases Int.lt_or_le (f u) 0 with hneg | hpos
    · have hd1 : decide (f u < 0) = true := decide_eq_true hneg
      have hln : ((l.length : Int) == 0) = true := by rw [HL.out, cyc, if_pos hneg]; rfl
      have hbri := (cyc_none hpm HLk.out HF.out h1).1 hneg
      have HBm := Lib.hid hbri
      have HC := Lib.hid (bridges_out w4.heap.size (some ⟨b, 0, none⟩) n E (some (n, E)) (.inl rfl) w4 HG.out (Nat.le_refl _))
      clear hneg hbri hfu
      go_wp2_with fail
      refine HC.out.mono ?_
      clear HC
      rintro e w5 ⟨v5, rfl, hv5, b5⟩
      have HH := hasI_any w5.heap.size v5 (briL E) p w5 hv5 (by have := briL_len E; omega)
      rw [decide_eq_true HBm.out] at HH
      have HH := Lib.hid HH
      replace HG := Lib.hid ((HG.out.below b5).mono b5.size)
      replace HB := Lib.hid (HB.out.trans (b5.mono HB.out.size))
      clear b5
      clear hv5
      go_wp2_with fail
      refine HH.out.mono ?_
      rintro e wz ⟨rfl, rfl⟩
      clear HH
      go_wp2_with fail
      refine (works_any _).mono ?_
      rintro e w6 ⟨rfl, b6⟩
      replace HB := Lib.hid (HB.out.trans (b6.mono HB.out.size))
      clear b6
      go_wp2_with fail
      go_ret
      exact ⟨rfl, HB.out⟩
    · have hd1 : decide (f u < 0) = false := decide_eq_false (by omega)
      have hd2 : ¬ f u < 0 := by omega
      have hlt := dist_lt HGk.out HF.out h1 hpos
      have hlen : l.length = (f u).toNat + 1 := by rw [HL.out]; exact cyc_len HGk.out HF.out h1 hpos
      have hne : ((l.length : Int) != f u + 1) = false := by simp; omega
      have hwf : IntKind.i64.wrap (f u + 1) = f u + 1 := IntWalk.i64_in _ (by omega)
      have hl60 : l.length ≤ 60 := by omega
      have hl1 : 0 < l.length := by omega
      obtain ⟨ac, ixc, cc, hac⟩ := RdI.getB HCy.out hl1
      have hhd : l.getD 0 0 = p := by rw [HL.out, cyc, if_neg hd2]; rfl
      rw [hhd] at cc
      replace ixc : ∀ w', (Instr.indexAt 29 (.slice a2 l.length c2) (.int .i64 0)).run Try.prog w' = .ok (.pointer (some ac)) w' := fun w' => ixc w'
      have hpp : ((p : Int) != (p : Int)) = false := by simp
      have hmk : ∀ w, (Instr.makeSlice 56 (.int .i64 (n : Nat)) (.int .i64 (n : Nat))).run Try.prog w = .ok (.slice (some ⟨w.heap.size, 0, none⟩) n n) (w.alloc (.cells (madeCells #[.bool false] n) 4)) := fun w =>
        run_make_row' (P := Try.prog) 56 4 (.bool false) 1 Try.underlying56 Try.infoBl rfl .i64 .i64 n (by omega) (by omega) w
      have hrow := Row.made w4 (.bool false) n 4
      have HR0 := Lib.hid (show Row (w4.alloc (.cells (madeCells #[.bool false] n) 4)) w4.heap.size n (fun j => .bool ((fun _ => false) j)) from hrow)
      have HA0 := Lib.hid (show Below w4.heap.size w4 (w4.alloc (.cells (madeCells #[.bool false] n) 4)) from (Below.refl _ w4).alloc (Nat.le_refl _) _)
      have HSt := Lib.hid (CyI.start (l := l) h1 hpos HL.out)
      clear hrow hfu hpos hlen hhd hlt
      go_wp2_with fail
      clear hmk
      go_loopw [14, 16] (fun xv iv wr => ∃ (i x : Nat) (sf : Nat → Bool), i ≤ l.length ∧ xv = .int .i64 (x : Nat) ∧ iv = .int .i64 (i : Nat) ∧ Hid (CyI n E p f l u i x sf) ∧ Hid (Row wr w4.heap.size n (fun j => .bool (sf j))) ∧ Hid (Below w4.heap.size w4 wr)) (fun _ iv _ => l.length - (intOf iv).toNat)
      case atStart => exact ⟨1, u, fun _ => false, by omega, rfl, rfl, HSt, HR0, HA0⟩
      case round =>
        clear HR0 HA0 HSt
        obtain ⟨i, x, sf, hi, rfl, rfl, HI, HR, HW⟩ := hrel
        by_cases hlt : i < l.length
        · obtain ⟨c, hc, hcE, hcp, hcx, hsx, hnx⟩ := HI.out.more HGk.out HF.out hlt
          have HNx := Lib.hid hnx
          have hxn := HI.out.xn
          obtain ⟨ai, ixi, ci0, hai⟩ := RdI.getB HCy.out hlt
          rw [hc] at ci0
          have ci := (HW.out.cell hai).trans ci0
          obtain ⟨cu', cv', hcu, hcv, k1, k2, k3⟩ := HGk.out.nats hcE
          have hce : edP E c = (cu', cv') := by unfold edP; rw [hcu, hcv]; rfl
          have hor := inc_or hcu hcv hcx
          obtain ⟨cw, hcw⟩ : ∃ y, (eAt E c).w = y := ⟨_, rfl⟩
          have hEr := HES.out.below HW.out
          have ixe := hEr.ix c hcE
          have csx : wr.cell? ⟨w4.heap.size, x, none⟩ = some (.bool (sf x)) := HR.out.cell hxn
          rw [hsx] at csx
          have fsx := HR.out.frozen x
          have HRn := Lib.hid ((HR.out.set x (.bool true)).congr (f' := fun j => .bool (upd sf x true j)) fun j _ => by unfold upd; split <;> rfl)
          have HWn := Lib.hid (HW.out.setCell (p := ⟨w4.heap.size, x, none⟩) (Nat.le_refl _) (.bool true))
          have ci2 := (HWn.out.cell hai).trans ci0
          have hEn := HES.out.below HWn.out
          have g0 := ES.u hEn hcE
          have g1 := ES.v hEn hcE
          have g2 := ES.w hEn hcE
          rw [hcu] at g0; rw [hcv] at g1; rw [hcw] at g2
          have hin : (0 : Int) ≤ i ∧ (i : Int) < l.length := by omega
          have hcn : (0 : Int) ≤ c ∧ (c : Int) < E.length := by omega
          have hxnn : (0 : Int) ≤ x ∧ (x : Int) < n := by omega
          have hx0 : decide ((c : Int) < 0) = false := decide_eq_false (by omega)
          have hx1 : decide (E.length ≤ c) = false := decide_eq_false (by omega)
          have hcpe : ((c : Int) == (p : Int)) = false := by simp; omega
          have HCE := Lib.hid hce
          have hwi : IntKind.i64.wrap ((i : Int) + 1) = (i : Int) + 1 := IntWalk.i64_in _ (by omega)
          have HWa := Lib.hid (HWn.out.alloc (HWn.out.size) (.cells #[.int .i64 (cu' : Nat), .int .i64 (cv' : Nat), .int .i64 cw] 48))
          have HRa := Lib.hid (HRn.out.alloc (.cells #[.int .i64 (cu' : Nat), .int .i64 (cv' : Nat), .int .i64 cw] 48))
          clear hcu hcv hcw hEr hEn hc ci0 hai hcx hsx hnx hcE HI HR hce
          by_cases hxu : x = cu'
          · have q1 : ((x : Int) == (cu' : Int)) = true := by simp [hxu]
            have HoN : Hid (oN E x c = cv') := Lib.hid (oN_u HCE.out k3 hxu)
            clear hor hxu
            go_wp2_with fail
            go_roundw
            case rel => exact ⟨i + 1, cv', _, by omega, rfl, by go_num, by have := HNx.out; rw [HoN.out] at this; exact Lib.hid this, HRa, HWa⟩
            case measure => simp only [intOf]; omega
          · have hxv : x = cv' := hor.resolve_left hxu
            have q1 : ((x : Int) == (cu' : Int)) = false := by simp; omega
            have q2 : ((x : Int) == (cv' : Int)) = true := by simp [hxv]
            have HoN : Hid (oN E x c = cu') := Lib.hid (oN_v HCE.out hxv)
            clear hor hxu hxv
            go_wp2_with fail
            go_roundw
            case rel => exact ⟨i + 1, cu', _, by omega, rfl, by go_num, by have := HNx.out; rw [HoN.out] at this; exact Lib.hid this, HRa, HWa⟩
            case measure => simp only [intOf]; omega
        · obtain rfl : i = l.length := by omega
          have hxv := HI.out.end HGk.out HF.out
          obtain ⟨w5, rfl⟩ : ∃ w5 : World, w5 = wr := ⟨_, rfl⟩
          have HC := Lib.hid (blocks_out w4.heap.size (some ⟨b, 0, none⟩) n E (some (n, E)) (.inl rfl) w5 (HG.out.below HW.out) HW.out.size)
          have hxe : ((x : Int) == (v : Int)) = true := by simp [hxv]
          have HNear : Hid (∀ B, B ∈ bkL E → p ∈ B → ∀ c, c ∈ l → c ∈ B) := Lib.hid fun B hB hp c hc => by
            rw [HL.out] at hc
            rw [blk_class HGk.out hB hp, bkK_iff HGk.out]
            exact cyc_near HGk.out hpm HLk.out HF.out hc
          have hbl := bkL_len E
          clear cc hac ixc HR HI hxv
          go_wp2_with fail
          refine HC.out.mono ?_
          clear HC
          rintro e w6 ⟨v6, rfl, hM6, b6⟩
          have HM6 := Lib.hid hM6
          have HW6 := Lib.hid (HW.out.trans (b6.mono HW.out.size))
          obtain ⟨a6, c6, hv6⟩ := hM6.view
          subst hv6
          have hE6 := HES.out.below HW6.out
          have ix6 := hE6.ix p hpm
          have f1 := ES.v hE6 hpm
          rw [HUv.out.2] at f1
          clear hM6 b6 HW hE6 e0' e1' cu
          go_wp2_with fail
          go_loopw [19] (fun iv wr => ∃ k : Nat, k ≤ (bkL E).length ∧ iv = .int .i64 (k : Nat) ∧ Hid (∃ q, wr = w6.drewN q)) (fun iv _ => (bkL E).length - (intOf iv).toNat)
          case atStart => exact ⟨0, Nat.zero_le _, rfl, Lib.hid ⟨0, rfl⟩⟩
          case round =>
            obtain ⟨k, hk, rfl, HQ⟩ := hrel
            by_cases hlt : k < (bkL E).length
            · obtain ⟨ak, rk, ck, ixk, cck, rdk, -, -⟩ := HM6.out.get hlt
              have hB := getD_mem hlt
              have HNr := Lib.hid (fun hp => HNear.out _ hB hp)
              have HRd := Lib.hid rdk
              have hCl := blk_len HGk.out hB
              obtain ⟨C, hC⟩ : ∃ C, (bkL E).getD k [] = C := ⟨_, rfl⟩
              rw [hC] at cck HNr HRd hCl
              obtain ⟨m, hmC⟩ : ∃ m, C.length = m := ⟨_, rfl⟩
              rw [hmC] at cck HRd hCl
              have HCl := Lib.hid hmC
              obtain ⟨q, hq⟩ := HQ.out
              subst hq
              have HH := hasI_any w6.heap.size (.slice rk m ck) C p (w6.drewN q) (HRd.out.below (below_drewN (Below.refl _ _) q)) (by omega)
              obtain ⟨c, hc⟩ : ∃ c, decide (p ∈ C) = c := ⟨_, rfl⟩
              rw [hc] at HH
              have HH := Lib.hid HH
              have hkn : (0 : Int) ≤ k ∧ (k : Int) < (bkL E).length := by omega
              have hwk : IntKind.i64.wrap ((k : Int) + 1) = (k : Int) + 1 := IntWalk.i64_in _ (by omega)
              clear rdk hB hC hmC
              cases c with
              | false =>
                clear hc HNr
                go_wp2_with fail
                refine HH.out.mono ?_
                rintro e wz ⟨rfl, rfl⟩
                clear HH
                go_wp2_with fail
                go_roundw
                case rel => exact ⟨k + 1, by omega, by go_num, Lib.hid ⟨q, rfl⟩⟩
                case measure => simp only [intOf]; omega
              | true =>
                have HAll := Lib.hid (HNr.out (of_decide_eq_true hc))
                clear hc HNr
                go_wp2_with fail
                refine HH.out.mono ?_
                rintro e wz ⟨rfl, rfl⟩
                clear HH
                go_wp2_with fail
                go_loopw [20] (fun iv wr => ∃ i : Nat, i ≤ l.length ∧ iv = .int .i64 (i : Nat) ∧ Hid (∃ q, wr = w6.drewN q)) (fun iv _ => l.length - (intOf iv).toNat)
                case atStart => exact ⟨0, Nat.zero_le _, rfl, Lib.hid ⟨q, rfl⟩⟩
                case round =>
                  obtain ⟨i, hi, rfl, HQi⟩ := hrel
                  by_cases hli : i < l.length
                  · obtain ⟨ai, ixi, ci0, hai⟩ := RdI.getB HCy.out hli
                    have ci := (HW6.out.cell hai).trans ci0
                    have hmem := HAll.out _ (getD_mem' hli)
                    obtain ⟨x', hx'⟩ : ∃ x', l.getD i 0 = x' := ⟨_, rfl⟩
                    rw [hx'] at ci hmem
                    obtain ⟨qi, hqi⟩ := HQi.out
                    subst hqi
                    have HHq := fun m' => hasI_q w6.heap.size (.slice rk m ck) C x' (w6.drewN qi) (HRd.out.below (below_drewN (Below.refl _ _) qi)) (by rw [HCl.out]; omega) m'
                    rw [decide_eq_true hmem] at HHq
                    have HHq := Lib.hid HHq
                    have hwi : IntKind.i64.wrap ((i : Int) + 1) = (i : Int) + 1 := IntWalk.i64_in _ (by omega)
                    have hin : (0 : Int) ≤ i ∧ (i : Int) < l.length := by omega
                    have hqq : ∀ m', ∃ m'', (w6.drewN qi).drewN m' = w6.drewN m'' := fun m' => ⟨_, World.drewN_drewN _ _ _⟩
                    have HQQ := Lib.hid hqq
                    have dk : (w6.drewN qi).cell? ak = some (.slice rk m ck) := cck
                    have di : (w6.drewN qi).cell? ai = some (.int .i64 (x' : Nat)) := ci
                    clear ci0 hai hx' hmem hqq ci HQi
                    generalize w6.drewN qi = wq at *
                    go_wp2_with fail
                    go_quiet ((go_at_call 27; exact HHq.out _))
                    go_wp2_with fail
                    go_roundw
                    case rel => exact ⟨i + 1, by omega, by go_num, Lib.hid (HQQ.out _)⟩
                    case measure => simp only [intOf]; omega
                  · obtain rfl : i = l.length := by omega
                    go_wp2_with fail
                    go_roundw
                    case rel => exact ⟨k + 1, by omega, by go_num, HQi⟩
                    case measure => simp only [intOf]; omega
            · obtain rfl : k = (bkL E).length := by omega
              obtain ⟨q, hq⟩ := HQ.out
              subst hq
              go_wp2_with fail
              refine (works_any _).mono ?_
              rintro e w7 ⟨rfl, b7⟩
              have b67 := below_drewN HW6.out q
              replace HB := Lib.hid (HB.out.trans ((b67.trans (b7.mono b67.size)).mono HB.out.size))
              go_wp2_with fail
              go_ret
              exact ⟨rfl, HB.out⟩
end Go.Proofs.Ytcpikabhcjkkmaa
