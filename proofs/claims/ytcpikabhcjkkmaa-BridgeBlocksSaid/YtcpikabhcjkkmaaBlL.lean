/- The walk of the law BridgeLabels. Conditions: the pairs are in range. -/
import Derived.Test.YtcpikabhcjkkmaaBrWk
import Derived.Test.YtcpikabhcjkkmaaPrW
import Derived.Test.YtcpikabhcjkkmaaBpA
namespace Go.Proofs.Ytcpikabhcjkkmaa
open Go.RowKit Go.Shelf

theorem hasI_q (B : Nat) (v : Value) (l : List Nat) (x : Nat) (w : World) (h : RdI w B v l) (hl : l.length ≤ 1000000) (q : Nat) :
    Calls Try.prog 27 #[v, .int .i64 (x : Nat)] (w.drewN q) fun e w'' => e = .returned (.bool (decide (x ∈ l))) ∧ ∃ m, w'' = w.drewN m :=
  (hasI_any B v l x (w.drewN q) (h.below (below_drewN (Below.refl _ _) q)) hl).mono fun _ _ ⟨he, hw⟩ => ⟨he, q, hw.symm⟩
theorem briL_len (E : List Ed) : (briL E).length ≤ E.length := by
  have := List.length_filter_le (briB E) (List.range E.length)
  simpa [briL] using this
/-- the edges before a number that are no bridges -/
def nbTo (E : List Ed) (k : Nat) : List Nat := (List.range k).filter fun i => !briB E i
theorem nbTo_succ (E : List Ed) {k : Nat} (h : k < E.length) : nbTo E (k + 1) = if k ∈ briL E then nbTo E k else nbTo E k ++ [k] := by
  unfold nbTo
  rw [List.range_succ, List.filter_append]
  have : k ∈ briL E ↔ briB E k = true := by rw [mem_briL, bri_iff]; simp [h]
  by_cases c : briB E k = true
  · rw [if_pos (this.2 c)]; simp [c]
  · rw [if_neg (fun d => c (this.1 d))]; simp [c]
theorem nbTo_len (E : List Ed) (k : Nat) : (nbTo E k).length ≤ k := by
  have := List.length_filter_le (fun i => !briB E i) (List.range k)
  simpa [nbTo] using this
theorem RdI.at {w : World} {B : Nat} {v : Value} {n i : Nat} {f : Nat → Nat} (h : RdI w B v ((List.range n).map f)) (hi : i < n) :
    ∃ (ad : Addr), (∀ w', (Instr.indexAt 29 v (.int .i64 (i : Nat))).run Try.prog w' = .ok (.pointer (some ad)) w') ∧ w.cell? ad = some (.int .i64 (f i : Nat)) := by
  obtain ⟨a, c, A, rfl, h⟩ := h
  have hl : i < ((List.range n).map f).length := by simpa using hi
  have c0 := h.cell i hl 0 (by omega)
  rw [add_zero] at c0
  unfold nums at c0
  rw [intsN_nth] at c0
  refine ⟨A i, h.ix i hl, ?_⟩
  rw [c0]; simp [List.getD, hi]
set_option maxRecDepth 100000 in
set_option maxHeartbeats 4000000 in
theorem labels_walk (z : Int) (a : Option Addr) (cap : Nat) (A : Nat → Addr) (L : List (Int × Int)) (w : World) (hS : PS w w.heap.size (.slice a L.length cap) L A) (hr : PrR L) (hz : 0 ≤ z ∧ z ≤ 255) (hl : L.length ≤ 9223372036854775807) :
    Calls Try.prog 7 #[.int .u8 z, .slice a L.length cap] w fun e w' => e = .returned (.bool true) ∧ Below w.heap.size w w' := by
  have HM := Lib.hid (made_any w.heap.size a cap A L z w hS (Nat.le_refl _) hr hz hl)
  clear hS hr
  go_enter Try.func7, Try.ntmps7
  go_wp2_with fail
  refine HM.out.mono ?_
  clear HM
  rintro e w1 ⟨b, n, E, ea, ec, EA, rfl, hG, hES, -, hn0, hn1, hm, hb1⟩
  have HGk := Lib.hid hG.ok
  have HG := Lib.hid (show GV w1 w1.heap.size (.pointer (some ⟨b, 0, none⟩)) (some (n, E)) from ⟨b, rfl, hG⟩)
  have HES := Lib.hid hES
  have B1 := Lib.hid hb1
  have HC := Lib.hid (bridges_out w1.heap.size (some ⟨b, 0, none⟩) n E (some (n, E)) (.inl rfl) w1 HG.out (Nat.le_refl _))
  clear hG hES hb1
  go_wp2_with fail
  refine HC.out.mono ?_
  clear HC
  rintro e w2 ⟨bv, rfl, hbv, b2⟩
  have hs1 := b2.size
  have B2 := Lib.hid (B1.out.trans (b2.mono B1.out.size))
  have HES2 := Lib.hid ((HES.out.below b2).mono b2.size)
  have HG2 := Lib.hid (HG.out.below b2)
  have HBv := Lib.hid hbv
  clear b2 hbv B1 HES HG
  have HC := Lib.hid (labels_out w1.heap.size (some ⟨b, 0, none⟩) n E (some (n, E)) (.inl rfl) w2 HG2.out hs1)
  go_wp2_with fail
  refine HC.out.mono ?_
  clear HC
  rintro e w3 ⟨lv, rfl, hlv, b3⟩
  have B3 := Lib.hid (B2.out.trans (b3.mono B2.out.size))
  have HES3 := Lib.hid ((HES2.out.below b3).mono b3.size)
  have HBv3 := Lib.hid ((HBv.out.below b3).mono b3.size)
  have HLv := Lib.hid hlv
  obtain ⟨la, lc, LA, rfl, _⟩ := hlv
  have hln : ((List.range n).map (labO E (nbL E))).length = n := by simp
  rw [hln] at HLv ⊢
  have hnn : ((n : Int) != (n : Int)) = false := by simp
  clear b3 B2 HES2 HBv HG2 hs1 hln
  go_wp2_with fail
  go_loopw [10, 11] (fun rv iv wr => ∃ k : Nat, k ≤ E.length ∧ iv = .int .i64 (k : Nat) ∧ Hid (OwnE w3.heap.size rv (someE E (nbTo E k)) wr) ∧ Below w3.heap.size w3 wr) (fun _ iv _ => E.length - (intOf iv).toNat)
  case atStart => exact ⟨0, Nat.zero_le _, rfl, Lib.hid (OwnE.nil _ _), Below.refl _ _⟩
  case round =>
    obtain ⟨k, hk, rfl, HO, bel⟩ := hrel
    by_cases hlt : k < E.length
    · have hEr := HES3.out.below bel
      have ix := hEr.ix k hlt
      have e0 := ES.u hEr hlt
      have e1 := ES.v hEr hlt
      have e2 := ES.w hEr hlt
      obtain ⟨u, v, hu, hv, h1, h2, -⟩ := HGk.out.nats hlt
      obtain ⟨x, hx⟩ : ∃ x, (eAt E k).w = x := ⟨_, rfl⟩
      have HEq := Lib.hid (show eAt E k = ⟨u, v, x⟩ by rw [← hu, ← hv, ← hx])
      have hbl := bri_lab hlt
      have hep : edP E k = (u, v) := by unfold edP; rw [hu, hv]; rfl
      rw [hep] at hbl
      rw [hu] at e0; rw [hv] at e1; rw [hx] at e2
      obtain ⟨au, ixu, cu⟩ := RdI.at (HLv.out.below bel) h1
      obtain ⟨av, ixv, cv⟩ := RdI.at (HLv.out.below bel) h2
      obtain ⟨p, hp⟩ : ∃ p, labO E (nbL E) u = p := ⟨_, rfl⟩
      obtain ⟨q, hq⟩ : ∃ q, labO E (nbL E) v = q := ⟨_, rfl⟩
      rw [hp] at cu hbl; rw [hq] at cv hbl
      have HH := Lib.hid (hasI_q w3.heap.size bv (briL E) k wr (HBv3.out.below bel) (by have := briL_len E; omega))
      obtain ⟨c, hc⟩ : ∃ c, decide (k ∈ briL E) = c := ⟨_, rfl⟩
      have hne : ((p : Int) != (q : Int)) = c := by
        rw [← hc, Bool.eq_iff_iff, decide_eq_true_eq, hbl]
        simp
        omega
      rw [hc] at HH
      have HS := Lib.hid (nbTo_succ E hlt)
      have HCd := Lib.hid hc
      have hkn : (0 : Int) ≤ k ∧ (k : Int) < E.length := by omega
      have hunn : (0 : Int) ≤ u ∧ (u : Int) < n := by omega
      have hvnn : (0 : Int) ≤ v ∧ (v : Int) < n := by omega
      clear hEr hu hv hx hbl hep hp hq hc
      cases c with
      | true =>
        have hT : someE E (nbTo E (k + 1)) = someE E (nbTo E k) := by rw [HS.out, if_pos (of_decide_eq_true HCd.out)]
        have HT := Lib.hid hT
        clear hT
        go_wp2_with fail
        go_quiet ((go_at_call 27; exact HH.out _))
        go_wp2_with fail
        refine (HH.out nq).mono ?_
        rintro e wz ⟨rfl, m, rfl⟩
        go_wp2_with fail
        go_roundw
        case rel => exact ⟨k + 1, by omega, by go_num, by rw [HT.out]; exact Lib.hid (HO.out.below (below_drewN (Below.refl _ _) _)), below_drewN bel _⟩
        case measure => simp only [intOf]; omega
      | false =>
        have hT : someE E (nbTo E (k + 1)) = someE E (nbTo E k) ++ [⟨u, v, x⟩] := by rw [HS.out, if_neg (of_decide_eq_false HCd.out), someE_snoc, HEq.out]
        have HT := Lib.hid hT
        have hown : ∀ m, (wr.drewN m).ownsRow w3.heap.size 48 3 _ (someE E (nbTo E k)).length (flat (edC (someE E (nbTo E k))) (someE E (nbTo E k)).length 3) := fun m => HO.out.below (below_drewN (Below.refl _ _) m)
        have HOW := Lib.hid hown
        have hsz := bel.size
        have HSz := Lib.hid (show ∀ m, w3.heap.size ≤ (wr.drewN m).heap.size from fun m => hsz)
        have hln : (someE E (nbTo E k)).length ≤ 16384 := by rw [someE_len]; have := nbTo_len E k; omega
        clear hT hown HO
        go_wp2_with fail
        go_quiet ((go_at_call 27; exact HH.out _))
        go_wp2_with fail
        refine (HH.out nq).mono ?_
        rintro e wz ⟨rfl, m, rfl⟩
        clear HH
        generalize someE E (nbTo E k) = T at *
        go_wp2_with (at_builtin; refine push etE rfl _ _ rfl w3.heap.size _ _ _ (HOW.out _) rfl #[.int .i64 (u : Nat), .int .i64 (v : Nat), .int .i64 x] _ rfl rfl rfl (by simp [Value.oneCell']) (by omega) (by omega) (HSz.out _) ?_; intro g5 cp w5 hown5 hg5 hv5)
        have hb5 : Below w3.heap.size w3 w5 := (below_drewN bel _).grown hg5 hsz (fun j e => ((HOW.out 0).lt j e).1)
        go_roundw
        case rel => exact ⟨k + 1, by omega, by go_num, by rw [HT.out]; exact Lib.hid (OwnE.snoc (x := ⟨u, v, x⟩) hown5), hb5⟩
        case measure => simp only [intOf]; omega
    · obtain rfl : k = E.length := by omega
      have hnb : nbTo E E.length = nbL E := rfl
      rw [hnb] at HO
      obtain ⟨ra, rc, RA, rfl, hR⟩ := HO.out.rd
      have hpl : (nbL E).length ≤ 16384 := by have := nbTo_len E E.length; rw [hnb] at this; omega
      have Gp : GOk n (someE E (nbL E)) := gok_some HGk.out (fun i hi => (mem_nbL.1 hi).1) hpl
      have HNw := Lib.hid (gnew_any wr.heap.size ra rc RA n (someE E (nbL E)) wr hR (Nat.le_refl _) (by rw [someE_len]; omega))
      have HGp := Lib.hid Gp
      have HL2 := Lib.hid (fun w' (hb : Below wr.heap.size wr w') => (HLv.out.below bel).below (hb.mono bel.size))
      clear hR Gp HO
      go_wp2_with fail
      refine HNw.out.mono ?_
      clear HNw
      rintro e w6 ⟨hb6, ⟨h0, _⟩ | ⟨b6, k6, hk6, -, rfl, hGr⟩⟩
      · exact absurd (gErr_ok HGp.out) h0
      have hk6 : k6 = n := by omega
      rw [hk6] at hGr
      have B6 := Lib.hid (B3.out.trans ((bel.trans (hb6.mono bel.size)).mono B3.out.size))
      have HL6 := Lib.hid (HL2.out w6 hb6)
      have HGl := Lib.hid (glabels_any w6.heap.size b6 n (someE E (nbL E)) w6 hGr (Nat.le_refl _))
      have hs6 : w3.heap.size ≤ w6.heap.size := Nat.le_trans bel.size hb6.size
      clear hGr hb6 bel hk6 HL2
      go_wp2_with fail
      refine HGl.out.mono ?_
      clear HGl
      rintro e w7 ⟨gl, rfl, hrw, -, hb7⟩
      rw [someE_lab] at hrw
      have HRd := row_rdI (cap := n) hrw
      have HL7 := (HL6.out.below (hb7.mono hs6)).mono (Nat.le_trans hs6 hb7.size)
      have HSm := sameI_any w7.heap.size _ _ _ _ w7 HRd HL7 (by simp; omega)
      have hmp : ((List.range n).map (labO E (nbL E))).length = n := by simp
      rw [decide_eq_true rfl] at HSm
      have HSm := Lib.hid HSm
      have B7 := Lib.hid (B6.out.trans (hb7.mono B6.out.size))
      clear hrw hb7 HRd HL7 HL6
      go_wp2_with fail
      refine HSm.out.mono ?_
      rintro e w8 ⟨rfl, m8, rfl⟩
      clear HSm
      have B8 := Lib.hid (below_drewN B7.out m8)
      go_wp2_with fail
      refine (works_any _).mono ?_
      rintro e w9 ⟨rfl, hb9⟩
      have B9 := Lib.hid (B8.out.trans (hb9.mono B8.out.size))
      go_wp2_with fail
      go_ret
      exact ⟨rfl, B9.out⟩
end Go.Proofs.Ytcpikabhcjkkmaa
