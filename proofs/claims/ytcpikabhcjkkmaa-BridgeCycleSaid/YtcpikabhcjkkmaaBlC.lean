/- The walk of the law BridgeCuts. Conditions: the pairs are in range. -/
import Derived.Test.YtcpikabhcjkkmaaBlR
namespace Go.Proofs.Ytcpikabhcjkkmaa
open Go.RowKit Go.Shelf

theorem deg_is (B : Nat) (b n : Nat) (E : List Ed) (x : Nat) (w : World) (h : GraphAt w B b n E) (hx : x < n) :
    Calls Try.prog 33 #[.pointer (some ⟨b, 0, none⟩), .int .i64 (x : Nat)] w fun e w' => e = .returned (.int .i64 (deg E x : Nat)) ∧ ∃ q, w' = w.drewN q := by
  have HA := at_any B (.pointer (some ⟨b, 0, none⟩)) (some (n, E)) (x : Int) w ⟨b, rfl, h⟩
  have hg : (gAdj (some (n, E)) (x : Int)).length = deg E x := by
    rw [gAdj, if_pos (gHas_yes (o := some (n, E)) (v := (x : Int)) ⟨by omega, by show (x : Int) < (n : Nat); omega⟩), Int.toNat_natCast]; rfl
  rw [hg] at HA
  have HA := Lib.hid HA
  clear h hg
  go_enter Try.func33, Try.ntmps33
  go_wp2_with fail
  refine HA.out.mono ?_
  rintro e w' ⟨a, cap, A, rfl, -, hq⟩
  have HQ := Lib.hid hq
  clear hq HA
  go_wp2_with fail
  go_ret
  exact ⟨rfl, HQ.out⟩
theorem cutL_len (n : Nat) (E : List Ed) : (cutL n E).length ≤ n := by
  have := List.length_filter_le (cutB E) (List.range n)
  simpa [cutL] using this
theorem cutL_sorted (n : Nat) (E : List Ed) : (cutL n E).Pairwise (· < ·) := List.pairwise_lt_range.filter _
theorem cutL_lt {n : Nat} {E : List Ed} {x : Nat} (h : x ∈ cutL n E) : x < n := List.mem_range.1 (List.mem_filter.1 h).1
/-- the edges before a number that leave a vertex alone -/
def ocTo (E : List Ed) (x k : Nat) : List Nat := (List.range k).filter fun j => decide ((edP E j).1 ≠ x ∧ (edP E j).2 ≠ x)
theorem ocTo_succ (E : List Ed) (x k : Nat) : ocTo E x (k + 1) = if (edP E k).1 ≠ x ∧ (edP E k).2 ≠ x then ocTo E x k ++ [k] else ocTo E x k := by
  unfold ocTo
  rw [List.range_succ, List.filter_append]
  by_cases c : (edP E k).1 ≠ x ∧ (edP E k).2 ≠ x
  · rw [if_pos c]; simp [c]
  · rw [if_neg c]
    have : decide ((edP E k).1 ≠ x ∧ (edP E k).2 ≠ x) = false := decide_eq_false c
    rw [List.filter_cons, this]; simp
theorem ocTo_len (E : List Ed) (x k : Nat) : (ocTo E x k).length ≤ k := by
  have := List.length_filter_le (fun j => decide ((edP E j).1 ≠ x ∧ (edP E j).2 ≠ x)) (List.range k)
  simpa [ocTo] using this
set_option maxRecDepth 100000 in
set_option maxHeartbeats 8000000 in
theorem cuts_walk (z : Int) (a : Option Addr) (cap : Nat) (A : Nat → Addr) (L : List (Int × Int)) (w : World) (hS : PS w w.heap.size (.slice a L.length cap) L A) (hr : PrR L) (hz : 0 ≤ z ∧ z ≤ 255) (hl : L.length ≤ 9223372036854775807) :
    Calls Try.prog 12 #[.int .u8 z, .slice a L.length cap] w fun e w' => e = .returned (.bool true) ∧ Below w.heap.size w w' := by
  have HM := Lib.hid (made_any w.heap.size a cap A L z w hS (Nat.le_refl _) hr hz hl)
  have hrc := row_count
  clear hS hr
  go_enter Try.func12, Try.ntmps12
  go_wp2_with fail
  refine HM.out.mono ?_
  clear HM
  rintro e w1 ⟨b, n, E, ea, ec, EA, rfl, hG, hES, hO, hn0, hn1, hm, hb1⟩
  have HGk := Lib.hid hG.ok
  have HGr := Lib.hid hG
  have HES := Lib.hid hES
  have B1 := Lib.hid hb1
  have HC := Lib.hid (cuts_out w1.heap.size (some ⟨b, 0, none⟩) n E (some (n, E)) (.inl rfl) w1 ⟨b, rfl, hG⟩ (Nat.le_refl _))
  clear hG hES hb1 hO
  go_wp2_with fail
  refine HC.out.mono ?_
  clear HC
  rintro e w2 ⟨bv, rfl, hbv, b2⟩
  have hs1 := b2.size
  have B2 := Lib.hid (B1.out.trans (b2.mono B1.out.size))
  have HES2 := Lib.hid ((HES.out.below b2).mono hs1)
  have HGr2 := Lib.hid (HGr.out.below b2)
  have HBv := Lib.hid hbv
  have HC := Lib.hid (grow_any w1.heap.size b n E w2 HGr2.out hs1)
  obtain ⟨q, hq⟩ : ∃ q, cntN n (labO E (List.range E.length)) = q := ⟨_, rfl⟩
  have hqn : q ≤ n := by rw [← hq]; exact cntN_le n _
  have HQ := Lib.hid hq
  unfold RowRes at HC
  rw [hq] at HC
  clear b2 hbv B1 HES HGr hq
  go_wp2_with fail
  refine HC.out.mono ?_
  clear HC
  rintro e w3 ⟨rfl, b3⟩
  have hs3 := b3.size
  have B3 := Lib.hid (B2.out.trans (b3.mono B2.out.size))
  have HES3 := Lib.hid ((HES2.out.below b3).mono hs3)
  have HBv3 := Lib.hid ((HBv.out.below b3).mono hs3)
  have HGr3 := Lib.hid ((HGr2.out.mono hs1).below b3 |>.mono hs3)
  clear b3 B2 HES2 HGr2 HBv hs1 hs3
  go_wp2_with fail
  go_loopw [10] (fun iv wr => ∃ x : Nat, x ≤ n ∧ iv = .int .i64 (x : Nat) ∧ Below w3.heap.size w3 wr) (fun iv _ => n - (intOf iv).toNat)
  case atStart => exact ⟨0, Nat.zero_le _, rfl, Below.refl _ _⟩
  case round =>
    obtain ⟨x, hx, rfl, bel⟩ := hrel
    by_cases hlt : x < n
    · have hxn : (0 : Int) ≤ x ∧ (x : Int) < n := by omega
      obtain ⟨w0, rfl⟩ : ∃ w0 : World, w0 = wr := ⟨_, rfl⟩
      have hs0 := bel.size
      have HB0 := Lib.hid bel
      clear bel
      go_wp2_with fail
      go_loopw [11, 12] (fun rv iv wr => ∃ k : Nat, k ≤ E.length ∧ iv = .int .i64 (k : Nat) ∧ Hid (OwnE w0.heap.size rv (someE E (ocTo E x k)) wr) ∧ Below w0.heap.size w0 wr) (fun _ iv _ => E.length - (intOf iv).toNat)
      case atStart => exact ⟨0, Nat.zero_le _, rfl, Lib.hid (OwnE.nil _ _), Below.refl _ _⟩
      case round =>
        obtain ⟨k, hk, rfl, HO, bel⟩ := hrel
        by_cases hlk : k < E.length
        · have hEr := HES3.out.below (HB0.out.trans (bel.mono hs0))
          have ix := hEr.ix k hlk
          have e0 := ES.u hEr hlk
          have e1 := ES.v hEr hlk
          have e2 := ES.w hEr hlk
          obtain ⟨u, v, hu, hv, h1, h2, -⟩ := HGk.out.nats hlk
          obtain ⟨y, hy⟩ : ∃ y, (eAt E k).w = y := ⟨_, rfl⟩
          have HEq := Lib.hid (show eAt E k = ⟨u, v, y⟩ by rw [← hu, ← hv, ← hy])
          have hep : edP E k = (u, v) := by unfold edP; rw [hu, hv]; rfl
          have hoc := ocTo_succ E x k
          rw [hep] at hoc
          have HOc := Lib.hid hoc
          rw [hu] at e0; rw [hv] at e1; rw [hy] at e2
          have hkn : (0 : Int) ≤ k ∧ (k : Int) < E.length := by omega
          clear hEr hu hv hy hep hoc
          by_cases hc : u ≠ x ∧ v ≠ x
          · have k1 : ((u : Int) != (x : Int)) = true := by simp; omega
            have k2 : ((v : Int) != (x : Int)) = true := by simp; omega
            have hT : someE E (ocTo E x (k + 1)) = someE E (ocTo E x k) ++ [⟨u, v, y⟩] := by rw [HOc.out, if_pos hc, someE_snoc, HEq.out]
            have HT := Lib.hid hT
            have hown : wr.ownsRow w0.heap.size 48 3 _ (someE E (ocTo E x k)).length (flat (edC (someE E (ocTo E x k))) (someE E (ocTo E x k)).length 3) := HO.out
            have HOW := Lib.hid hown
            have hsz := bel.size
            have hln : (someE E (ocTo E x k)).length ≤ 16384 := by rw [someE_len]; have := ocTo_len E x k; omega
            clear hT hown HO hc
            generalize someE E (ocTo E x k) = T at *
            go_wp2_with (at_builtin; refine push etE rfl _ _ rfl w0.heap.size _ _ _ HOW.out rfl #[.int .i64 (u : Nat), .int .i64 (v : Nat), .int .i64 y] _ rfl rfl rfl (by simp [Value.oneCell']) (by omega) (by omega) hsz ?_; intro g5 cp w5 hown5 hg5 hv5)
            have hb5 : Below w0.heap.size w0 w5 := bel.grown hg5 hsz (fun j e => (HOW.out.lt j e).1)
            go_roundw
            case rel => exact ⟨k + 1, by omega, by go_num, by rw [HT.out]; exact Lib.hid (OwnE.snoc (x := ⟨u, v, y⟩) hown5), hb5⟩
            case measure => simp only [intOf]; omega
          · have hT : someE E (ocTo E x (k + 1)) = someE E (ocTo E x k) := by rw [HOc.out, if_neg hc]
            have HT := Lib.hid hT
            clear hT
            by_cases hux : u = x
            · have k1 : ((u : Int) != (x : Int)) = false := by simp [hux]
              clear hc hux
              go_wp2_with fail
              go_roundw
              case rel => exact ⟨k + 1, by omega, by go_num, by rw [HT.out]; exact HO, bel⟩
              case measure => simp only [intOf]; omega
            · have k1 : ((u : Int) != (x : Int)) = true := by simp; omega
              have k2 : ((v : Int) != (x : Int)) = false := by simp; omega
              clear hc hux
              go_wp2_with fail
              go_roundw
              case rel => exact ⟨k + 1, by omega, by go_num, by rw [HT.out]; exact HO, bel⟩
              case measure => simp only [intOf]; omega
        · obtain rfl : k = E.length := by omega
          have hnb : ocTo E x E.length = ocV E x := rfl
          rw [hnb] at HO
          obtain ⟨ra, rc, RA, rfl, hR⟩ := HO.out.rd
          have hpl : (ocV E x).length ≤ 16384 := by have := ocTo_len E x E.length; rw [hnb] at this; omega
          have Gp : GOk n (someE E (ocV E x)) := gok_some HGk.out (fun i hi => (mem_ocV.1 hi).1) hpl
          have HNw := Lib.hid (gnew_any wr.heap.size ra rc RA n (someE E (ocV E x)) wr hR (Nat.le_refl _) (by rw [someE_len]; omega))
          have HGp := Lib.hid Gp
          clear hR Gp HO
          obtain ⟨kk, hk1, hk2, hk3⟩ := cnt_cuts HGk.out hlt
          rw [HQ.out] at hk1
          obtain ⟨q', hq'⟩ : ∃ q', cntN n (labO E (ocV E x)) = q' := ⟨_, rfl⟩
          have hqn' : q' ≤ n := by rw [← hq']; exact cntN_le n _
          rw [hq'] at hk1
          have HQ' := Lib.hid hq'
          obtain ⟨dg, hdg⟩ : ∃ d, deg E x = d := ⟨_, rfl⟩
          rw [hdg] at hk2
          have HDg := Lib.hid hdg
          have hdl : dg ≤ 150 := by rw [← hdg]; have := deg_le E x; omega
          have hsub : (q' : Int) - (q : Int) = (kk : Nat) := by omega
          have hkk : kk ≤ 60 := by omega
          clear hq' hdg
          go_wp2_with fail
          refine HNw.out.mono ?_
          clear HNw
          rintro e w6 ⟨hb6, ⟨h0, _⟩ | ⟨b6, k6, hk6, -, rfl, hGr⟩⟩
          · exact absurd (gErr_ok HGp.out) h0
          have hke : k6 = n := by omega
          rw [hke] at hGr
          clear hk6 hke
          have bel6 := Lib.hid (HB0.out.trans ((bel.trans (hb6.mono bel.size)).mono hs0))
          have hs6 := bel6.out.size
          have HR := grow_any w6.heap.size b6 n (someE E (ocV E x)) w6 hGr (Nat.le_refl _)
          unfold RowRes at HR
          rw [someE_lab, HQ'.out] at HR
          have HR := Lib.hid HR
          clear hGr hb6 bel
          go_wp2_with fail
          refine HR.out.mono ?_
          clear HR
          rintro e w7 ⟨rfl, b7⟩
          have bel7 := Lib.hid (bel6.out.trans (b7.mono hs6))
          have HD := deg_is w3.heap.size b n E x w7 (HGr3.out.below bel7.out) hlt
          rw [HDg.out] at HD
          have HD := Lib.hid HD
          clear b7 bel6 hs6
          go_wp2_with fail
          refine HD.out.mono ?_
          clear HD
          rintro e w8 ⟨rfl, m8, rfl⟩
          have bel8 := Lib.hid (below_drewN bel7.out m8)
          have HH := hasI_any w3.heap.size bv (cutL n E) x (w7.drewN m8) (HBv3.out.below bel8.out) (by have := cutL_len n E; omega)
          have HK3 := Lib.hid hk3
          have HK2 := Lib.hid hk2
          by_cases hd0 : dg = 0
          · have hkk0 : kk = 0 := hk2.2 hd0
            have hnm : decide (x ∈ cutL n E) = false := decide_eq_false fun c => by have := hk3.1 c; omega
            rw [hnm] at HH
            have HH := Lib.hid HH
            clear hk3 hk2 hnm
            have HHH := Lib.hid hk1
            subst hd0
            subst hkk0
            clear hk1
            go_wp2_with fail
            refine HH.out.mono ?_
            rintro e w9 ⟨rfl, rfl⟩
            go_wp2_with fail
            go_roundw
            case rel => exact ⟨x + 1, by omega, by go_num, bel8.out⟩
            case measure => simp only [intOf]; omega
          · have hkk1 : 1 ≤ kk := by
              rcases Nat.eq_zero_or_pos kk with c | c
              · exact absurd (hk2.1 c) hd0
              · exact c
            have hdp : (0 : Int) < dg := by omega
            have hsb2 : IntKind.i64.wrap ((kk : Int) - 1) = (kk : Int) - 1 := IntWalk.i64_in _ (by omega)
            by_cases hc : 1 < kk
            · have hnm : decide (x ∈ cutL n E) = true := decide_eq_true (hk3.2 hc)
              rw [hnm] at HH
              have HH := Lib.hid HH
              have hgt : (0 : Int) < (kk : Int) - 1 := by omega
              have hg1 : decide (1 < kk) = true := decide_eq_true hc
              have hg2 : decide ((0 : Int) < (kk : Int) - 1) = true := decide_eq_true (by omega)
              have hg3 : decide ((1 : Int) < (kk : Int)) = true := decide_eq_true (by omega)
              have hgb : (true != decide ((0 : Int) < (kk : Int) - 1)) = false := by rw [hg2]; rfl
              have HHH := Lib.hid hk1
              clear hk3 hk2 hnm hc hd0 hkk1 hk1
              go_wp2_with fail
              refine HH.out.mono ?_
              rintro e w9 ⟨rfl, rfl⟩
              go_wp2_with fail
              go_roundw
              case rel => exact ⟨x + 1, by omega, by go_num, bel8.out⟩
              case measure => simp only [intOf]; omega
            · have hnm : decide (x ∈ cutL n E) = false := decide_eq_false fun d => hc (hk3.1 d)
              rw [hnm] at HH
              have HH := Lib.hid HH
              have hgt : ¬ (0 : Int) < (kk : Int) - 1 := by omega
              have HHH := Lib.hid hk1
              clear hk3 hk2 hnm hc hd0 hk1
              go_wp2_with fail
              refine HH.out.mono ?_
              rintro e w9 ⟨rfl, rfl⟩
              go_wp2_with fail
              go_roundw
              case rel => exact ⟨x + 1, by omega, by go_num, bel8.out⟩
              case measure => simp only [intOf]; omega
    · obtain rfl : x = n := by omega
      obtain ⟨ba, bc, BA, hbv, hbr⟩ := HBv3.out.below bel
      subst hbv
      have HBw := Lib.hid (show RdI wr w3.heap.size (.slice ba (cutL x E).length bc) (cutL x E) from ⟨ba, bc, BA, rfl, hbr⟩)
      have hbln := cutL_len x E
      obtain ⟨w0, rfl⟩ : ∃ w0 : World, w0 = wr := ⟨_, rfl⟩
      have B4 := Lib.hid (B3.out.trans (bel.mono B3.out.size))
      have hs0 := bel.size
      clear hbr bel HBv3 B3 HGr3 HES3
      go_wp2_with fail
      go_loopw [16] (fun iv wr => ∃ k : Nat, k ≤ (cutL x E).length ∧ iv = .int .i64 (k : Nat) ∧ Below w0.heap.size w0 wr) (fun iv _ => (cutL x E).length - (intOf iv).toNat)
      case atStart => exact ⟨0, Nat.zero_le _, rfl, Below.refl _ _⟩
      case round =>
        obtain ⟨k, hk, rfl, bel⟩ := hrel
        by_cases hlt : k < (cutL x E).length
        · have HBx := Lib.hid (HBw.out.below (bel.mono hs0))
          obtain ⟨ak, ixk, ck⟩ := RdI.get HBx.out hlt
          have hx := cutL_lt (getD_mem' hlt)
          obtain ⟨c, hxe⟩ : ∃ c, (cutL x E).getD k 0 = c := ⟨_, rfl⟩
          rw [hxe] at ck hx
          have hkn : (0 : Int) ≤ k ∧ (k : Int) < (cutL x E).length := by omega
          by_cases hk0 : k = 0
          · have hd1 : decide (0 < k) = false := decide_eq_false (by omega)
            have hd2 : decide ((0 : Int) < (k : Int)) = false := decide_eq_false (by omega)
            have hx0 : decide ((c : Int) < 0) = false := decide_eq_false (by omega)
            have hx1 : decide (x ≤ c) = false := decide_eq_false (by omega)
            have hw1 : IntKind.i64.wrap ((k : Int) + 1) = (k : Int) + 1 := IntWalk.i64_in _ (by omega)
            have HK := Lib.hid hlt
            have HBel := Lib.hid bel
            clear hxe hk0 hx hlt bel hk hqn hn0 hn1 hm hs0 hbln hz hl
            go_wp2_with fail
            go_quiet (fail)
            go_wp2_with fail
            go_roundw
            case rel => exact ⟨k + 1, by have := HK.out; omega, by go_num, below_drewN HBel.out _⟩
            case measure => have := HK.out; simp only [intOf]; omega
          · obtain ⟨j, hj⟩ : ∃ j, k = j + 1 := ⟨k - 1, by omega⟩
            obtain ⟨aj, ixj, cj⟩ := RdI.get HBx.out (show j < (cutL x E).length by omega)
            have hso := sorted_at (cutL_sorted x E) (show j < k by omega) hlt
            obtain ⟨y, hye⟩ : ∃ y, (cutL x E).getD j 0 = y := ⟨_, rfl⟩
            rw [hye] at cj hso
            rw [hxe] at hso
            have hkj : (k : Int) - 1 = (j : Nat) := by omega
            have hkp : (0 : Int) < k := by omega
            have hd1 : decide (0 < k) = true := decide_eq_true (by omega)
            have hd2 : decide (c ≤ y) = false := decide_eq_false (by omega)
            have hjn : (0 : Int) ≤ j ∧ (j : Int) < (cutL x E).length := by omega
            have hwj : IntKind.i64.wrap (j : Int) = (j : Int) := IntWalk.i64_in _ (by omega)
            have hx0 : decide ((c : Int) < 0) = false := decide_eq_false (by omega)
            have hx1 : decide (x ≤ c) = false := decide_eq_false (by omega)
            have hw1 : IntKind.i64.wrap ((k : Int) + 1) = (k : Int) + 1 := IntWalk.i64_in _ (by omega)
            have HK := Lib.hid hlt
            have HBel := Lib.hid bel
            clear hxe hye hj hk0 hx hlt bel hk hqn hn0 hn1 hm hs0 hbln hz hl hso hkp hjn
            go_wp2_with fail
            go_quiet (fail)
            go_wp2_with fail
            go_roundw
            case rel => exact ⟨k + 1, by have := HK.out; omega, by go_num, below_drewN HBel.out _⟩
            case measure => have := HK.out; simp only [intOf]; omega
        · obtain rfl : k = (cutL x E).length := by omega
          go_wp2_with fail
          refine (works_any _).mono ?_
          rintro e w9 ⟨rfl, hb9⟩
          have B9 := Lib.hid (B4.out.trans ((bel.trans (hb9.mono bel.size)).mono B4.out.size))
          go_wp2_with fail
          go_ret
          exact ⟨rfl, B9.out⟩
end Go.Proofs.Ytcpikabhcjkkmaa
