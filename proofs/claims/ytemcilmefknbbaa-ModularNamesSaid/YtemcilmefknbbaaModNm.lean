/- The walk of the law ModularNames: which numbers the labels are does not matter. No conditions. -/
import Derived.Test.YtemcilmefknbbaaModBd
import Derived.Test.YtemcilmefknbbaaModNil
namespace Go.Proofs.Ytemcilmefknbbaa
open Go.RowKit Go.Shelf

/-- the least vertex of the class, among those from j on -/
def FstTo (L : List Int) (i j g : Nat) : Prop := j ≤ g ∧ g ≤ i ∧ nth L g = nth L i ∧ ∀ x, j ≤ x → x < g → nth L x ≠ nth L i
theorem FstTo.start (L : List Int) (i : Nat) : FstTo L i i i := ⟨Nat.le_refl _, Nat.le_refl _, rfl, fun x h1 h2 => by omega⟩
theorem FstTo.yes {L : List Int} {i j g : Nat} (h : FstTo L i (j + 1) g) (e : nth L j = nth L i) : FstTo L i j j := ⟨Nat.le_refl _, by have := h.1; have := h.2.1; omega, e, fun x h1 h2 => by omega⟩
theorem FstTo.no {L : List Int} {i j g : Nat} (h : FstTo L i (j + 1) g) (e : nth L j ≠ nth L i) : FstTo L i j g := ⟨by have := h.1; omega, h.2.1, h.2.2.1, fun x h1 h2 => by
  by_cases hx : x = j
  · rw [hx]; exact e
  · exact h.2.2.2 x (by omega) h2⟩
/-- names after the least vertices of the classes -/
def NmOk (L N : List Int) : Prop := ∀ i, i < N.length → ∃ g : Nat, FstTo L i 0 g ∧ nth N i = 1000 - 7 * (g : Int)
theorem NmOk.iff {L N : List Int} (h : NmOk L N) {i j : Nat} (hi : i < N.length) (hj : j < N.length) : nth N i = nth N j ↔ nth L i = nth L j := by
  obtain ⟨g, h1, h2⟩ := h i hi
  obtain ⟨f, h3, h4⟩ := h j hj
  rw [h2, h4]
  constructor
  · intro e
    obtain rfl : g = f := by omega
    rw [← h1.2.2.1, ← h3.2.2.1]
  · intro e
    rcases Nat.lt_trichotomy g f with c | c | c
    · exact absurd (h1.2.2.1.trans e) (h3.2.2.2 g (by omega) c)
    · rw [c]
    · exact absurd (h3.2.2.1.trans e.symm) (h1.2.2.2 f (by omega) c)
theorem nth_snoc (N : List Int) (x : Int) (i : Nat) : nth (N ++ [x]) i = if i < N.length then nth N i else if i = N.length then x else 0 := by
  simp only [nth, List.getD_eq_getElem?_getD, List.getElem?_append]
  split
  · rfl
  · split
    · rename_i h1 h2; subst h2; simp
    · rw [List.getElem?_eq_none (by simp; omega)]; rfl
theorem NmOk.snoc {L N : List Int} (h : NmOk L N) {g : Nat} (hg : FstTo L N.length 0 g) : NmOk L (N ++ [1000 - 7 * (g : Int)]) := by
  intro i hi
  rw [List.length_append, List.length_singleton] at hi
  rw [nth_snoc]
  by_cases e : i < N.length
  · rw [if_pos e]; exact h i e
  · obtain rfl : i = N.length := by omega
    exact ⟨g, hg, by simp⟩
theorem NmOk.wf {L N : List Int} (h : NmOk L N) (hN : N.length ≤ 30) : LWf N := fun x hx => by
  obtain ⟨i, hi, rfl⟩ := List.mem_iff_getElem.1 hx
  obtain ⟨g, h1, h2⟩ := h i hi
  rw [nth_eq hi] at h2
  rw [h2]
  have := h1.2.1
  exact WalkArith.wf_i64 (by omega)
theorem u8_mod {v : Int} (h : 0 ≤ v ∧ v < 256) (k : Nat) : v.tmod (k : Int) = ((v.toNat % k : Nat) : Int) := by
  obtain ⟨x, rfl⟩ := Int.eq_ofNat_of_zero_le h.1
  rw [Int.toNat_natCast, Int.ofNat_tmod]

set_option maxRecDepth 100000 in
set_option maxHeartbeats 4000000 in
theorem names_walk (n : Int) (a : Option Addr) (c : Nat) (E : List Ed) (la : Option Addr) (lc : Nat) (L : List Int) (v u : Int) (w : World) (hS : CS w w.heap.size a c E la lc L) (hv : 0 ≤ v ∧ v < 256) (hu : 0 ≤ u ∧ u < 256) :
    Calls Try.prog 7 #[.agg #[.int .i64 n, .slice a E.length c, .slice la L.length lc], .int .u8 v, .int .u8 u] w fun e w' => e = .returned (.bool true) ∧ Below w.heap.size w w' := by
  have hC := CB.new w n a E.length c la L.length lc 25
  have hb : Below w.heap.size w (w.alloc (.cells #[.int .i64 n, .slice a E.length c, .slice la L.length lc] 25)) := (Below.refl _ _).alloc (Nat.le_refl _) _
  have hs : (w.alloc (.cells #[.int .i64 n, .slice a E.length c, .slice la L.length lc] 25)).heap.size = w.heap.size + 1 := by simp
  have HF := Lib.hid (fits_any w.heap.size n a c E la lc L _ (hS.below hb) (by omega))
  have HC := Lib.hid hC
  have HS := Lib.hid (hS.below hb)
  have c0 := hC.c0; have c1 := hC.c1; have c2 := hC.c2
  clear hC hS
  go_enter Try.func7, Try.ntmps7
  go_wp2_with fail
  refine HF.out.mono ?_
  clear HF
  generalize w.alloc (.cells #[.int .i64 n, .slice a E.length c, .slice la L.length lc] 25) = W0 at *
  clear c0 c1 c2
  rintro e w1 ⟨p, rfl, hG, hb1⟩
  have hC1 := HC.out.below hb1 (by omega)
  have c0 := hC1.c0; have c1 := hC1.c1; have c2 := hC1.c2
  have bel1 : Below w.heap.size w w1 := hb.trans (hb1.mono (by omega))
  have hsz1 : w.heap.size + 1 ≤ w1.heap.size := by have := hb1.size; omega
  have HG := Lib.hid hG
  clear hC1 hG
  cases hf : fitB n E L with
  | false =>
    go_wp2_with fail
    refine (works_any _).mono ?_
    rintro e w2 ⟨rfl, hb2⟩
    go_wp2_with fail
    go_ret
    exact ⟨rfl, stepB0 bel1 hb2⟩
  | true =>
    obtain ⟨k, rfl, G, hk⟩ := fit_true hf
    have HK := Lib.hid hk
    clear hf hk
    have hSm := Lib.hid (fun W => small_any k a E.length c la L.length lc 30 80 W (by omega))
    generalize hsb : decide ((k : Int) ≤ 30 ∧ (E.length : Int) ≤ 80 ∧ (L.length : Int) ≤ 30 + 1) = sb at *
    have hSw : CB w1 w.heap.size k (.slice a E.length c) (.slice la L.length lc) := ⟨c0, c1, c2⟩
    cases sb with
    | false =>
      go_wp2_with fail
      refine (hSm.out _).mono ?_
      rintro e w2 ⟨rfl, hb2⟩
      have bel2 := stepB0 bel1 hb2
      go_wp2_with fail
      refine (works_any _).mono ?_
      rintro e w3 ⟨rfl, hb3⟩
      go_wp2_with fail
      go_ret
      exact ⟨rfl, stepB0 bel2 hb3⟩
    | true =>
      go_wp2_with fail
      refine (hSm.out _).mono ?_
      rintro e w2 ⟨rfl, hb2⟩
      have hC2 := hSw.below hb2 hsz1
      have bel2 := stepB0 bel1 hb2
      have hk30 : k ≤ 30 ∧ E.length ≤ 80 := by simp at hsb; omega
      clear hSm hsb c0 c1 c2
      have c0 := hC2.c0; have c1 := hC2.c1; have c2 := hC2.c2
      have HGV := Lib.hid (show GV w2 w2.heap.size (.pointer p) (some (k, E)) by have := HG.out; rw [gO_some G] at this; exact (this.below hb2).mono hb2.size)
      have hCS2 := (HS.out.below (hb1.mono (by omega))).below (hb2.mono (by omega))
      obtain ⟨LA, hSl⟩ := hCS2.l
      obtain ⟨EA, hES⟩ := hCS2.e
      have hB2 : w.heap.size ≤ w2.heap.size := by have := hb2.size; omega
      have hlt2 : w.heap.size < w2.heap.size := by have := hb2.size; omega
      have HW := Lib.hid HS.out.wf
      have HSl := Lib.hid (hSl.mono hB2)
      have HES := Lib.hid (hES.mono hB2)
      go_wp2_with fail
      go_loopw [9, 10] (fun l i wr => ∃ N : List Int, N.length ≤ k ∧ i = .int .i64 (N.length : Nat) ∧ Hid (NmOk L N) ∧ wr.ownsRow w2.heap.size 3 1 l N.length (N.map (Value.int .i64)) ∧ Below w2.heap.size w2 wr) (fun _ i _ => k - (intOf i).toNat)
      case atStart => exact ⟨[], Nat.zero_le _, rfl, Lib.hid (fun i hi => absurd hi (Nat.not_lt_zero _)), World.ownsRow_nil _ _ _ _, Below.refl _ _⟩
      case round =>
        obtain ⟨N, hq, rfl, hN, hown, bel⟩ := hrel
        have hCr := hC2.below bel hlt2
        have c0 := hCr.c0; have c1 := hCr.c1; have c2 := hCr.c2
        have HCr := Lib.hid hCr
        have hLr := HSl.out.below bel
        have HLr := Lib.hid (hLr.mono bel.size)
        have hltr : w.heap.size < wr.heap.size := by have := bel.size; omega
        clear hCr
        by_cases hlt : N.length < k
        · have hli : N.length < L.length := by rw [HK.out]; exact hlt
          have w1' : IntKind.i64.wrap ((N.length : Nat) - 1) = (N.length : Nat) - 1 := IntWalk.i64_in _ (by omega)
          clear hLr
          go_wp2_with fail
          go_loopw [11, 12] (fun f kk wv => ∃ j g : Nat, j ≤ N.length ∧ f = .int .i64 (g : Nat) ∧ kk = .int .i64 ((j : Int) - 1) ∧ Hid (FstTo L N.length j g) ∧ Below wr.heap.size wr wv) (fun _ kk _ => (intOf kk + 1).toNat)
          case atStart => exact ⟨N.length, N.length, Nat.le_refl _, rfl, by go_num, Lib.hid (FstTo.start _ _), Below.refl _ _⟩
          case round =>
            obtain ⟨j, g, hj, rfl, hkk, hF, belv⟩ := hrel
            have hg := hF.out.2.1
            have hgN : (g : Int) ≤ 30 := by omega
            by_cases hj0 : j = 0
            · subst hj0
              obtain rfl : u12 = .int .i64 (-1) := by rw [hkk]; rfl
              have w2' : IntKind.i64.wrap (7 * (g : Int)) = 7 * (g : Int) := IntWalk.i64_in _ (by omega)
              have w3' : IntKind.i64.wrap (1000 - 7 * (g : Int)) = 1000 - 7 * (g : Int) := IntWalk.i64_in _ (by omega)
              have hown2 := ownsRow_below hown belv
              have bel2v := stepB0 bel belv
              have hlen : (N.length : Int) ≤ 30 := by omega
              clear hkk hown belv HCr HLr c0 c1 c2
              go_wp2_with (at_builtin; refine push etI rfl _ _ rfl w2.heap.size _ _ _ hown2 rfl #[.int .i64 (1000 - 7 * (g : Int))] _ rfl rfl rfl (by simp [Value.oneCell']) (by omega) (by omega) bel2v.size ?_; intro g' cp w5 hown5 hg5 hv5)
              have hb5 : Below w2.heap.size wr w5 := (Below.refl _ wr).grown hg5 bel2v.size (fun j e => (hown2.lt j e).1)
              go_roundw
              case rel => exact ⟨N ++ [1000 - 7 * (g : Int)], by simp; omega, by rw [List.length_append, List.length_singleton]; go_num, Lib.hid (hN.out.snoc hF.out), by rw [List.length_append, List.map_append]; exact hown5, bel2v.trans hb5⟩
              case measure => simp only [intOf]; omega
            · obtain ⟨x, rfl⟩ : ∃ x, j = x + 1 := ⟨j - 1, by omega⟩
              obtain rfl : u12 = .int .i64 (x : Nat) := by rw [hkk]; congr 1; omega
              have hxl : x < L.length := by omega
              have hLv := HLr.out.below belv
              have hCv := HCr.out.below belv hltr
              have d2 := hCv.c2
              have i0 := hLv.ix x hxl
              have i1 := hLv.ix N.length hli
              have l0 := Sl.at hLv hxl
              have l1 := Sl.at hLv hli
              have w2' : IntKind.i64.wrap ((x : Nat) - 1) = (x : Nat) - 1 := IntWalk.i64_in _ (by omega)
              clear hLv hCv hkk c0 c1 c2
              by_cases e : nth L x = nth L N.length
              · have hq : (nth L x == nth L N.length) = true := by simpa using e
                go_wp2_with fail
                go_quiet (fail)
                go_wp2_with fail
                go_roundw
                case rel => exact ⟨x, x, by omega, rfl, by go_num, Lib.hid (hF.out.yes e), below_drewN belv _⟩
                case measure => simp only [intOf]; omega
              · have hq : (nth L x == nth L N.length) = false := by simpa using e
                go_wp2_with fail
                go_quiet (fail)
                go_wp2_with fail
                go_roundw
                case rel => exact ⟨x, g, by omega, rfl, by go_num, Lib.hid (hF.out.no e), below_drewN belv _⟩
                case measure => simp only [intOf]; omega
        · have HNk := Lib.hid (show N.length = k by omega)
          obtain ⟨ar, cr, AR, rfl, hAR⟩ := own_sl hown
          have HR := Lib.hid hAR
          have hren := fun i j (hi : i < k) (hj : j < k) => hN.out.iff (i := i) (j := j) (by rw [HNk.out]; exact hi) (by rw [HNk.out]; exact hj)
          have hnum := num_ren G HK.out HNk.out hren
          have HNW := Lib.hid (hN.out.wf (by omega))
          have HVr := Lib.hid ((HGV.out.below bel).mono bel.size)
          have HQ1 := Lib.hid (quality_is wr.heap.size (.pointer p) k E la lc LA L wr HVr.out HLr.out (Nat.le_refl _) HW.out HK.out)
          have HQ2 := Lib.hid (fun W (hW : Below wr.heap.size wr W) => quality_is wr.heap.size (.pointer p) k E ar cr AR N W (HVr.out.below hW) (HR.out.below hW) hW.size HNW.out HNk.out)
          rw [hnum] at HQ2
          have HRn := Lib.hid hren
          have hq : k ≤ N.length := by rw [HNk.out]; exact Nat.le_refl _
          clear hown hAR hnum hlt hLr hren
          generalize frN E.length (num E L) = N1 at *
          generalize frD E.length (num E L) = D1 at *
          have hnl : (N.length : Int) ≤ 30 := by omega
          have hkn : ((N.length : Int)) = k := by have := HNk.out; omega
          have HKN := Lib.hid hkn
          have hd : decide ((N.length : Int) < k) = false := decide_eq_false (by omega)
          clear hkn
          go_wp2_with fail
          refine HQ1.out.mono ?_
          rintro e w3 ⟨rfl, hb3⟩
          have T3 := Two.new w3 N1 D1 33
          have hb4 : Below wr.heap.size wr (w3.alloc (.cells #[.int .i64 N1, .int .i64 D1] 33)) := hb3.alloc hb3.size _
          have hs4 : (w3.alloc (.cells #[.int .i64 N1, .int .i64 D1] 33)).heap.size = w3.heap.size + 1 := by simp
          have HQ3 := Lib.hid (HQ2.out _ hb4)
          clear HQ1 HQ2 c0 c1 c2
          go_upto_region 16 with fail
          generalize w3.alloc (.cells #[.int .i64 N1, .int .i64 D1] 33) = W4 at *
          have hlt4 : w3.heap.size < W4.heap.size := by omega
          clear hs4
          go_wp2_with fail
          refine HQ3.out.mono ?_
          rintro e w5 ⟨rfl, hb5⟩
          have T5 := Two.new w5 N1 D1 33
          have hs5 := hb5.size
          have hb6 : Below W4.heap.size W4 (w5.alloc (.cells #[.int .i64 N1, .int .i64 D1] 33)) := hb5.alloc hs5 _
          have T6 := (T3.below hb5 hlt4).below ((Below.refl w5.heap.size w5).alloc (Nat.le_refl _) (.cells #[.int .i64 N1, .int .i64 D1] 33)) (by omega)
          have e0 := T5.c0; have e1 := T5.c1; have e2 := T6.c0; have e3 := T6.c1
          have bel6 := stepB0 hb4 hb6
          have hC6 := HCr.out.below bel6 hltr
          have c0 := hC6.c0; have c1 := hC6.c1; have c2 := hC6.c2
          have q1 : ∀ w, (binOp .neq 33 (.agg #[.int .i64 N1, .int .i64 D1]) (.agg #[.int .i64 N1, .int .i64 D1])).run Try.prog w = .ok (.bool false) w := fun w => by simpa using frac_neq N1 D1 N1 D1 w
          have HC6 := Lib.hid hC6
          have belw := stepB0 bel bel6
          clear T3 T5 T6 hC6 HQ3 hb4 hb6
          go_upto_region 17 with fail
          generalize w5.alloc (.cells #[.int .i64 N1, .int .i64 D1] 33) = W6 at *
          by_cases h0 : k = 0
          · have h0' : ((k : Int) == 0) = true := by simp; omega
            go_wp2_with fail
            refine (works_any _).mono ?_
            rintro e w7 ⟨rfl, hb7⟩
            go_wp2_with fail
            go_ret
            exact ⟨rfl, stepB0 (stepB0 bel2 belw) hb7⟩
          · have hk1 : 0 < k := by omega
            have h0' : ((k : Int) == 0) = false := by simp; omega
            have hir := u8_mod hv k
            have hjr := u8_mod hu k
            have hcv : IntKind.i64.wrap v = v := IntWalk.i64_in _ (by omega)
            have hcu : IntKind.i64.wrap u = u := IntWalk.i64_in _ (by omega)
            have hil : v.toNat % k < k := Nat.mod_lt _ hk1
            have hjl : u.toNat % k < k := Nat.mod_lt _ hk1
            generalize v.toNat % k = i at *
            generalize u.toNat % k = j at *
            have hjL : j < L.length := by rw [HK.out]; exact hjl
            have hjN : j < N.length := by rw [HNk.out]; exact hjl
            have hL6 := HLr.out.below bel6
            have HR6 := Lib.hid (HR.out.below bel6)
            have HV6 := Lib.hid (HVr.out.below bel6)
            have x0 := hL6.ix j hjL
            have l0 := Sl.at hL6 hjL
            have HG7' := Lib.hid (fun W (hW : Below W6.heap.size W6 W) => gain_is wr.heap.size (.pointer p) k E la lc LA L i (nth L j) W (HV6.out.below (hW.mono bel6.size)) ((HLr.out.below bel6).below (hW.mono bel6.size)) (Nat.le_trans bel6.size hW.size) HW.out (HW.out.nth hjL) HK.out hil)
            have HG8 := Lib.hid (fun W (hW : Below W6.heap.size W6 W) => gain_is wr.heap.size (.pointer p) k E ar cr AR N i (nth N j) W (HV6.out.below (hW.mono bel6.size)) (HR6.out.below (hW.mono bel6.size)) (Nat.le_trans bel6.size hW.size) HNW.out (HNW.out.nth hjN) HNk.out hil)
            rw [gain_ren G hil hjl HK.out HNk.out HRn.out] at HG8
            generalize frN E.length (gainZ E L i (nth L j)) = N2 at *
            generalize frD E.length (gainZ E L i (nth L j)) = D2 at *
            have hbA : (LA j).block < W6.heap.size := Nat.lt_of_lt_of_le (HLr.out.lt j hjL) bel6.size
            have hlt6 : w.heap.size < W6.heap.size := Nat.lt_of_lt_of_le hltr bel6.size
            clear hL6
            go_upto_region 23 with fail
            have hbA6 : Below W6.heap.size W6 (W6.alloc (.cells #[.int .i64 0, .int .i64 0] 33)).drew := ((Below.refl _ _).alloc (Nat.le_refl _) _).drew
            have TA : Two (W6.alloc (.cells #[.int .i64 0, .int .i64 0] 33)).drew W6.heap.size 0 0 := by
              have T := Two.new W6 0 0 33
              exact ⟨T.c0, T.c1, T.z⟩
            have hSA : (W6.alloc (.cells #[.int .i64 0, .int .i64 0] 33)).drew.cell? ⟨w.heap.size, 2, none⟩ = some (.slice la L.length lc) ∧ (W6.alloc (.cells #[.int .i64 0, .int .i64 0] 33)).drew.cell? (LA j) = some (.int .i64 (nth L j)) ∧ Below W6.heap.size W6 (W6.alloc (.cells #[.int .i64 0, .int .i64 0] 33)).drew := ⟨(hbA6.cell hlt6).trans c2, (hbA6.cell hbA).trans l0, hbA6⟩
            have ya0 := TA.c0; have ya1 := TA.c1; have yaz := TA.z
            go_region_held3 (fun W => W.cell? ⟨w.heap.size, 2, none⟩ = some (.slice la L.length lc) ∧ W.cell? (LA j) = some (.int .i64 (nth L j)) ∧ Below W6.heap.size W6 W) (first | exact ⟨c2, l0, (Below.refl _ _).drew⟩ | assumption | exact hS9 _ _) (first | (go_at_call 24; obtain ⟨k0, k1, hB⟩ := (by assumption : _ ∧ _ ∧ Below W6.heap.size W6 _); refine (HG7'.out _ hB).mono ?_; rintro e w7 ⟨rfl, hb7⟩; have bel7 := stepB0 hB hb7; have hs7 := bel7.size; have hS7 : w7.cell? ⟨w.heap.size, 2, none⟩ = some (.slice la L.length lc) ∧ w7.cell? (LA j) = some (.int .i64 (nth L j)) ∧ Below W6.heap.size W6 w7 := ⟨(bel7.cell hlt6).trans c2, (bel7.cell hbA).trans l0, bel7⟩; (first | (have T10 := TA.below hb7 (by simp); have y0 := T10.c0; have y1 := T10.c1; have z := T10.z; have hS9 : ∀ x y, ((w7.setCell ⟨W6.heap.size, 0, none⟩ (.int .i64 x)).setCell ⟨W6.heap.size, 1, none⟩ (.int .i64 y)).cell? ⟨w.heap.size, 2, none⟩ = some (.slice la L.length lc) ∧ ((w7.setCell ⟨W6.heap.size, 0, none⟩ (.int .i64 x)).setCell ⟨W6.heap.size, 1, none⟩ (.int .i64 y)).cell? (LA j) = some (.int .i64 (nth L j)) ∧ Below W6.heap.size W6 ((w7.setCell ⟨W6.heap.size, 0, none⟩ (.int .i64 x)).setCell ⟨W6.heap.size, 1, none⟩ (.int .i64 y)) := fun x y => ⟨(((bel7.setCell (p := ⟨W6.heap.size, 0, none⟩) (Nat.le_refl _) _).setCell (p := ⟨W6.heap.size, 1, none⟩) (Nat.le_refl _) _).cell hlt6).trans c2, (((bel7.setCell (p := ⟨W6.heap.size, 0, none⟩) (Nat.le_refl _) _).setCell (p := ⟨W6.heap.size, 1, none⟩) (Nat.le_refl _) _).cell hbA).trans l0, ((bel7.setCell (p := ⟨W6.heap.size, 0, none⟩) (Nat.le_refl _) _).setCell (p := ⟨W6.heap.size, 1, none⟩) (Nat.le_refl _) _)⟩) | (have hS8 : (w7.alloc (.cells #[.int .i64 0, .int .i64 0] 33)).cell? ⟨w.heap.size, 2, none⟩ = some (.slice la L.length lc) ∧ (w7.alloc (.cells #[.int .i64 0, .int .i64 0] 33)).cell? (LA j) = some (.int .i64 (nth L j)) ∧ Below W6.heap.size W6 (w7.alloc (.cells #[.int .i64 0, .int .i64 0] 33)) := ⟨((bel7.alloc hs7 _).cell hlt6).trans c2, ((bel7.alloc hs7 _).cell hbA).trans l0, (bel7.alloc hs7 _)⟩; have T8 := Two.new w7 0 0 33; have y0 := T8.c0; have y1 := T8.c1; have z := T8.z; have hS9 : ∀ x y, (w7.alloc (.cells #[.int .i64 x, .int .i64 y] 33)).cell? ⟨w.heap.size, 2, none⟩ = some (.slice la L.length lc) ∧ (w7.alloc (.cells #[.int .i64 x, .int .i64 y] 33)).cell? (LA j) = some (.int .i64 (nth L j)) ∧ Below W6.heap.size W6 (w7.alloc (.cells #[.int .i64 x, .int .i64 y] 33)) := fun x y => ⟨((bel7.alloc hs7 _).cell hlt6).trans c2, ((bel7.alloc hs7 _).cell hbA).trans l0, (bel7.alloc hs7 _)⟩)))) 
            all_goals (
              first
              | (have T9 := T10.put N2 D2
                 have bel9 := (hS9 N2 D2).2.2
                 generalize (w7.setCell ⟨W6.heap.size, 0, none⟩ (.int .i64 N2)).setCell ⟨W6.heap.size, 1, none⟩ (.int .i64 D2) = W9 at *)
              | (have T9 := Two.new w7 N2 D2 33
                 have bel9 := (hS9 N2 D2).2.2
                 generalize w7.alloc (.cells #[.int .i64 N2, .int .i64 D2] 33) = W9 at *)
              clear hS9 hS7 y0 y1 z ya0 ya1 yaz hSA
              have hlt9 := T9.lt
              have HR9 := HR6.out.below (bel9.mono bel6.size)
              have x9 := HR9.ix j hjN
              have l9 := Sl.at HR9 hjN
              have HG9 := Lib.hid (HG8.out W9 bel9)
              clear HR9 HG8 e0 e1 e2 e3 q1
              go_wp2_with fail
              refine HG9.out.mono ?_
              rintro e w10 ⟨rfl, hb10⟩
              have hs10 := hb10.size
              have T10' := (T9.below hb10 hlt9).below ((Below.refl w10.heap.size w10).alloc (Nat.le_refl _) (.cells #[.int .i64 N2, .int .i64 D2] 33)) (by omega)
              have T11 := Two.new w10 N2 D2 33
              have hb11 : Below W9.heap.size W9 (w10.alloc (.cells #[.int .i64 N2, .int .i64 D2] 33)) := hb10.alloc hs10 _
              have bel11 := stepB0 bel9 hb11
              have f0 := T10'.c0; have f1 := T10'.c1; have f2 := T11.c0; have f3 := T11.c1
              have q2 : ∀ w, (binOp .eql 33 (.agg #[.int .i64 N2, .int .i64 D2]) (.agg #[.int .i64 N2, .int .i64 D2])).run Try.prog w = .ok (.bool true) w := fun w => by simpa using frac_eq N2 D2 N2 D2 w
              clear T10' T11 HG9
              go_upto_region 25 with fail
              generalize w10.alloc (.cells #[.int .i64 N2, .int .i64 D2] 33) = W11 at *
              go_wp2_with fail
              refine (works_any _).mono ?_
              rintro e w12 ⟨rfl, hb12⟩
              go_wp2_with fail
              go_ret
              exact ⟨rfl, stepB0 (stepB0 bel2 (stepB0 belw bel11)) hb12⟩)
end Go.Proofs.Ytemcilmefknbbaa
