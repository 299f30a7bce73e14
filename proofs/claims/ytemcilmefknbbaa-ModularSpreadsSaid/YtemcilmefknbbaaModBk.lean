/- The walk of the law ModularBack: moving a vertex back undoes the gain. No conditions. -/
import Derived.Test.YtemcilmefknbbaaModCs
import Derived.Deep.RegionHeld3
namespace Go.Proofs.Ytemcilmefknbbaa
open Go.RowKit Go.Shelf

theorem rQ_neg (n d : Int) : rQ (-n) d = rQ n d := by simp [rQ, rG]
theorem rN_neg (n d : Int) : rN (-n) d = -rN n d := by
  unfold rN
  rw [rQ_neg]
  rcases Int.lt_trichotomy n 0 with h | h | h
  · rw [if_neg (by omega), if_pos h]; omega
  · subst h
    have h0 : rQ 0 d = 0 := by simp [rQ]
    simp [h0]
  · rw [if_pos (by omega), if_neg (by omega)]
theorem rD_neg (n d : Int) : rD (-n) d = rD n d := by simp [rD, rG]
theorem frN_neg (m : Nat) (x : Int) : frN m (-x) = -frN m x := by 
  unfold frN; split
  · rfl
  · exact rN_neg _ _
theorem frD_neg (m : Nat) (x : Int) : frD m (-x) = frD m x := by 
  unfold frD; split
  · rfl
  · exact rD_neg _ _
theorem gain_back (E : List Ed) {L : List Int} {v : Nat} (t : Int) (hv : v < L.length) : gainZ E (L.set v t) v (nth L v) = -gainZ E L v t := by
  unfold gainZ
  rw [List.set_set, set_same hv]; omega

theorem fit_true {n : Int} {E : List Ed} {L : List Int} (h : fitB n E L = true) : ∃ k : Nat, n = k ∧ GOk k E ∧ L.length = k := by
  simp only [fitB, Bool.and_eq_true, decide_eq_true_eq] at h
  obtain ⟨k, rfl, hG⟩ := gErr_zero h.1
  exact ⟨k, rfl, hG, by omega⟩
/-- a row that was copied from numbers -/
theorem row_copied {w : World} {base g cap : Nat} {e : TypeId} {L : List Int} (h : w.ownsRow base e 1 (.slice (some ⟨g, 0, none⟩) L.length cap) L.length (flat (nums .i64 L) L.length 1)) : Row w g L.length (fun i => .int .i64 (nth L i)) :=
  (Row.owned h).congr fun i hi => by
    have := flat_at (f := nums .i64 L) (n := L.length) (size := 1) (i := i) (j := 0) hi (by omega)
    rw [Nat.mul_one, Nat.add_zero] at this
    rw [List.getD_eq_getElem?_getD, this]; rfl
/-- numbers in a row, one of them another -/
theorem sl_set {w : World} {g cap : Nat} {L : List Int} {i : Nat} {t : Int} (h : Row w g L.length (fun j => if j = i then .int .i64 t else .int .i64 (nth L j))) (hi : i < L.length) : Sl 23 .i64 w w.heap.size (.slice (some ⟨g, 0, none⟩) (L.set i t).length cap) (L.set i t) (fun j => (⟨g, 0, none⟩ : Addr).add (j * 1)) := by
  refine Rd.addr etI (fun _ => h.lt) fun k hk j hj => ?_
  obtain rfl : j = 0 := by omega
  rw [List.length_set] at hk
  rw [add_mk, Nat.mul_one, Nat.add_zero, Nat.zero_add, h.cell hk]
  show _ = some (Value.int .i64 (nth (L.set i t) k))
  rw [nth_set t hi]
  split <;> rfl
theorem ga_ok {n : Nat} {E : List Ed} {L : List Int} {v : Nat} (t : Int) (hL : L.length = n) (hv : v < n) : gaE (some (n, E)) L v = 0 ∧ gaN (some (n, E)) L v t = frN E.length (gainZ E L v t) ∧ gaD (some (n, E)) L v t = frD E.length (gainZ E L v t) := by
  have h0 : mErr (some (n, E)) L.length = 0 := by simp [mErr, hL]; rfl
  have h1 : gHas (some (n, E)) (v : Int) = true := gHas_yes ⟨by omega, by show (v : Int) < (n : Int); omega⟩
  have h2 : gaE (some (n, E)) L v = 0 := by rw [gaE, if_pos h0, if_pos h1]
  refine ⟨h2, ?_, ?_⟩
  · rw [gaN, if_pos h2, Int.toNat_natCast]; rfl
  · rw [gaD, if_pos h2, Int.toNat_natCast]; rfl
theorem ga_back {n : Nat} (E : List Ed) {L : List Int} {v : Nat} (t : Int) (hL : L.length = n) (hv : v < n) : gaE (some (n, E)) (L.set v t) v = 0 ∧ gaN (some (n, E)) (L.set v t) v (nth L v) = -frN E.length (gainZ E L v t) ∧ gaD (some (n, E)) (L.set v t) v (nth L v) = frD E.length (gainZ E L v t) := by
  obtain ⟨h1, h2, h3⟩ := ga_ok (E := E) (L := L.set v t) (nth L v) (by rw [List.length_set]; exact hL) hv
  rw [gain_back E t (by omega)] at h2 h3
  exact ⟨h1, by rw [h2, frN_neg], by rw [h3, frD_neg]⟩
theorem frN_bd (E : List Ed) {x : Int} (h0 : -1099511627776 ≤ x) (h1 : x ≤ 1099511627776) : -1099511627776 ≤ frN E.length x ∧ frN E.length x ≤ 1099511627776 := by
  unfold frN
  split
  · omega
  · rename_i hm
    have hd : 0 < 4 * (E.length : Int) * (E.length : Int) := Int.mul_pos (by omega) (by omega)
    have := rQ_bd (n := x) hd h0 h1
    unfold rN
    split <;> omega

set_option maxRecDepth 100000 in
set_option maxHeartbeats 4000000 in
theorem back_walk (n : Int) (a : Option Addr) (c : Nat) (E : List Ed) (la : Option Addr) (lc : Nat) (L : List Int) (v t : Int) (w : World) (hS : CS w w.heap.size a c E la lc L) (hv : 0 ≤ v ∧ v < 256) (ht : (Lit.int .i64 t).wf = true) :
    Calls Try.prog 8 #[.agg #[.int .i64 n, .slice a E.length c, .slice la L.length lc], .int .u8 v, .int .i64 t] w fun e w' => e = .returned (.bool true) ∧ Below w.heap.size w w' := by
  have hC := CB.new w n a E.length c la L.length lc 25
  have hb : Below w.heap.size w (w.alloc (.cells #[.int .i64 n, .slice a E.length c, .slice la L.length lc] 25)) := (Below.refl _ _).alloc (Nat.le_refl _) _
  have hs : (w.alloc (.cells #[.int .i64 n, .slice a E.length c, .slice la L.length lc] 25)).heap.size = w.heap.size + 1 := by simp
  have HF := Lib.hid (fits_any w.heap.size n a c E la lc L _ (hS.below hb) (by omega))
  have HC := Lib.hid hC
  have HS := Lib.hid (hS.below hb)
  have c0 := hC.c0; have c1 := hC.c1; have c2 := hC.c2
  clear hC hS
  go_enter Try.func8, Try.ntmps8
  go_wp2_with fail
  refine HF.out.mono ?_
  clear HF
  generalize w.alloc (.cells #[.int .i64 n, .slice a E.length c, .slice la L.length lc] 25) = W0 at *
  clear c0 c1 c2
  rintro e w1 ⟨p, rfl, hG, hb1⟩
  have hC1 := HC.out.below hb1 (by omega)
  have c0 := hC1.c0; have c1 := hC1.c1; have c2 := hC1.c2
  have bel1 : Below w.heap.size w w1 := hb.trans (hb1.mono (by omega))
  have hsz1 : w.heap.size + 1 ≤ w1.heap.size := by have := hb1.size; omega
  have HG := Lib.hid hG
  clear hC1 hG
  cases hf : fitB n E L with
  | false =>
    go_wp2_with fail
    refine (works_any _).mono ?_
    rintro e w2 ⟨rfl, hb2⟩
    go_wp2_with fail
    go_ret
    exact ⟨rfl, stepB0 bel1 hb2⟩
  | true =>
    obtain ⟨k, rfl, G, hk⟩ := fit_true hf
    have HK := Lib.hid hk
    clear hf hk
    have hSm := Lib.hid (fun W => small_any k a E.length c la L.length lc 30 80 W (by omega))
    generalize hsb : decide ((k : Int) ≤ 30 ∧ (E.length : Int) ≤ 80 ∧ (L.length : Int) ≤ 30 + 1) = sb at *
    have hSw : CB w1 w.heap.size k (.slice a E.length c) (.slice la L.length lc) := ⟨c0, c1, c2⟩
    cases sb with
    | false =>
      go_wp2_with fail
      refine (hSm.out _).mono ?_
      rintro e w2 ⟨rfl, hb2⟩
      have bel2 := stepB0 bel1 hb2
      go_wp2_with fail
      refine (works_any _).mono ?_
      rintro e w3 ⟨rfl, hb3⟩
      go_wp2_with fail
      go_ret
      exact ⟨rfl, stepB0 bel2 hb3⟩
    | true =>
      go_wp2_with fail
      refine (hSm.out _).mono ?_
      rintro e w2 ⟨rfl, hb2⟩
      have hC2 := hSw.below hb2 hsz1
      have c0 := hC2.c0; have c1 := hC2.c1; have c2 := hC2.c2
      have bel2 := stepB0 bel1 hb2
      have hk30 : k ≤ 30 := by simp at hsb; omega
      by_cases h0 : k = 0
      · subst h0
        go_wp2_with fail
        refine (works_any _).mono ?_
        rintro e w3 ⟨rfl, hb3⟩
        go_wp2_with fail
        go_ret
        exact ⟨rfl, stepB0 bel2 hb3⟩
      · have hk1 : 0 < k := by omega
        have h0' : ((k : Int) == 0) = false := by simp; omega
        have hir : v.tmod (k : Int) = ((v.toNat % k : Nat) : Int) := by
          obtain ⟨x, rfl⟩ := Int.eq_ofNat_of_zero_le hv.1
          rw [Int.toNat_natCast, Int.ofNat_tmod]
        have hcv : IntKind.i64.wrap v = v := IntWalk.i64_in _ (by omega)
        have hil : v.toNat % k < k := Nat.mod_lt _ hk1
        generalize v.toNat % k = i at *
        have HGV := Lib.hid (show GV w2 w2.heap.size (.pointer p) (some (k, E)) by have := HG.out; rw [gO_some G] at this; exact (this.below hb2).mono hb2.size)
        obtain ⟨LA, hSl⟩ := ((HS.out.below (hb1.mono (by omega))).below (hb2.mono (by omega))).l
        have hB2 : w.heap.size ≤ w2.heap.size := by have := hb2.size; omega
        have HW := Lib.hid HS.out.wf
        have HLI := Lib.hid (show i < L.length by rw [HK.out]; exact hil)
        obtain ⟨g1, g2, g3⟩ := ga_ok (E := E) t HK.out hil
        have HQ := Lib.hid (gain_any w2.heap.size (.pointer p) (some (k, E)) la lc LA L i t w2 HGV.out (hSl.mono hB2) (Nat.le_refl _) HW.out ht)
        rw [g1, g2, g3] at HQ
        have HSl := Lib.hid (hSl.mono hB2)
        have hll : L.length ≤ 30 := by rw [HK.out]; exact hk30
        have HX := Lib.hid (show _ ∧ _ from frN_bd E (x := gainZ E L i t) (by have := gain_bd G HK.out i t; omega) (by have := gain_bd G HK.out i t; omega))
        have HG2 := Lib.hid (ga_back E t HK.out hil)
        clear g1 g2 g3 hSl
        generalize hgx : gainZ E L i t = gx at *
        generalize hfn : frN E.length gx = N1 at *
        generalize hfd : frD E.length gx = D1 at *
        clear hgx hfn hfd
        go_wp2_with fail
        refine HQ.out.mono ?_
        rintro e w3 ⟨rfl, hb3⟩
        have hlt2 : w.heap.size < w2.heap.size := by have := hb2.size; omega
        have hC3 := (hSw.below hb2 hsz1).below hb3 hlt2
        have T3 := Two.new w3 N1 D1 33
        have hb4 : Below w2.heap.size w2 (w3.alloc (.cells #[.int .i64 N1, .int .i64 D1] 33)) := hb3.alloc hb3.size _
        have hs4 : (w3.alloc (.cells #[.int .i64 N1, .int .i64 D1] 33)).heap.size = w3.heap.size + 1 := by simp
        have hC4 := hC3.below ((Below.refl w3.heap.size w3).alloc (Nat.le_refl _) (.cells #[.int .i64 N1, .int .i64 D1] 33)) (by have := hb3.size; omega)
        clear HQ hC3 c0 c1 c2
        have c0 := hC4.c0; have c1 := hC4.c1; have c2 := hC4.c2
        go_upto_region 6 with fail
        generalize w3.alloc (.cells #[.int .i64 N1, .int .i64 D1] 33) = W4 at *
        have hs34 := hb3.size
        have hlt4 : w3.heap.size < W4.heap.size := by omega
        have HS4 := Lib.hid ((HSl.out.below hb4).mono (Nat.le_of_lt (Nat.lt_of_le_of_lt hs34 hlt4)))
        have c2' := (hC4.below ((Below.refl W4.heap.size W4).alloc (Nat.le_refl _) (.cells #[] 3)) (by omega)).c2
        go_wp2_with (at_builtin; refine Hid.out ?_)
        refine Lib.hid ?_
        refine copiedAny etI rfl _ _ rfl HS4.out (Nat.le_refl _) (fun i _ j _ => rfl) _ rfl hs4 rfl (by omega) (by omega) ?_
        intro g cp w5 hg5 R5 hb5
        have hR5 := row_copied R5
        have hli : i < L.length := HLI.out
        have k5 : w5.cell? ⟨g, i, none⟩ = some (.int .i64 (nth L i)) := hR5.cell hli
        have z5 : w5.frozen? ⟨g, i, none⟩ = false := hR5.frozen i
        have hR6 := hR5.set i (.int .i64 t)
        have bel6 : Below w2.heap.size w2 (w5.setCell ⟨g, i, none⟩ (.int .i64 t)) := (stepB0 hb4 hb5).setCell (show w2.heap.size ≤ g by omega) _
        have hb6 : Below W4.heap.size W4 (w5.setCell ⟨g, i, none⟩ (.int .i64 t)) := hb5.setCell hg5 _
        have hC6 := hC4.below hb6 (by omega)
        have T6 := T3.below hb6 hlt4
        have hs6 : (w5.setCell ⟨g, i, none⟩ (.int .i64 t)).heap.size = w5.heap.size := by simp
        have HS6 := Lib.hid (sl_set (cap := cp) hR6 hli)
        have HL6 := Lib.hid (HS4.out.below hb6)
        have ci6 : (w5.setCell ⟨g, i, none⟩ (.int .i64 t)).cell? (LA i) = some (.int .i64 (nth L i)) := Sl.at HL6.out hli
        have x6 := HL6.out.ix i hli
        have HV6 := Lib.hid (HGV.out.below bel6)
        have d0 := hC6.c0; have d1 := hC6.c1; have d2 := hC6.c2
        have hlt6 : g < w5.heap.size := by rw [← hs6]; exact hR6.lt
        have HQ2 := Lib.hid (gain_any (w5.setCell ⟨g, i, none⟩ (.int .i64 t)).heap.size (.pointer p) (some (k, E)) (some ⟨g, 0, none⟩) cp _ (L.set i t) i (nth L i) _ (HV6.out.mono bel6.size) HS6.out (Nat.le_refl _) (fun x hx => by
          rcases List.mem_or_eq_of_mem_set hx with h | h
          · exact HW.out x h
          · rw [h]; exact ht) (HW.out.nth hli))
        rw [HG2.out.1, HG2.out.2.1, HG2.out.2.2, List.length_set] at HQ2
        have hn2 : IntKind.i64.wrap N1 = N1 := by have := HX.out; exact IntWalk.i64_in _ (by omega)
        clear hR5 hR6 c2' c0 c1 c2 hC4 hC6 R5
        go_wp2_with fail
        refine HQ2.out.mono ?_
        rintro e w7 ⟨rfl, hb7⟩
        have T7 := Two.new w7 (-N1) D1 33
        have hb8 : Below (w5.setCell ⟨g, i, none⟩ (.int .i64 t)).heap.size (w5.setCell ⟨g, i, none⟩ (.int .i64 t)) (w7.alloc (.cells #[.int .i64 (-N1), .int .i64 D1] 33)) := hb7.alloc hb7.size _
        have T8 := T6.below hb8 (by have := hb5.size; omega)
        have bel8 := stepB0 bel6 hb8
        have e0 := T8.c0; have e1 := T8.c1; have e2 := T7.c0; have e3 := T7.c1
        have hs8 : (w7.alloc (.cells #[.int .i64 (-N1), .int .i64 D1] 33)).heap.size = w7.heap.size + 1 := by simp
        clear T7 T8 d0 d1 d2 hb8 hb7 HQ2
        go_upto_region 9 with fail
        generalize w7.alloc (.cells #[.int .i64 (-N1), .int .i64 D1] 33) = W8 at *
        go_wp2_with fail
        refine (works_any _).mono ?_
        rintro e w9 ⟨rfl, hb9⟩
        go_wp2_with fail
        go_ret
        exact ⟨rfl, stepB0 (stepB0 bel2 bel8) hb9⟩
end Go.Proofs.Ytemcilmefknbbaa
