/- The walk of Gain of package modular. Conditions: the graph was made by New, or it is nil or zero; labels are given as cells, and are numbers of Go's int. -/
import Derived.Test.YtemcilmefknbbaaModK
namespace Go.Proofs.Ytemcilmefknbbaa
open Go.RowKit Go.Shelf Go.Maps Go.Sort

/-- what Gain answers -/
def gaE (o : Option (Nat × List Ed)) (L : List Int) (v : Int) : Int := if mErr o L.length = 0 then (if gHas o v then 0 else 3) else mErr o L.length
def gaN (o : Option (Nat × List Ed)) (L : List Int) (v t : Int) : Int := if gaE o L v = 0 then frN (gE o).length (gainZ (gE o) L v.toNat t) else 0
def gaD (o : Option (Nat × List Ed)) (L : List Int) (v t : Int) : Int := if gaE o L v = 0 then frD (gE o).length (gainZ (gE o) L v.toNat t) else 0
theorem gain_bd {n : Nat} {E : List Ed} (G : GOk n E) {L : List Int} (hL : L.length = n) (v : Nat) (t : Int) : -2147483648 ≤ gainZ E L v t ∧ gainZ E L v t ≤ 2147483648 := by
  have h1 := num_hi E L; have h2 := num_lo G hL
  have h3 := num_hi E (L.set v t); have h4 := num_lo (L := L.set v t) G (by rw [List.length_set]; exact hL)
  have h5 := mm_le G
  unfold gainZ; omega

set_option maxRecDepth 100000 in
set_option maxHeartbeats 2000000 in
theorem gain_any (B : Nat) (gv : Value) (o : Option (Nat × List Ed)) (la : Option Addr) (lc : Nat) (LA : Nat → Addr) (L : List Int) (v t : Int) (w : World) (h : GV w B gv o) (hL : Sl 23 .i64 w B (.slice la L.length lc) L LA) (hB : B ≤ w.heap.size) (hW : LWf L) (ht : (Lit.int .i64 t).wf = true) :
    Calls Try.prog 24 #[gv, .slice la L.length lc, .int .i64 v, .int .i64 t] w fun e w' => e = .returned (.tuple #[.agg #[.int .i64 (gaN o L v t), .int .i64 (gaD o L v t)], .int .i64 (gaE o L v)]) ∧ Below w.heap.size w w' := by
  have hb1 : Below w.heap.size w (w.alloc (.cells #[.int .i64 0, .int .i64 0] 33)) := (Below.refl _ _).alloc (Nat.le_refl _) _
  have T1 := Two.new w 0 0 33
  have hs1 : (w.alloc (.cells #[.int .i64 0, .int .i64 0] 33)).heap.size = w.heap.size + 1 := by simp
  have hg := h.good
  have hgn := hg.n_le
  have HN := Lib.hid (n_any B gv o _ (h.below (hb1.mono hB)))
  rcases mErr_cases o L.length with hz | hz
  · have HV := Lib.hid (mvalid_is (a := la) (cap := lc) hz (h.below (hb1.mono hB)))
    obtain ⟨⟨n, E⟩, rfl, hn⟩ := mErr_zero hz
    have G : GOk n E := hg
    have hml := G.m_le
    have hn' : L.length = n := hn
    cases hh : gHas (some (n, E)) v with
    | true =>
      have he : gaE (some (n, E)) L v = 0 := by rw [gaE, if_pos hz, if_pos hh]
      have HX := Lib.hid (show gaN (some (n, E)) L v t = frN E.length (gainZ E L v.toNat t) by rw [gaN, if_pos he]; rfl)
      have HD := Lib.hid (show gaD (some (n, E)) L v t = frD E.length (gainZ E L v.toNat t) by rw [gaD, if_pos he]; rfl)
      have HE := Lib.hid he
      obtain ⟨x, rfl, hx⟩ := gHas_iff.1 hh
      have hxn : x < n := hx
      rw [Int.toNat_natCast] at HX HD
      have HB := Lib.hid (fun W (hb : Below w.heap.size w W) => begin_any B gv n E la lc LA L W (h.below (hb.mono hB)) (hL.below (hb.mono hB)) (Nat.le_trans hB hb.size) hn' hW)
      have HG := Lib.hid (fun W (hb : Below w.heap.size w W) => h.below (hb.mono hB))
      have HK := Lib.hid (worth_gain G t (show x < L.length by omega))
      have hgb := gain_bd G hn' x t
      have hxi : (0 : Int) ≤ x ∧ (x : Int) < gN (some (n, E)) := by
        have : (x : Int) < (n : Int) := by omega
        exact ⟨by omega, this⟩
      obtain ⟨p, rfl⟩ := h.ptr
      have HW := Lib.hid hW
      have HNn := Lib.hid hn'
      clear h hL hz hn hn' hg hh he hx hW
      go_enter Try.func24, Try.ntmps24
      go_wp2_with fail
      refine HV.out.mono ?_
      rintro e w' ⟨rfl, rfl⟩
      go_wp2_with fail
      refine HN.out.mono ?_
      rintro e w' ⟨rfl, rfl⟩
      go_wp2_with fail
      generalize w.alloc (.cells #[.int .i64 0, .int .i64 0] 33) = W1 at *
      refine (HB.out _ hb1).mono ?_
      rintro e w3 ⟨sb, rfl, hst, hb3⟩
      have T3 := T1.below hb3 (by omega)
      have bel3 := stepB0 hb1 hb3
      have hs3 := hb3.size
      have HS := Lib.hid hst
      clear T1 hb1 hb3 HB HV HN hst
      go_wp2_with fail
      refine (worth_any _ sb p n E L E.length n (dC E L) x w3 HS.out ((HG.out _ bel3).mono (Nat.le_trans hB bel3.size)) HNn.out HW.out hxn).mono ?_
      rintro e w4 ⟨fv, rfl, hc, hb4⟩
      have T4 := T3.below hb4 (by omega)
      have bel4 := stepB0 bel3 hb4
      have hs4 := hb4.size
      have hst4 := HS.out.below hb4
      obtain ⟨caps, rfl, hcl⟩ := worth1_any _ _ sb _ n E L n x t fv w4 hst4 hc G HNn.out HW.out ht hxn
      have HST := Lib.hid hst4
      have HC := Lib.hid hcl
      clear T3 bel3 hb4 HS hst4 hc hcl
      go_wp2_with fail
      refine HC.out.mono ?_
      rintro e w5 ⟨rfl, q, rfl⟩
      rw [HK.out]
      have hb5 : Below w4.heap.size w4 (w4.drewN q) := below_drewN (Below.refl _ _) q
      have T5 := T4.below hb5 (by omega)
      have bel5 := stepB0 bel4 hb5
      have HF := Lib.hid (fraction_any _ sb _ L E.length n (dC E L) (gainZ E L x t) (w4.drewN q) (HST.out.below hb5) hml (by omega) (by omega))
      have hs5 : (w4.drewN q).heap.size = w4.heap.size := rfl
      clear T4 bel4 hb5 HST HC
      generalize w4.drewN q = W5 at *
      go_wp2_with fail
      refine HF.out.mono ?_
      rintro e w6 ⟨rfl, hb6⟩
      have T6 := T5.below hb6 (by omega)
      have bel6 := stepB0 bel5 hb6
      have c0 := T6.c0; have c1 := T6.c1; have z := T6.z
      have T7 := T6.put (frN E.length (gainZ E L x t)) (frD E.length (gainZ E L x t))
      have d0 := T7.c0; have d1 := T7.c1
      clear T5 T6 T7 bel5 hb6
      go_wp2_with fail
      exact bodyPost_ret (v := .tuple #[.agg #[.int .i64 (frN E.length (gainZ E L x t)), .int .i64 (frD E.length (gainZ E L x t))], .int .i64 0]) (by simp [results, Try.results24, go_sem, d0, d1]) rfl ⟨by rw [HX.out, HD.out, HE.out], (bel6.setCell (p := ⟨w.heap.size, 0, none⟩) (Nat.le_refl _) _).setCell (p := ⟨w.heap.size, 1, none⟩) (Nat.le_refl _) _⟩
    | false =>
      have he : gaE (some (n, E)) L v = 3 := by rw [gaE, if_pos hz, hh]; rfl
      have HX := Lib.hid (show gaN (some (n, E)) L v t = 0 by rw [gaN, if_neg (by rw [he]; decide)])
      have HD := Lib.hid (show gaD (some (n, E)) L v t = 0 by rw [gaD, if_neg (by rw [he]; decide)])
      have HE := Lib.hid he
      obtain ⟨p, rfl⟩ := h.ptr
      have hr : v < 0 ∨ gN (some (n, E)) ≤ v := by
        have : ¬ (0 ≤ v ∧ v < gN (some (n, E))) := fun h => by rw [gHas_yes h] at hh; cases hh
        omega
      clear h hL hz hn hn' hg hh he hW
      have c0 := T1.c0; have c1 := T1.c1; have z := T1.z
      by_cases h0 : v < 0
      · go_enter Try.func24, Try.ntmps24
        go_wp2_with fail
        refine HV.out.mono ?_
        rintro e w' ⟨rfl, rfl⟩
        go_wp2_with fail
        exact bodyPost_ret (v := .tuple #[.agg #[.int .i64 0, .int .i64 0], .int .i64 3]) (by simp [results, Try.results24, go_sem]) rfl ⟨by rw [HX.out, HD.out, HE.out], hb1⟩
      · have h1 : gN (some (n, E)) ≤ v := by omega
        clear hr
        go_enter Try.func24, Try.ntmps24
        go_wp2_with fail
        refine HV.out.mono ?_
        rintro e w' ⟨rfl, rfl⟩
        go_wp2_with fail
        refine HN.out.mono ?_
        rintro e w' ⟨rfl, rfl⟩
        go_wp2_with fail
        exact bodyPost_ret (v := .tuple #[.agg #[.int .i64 0, .int .i64 0], .int .i64 3]) (by simp [results, Try.results24, go_sem]) rfl ⟨by rw [HX.out, HD.out, HE.out], hb1⟩
  · have hzz : mErr o L.length ≠ 0 := by omega
    have he : gaE o L v = mErr o L.length := by rw [gaE, if_neg hzz]
    have HX := Lib.hid (show gaN o L v t = 0 by rw [gaN, if_neg (by rw [he]; exact hzz)])
    have HD := Lib.hid (show gaD o L v t = 0 by rw [gaD, if_neg (by rw [he]; exact hzz)])
    have HV := Lib.hid (mvalid_any B gv o la L.length lc _ (h.below (hb1.mono hB)))
    have hb : (mErr o L.length != 0) = true := by simpa using hzz
    rw [he, HX.out, HD.out]
    generalize mErr o L.length = ee at *
    obtain ⟨p, rfl⟩ := h.ptr
    clear h hL hz hg hW he hzz
    go_enter Try.func24, Try.ntmps24
    go_wp2_with fail
    refine HV.out.mono ?_
    rintro e w' ⟨rfl, rfl⟩
    go_wp2_with fail
    exact bodyPost_ret (v := .tuple #[.agg #[.int .i64 0, .int .i64 0], .int .i64 ee]) (by simp [results, Try.results24, go_sem]) rfl ⟨rfl, hb1⟩
end Go.Proofs.Ytemcilmefknbbaa
