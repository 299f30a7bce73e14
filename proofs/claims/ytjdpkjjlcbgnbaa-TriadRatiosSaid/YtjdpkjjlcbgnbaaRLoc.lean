/- The walks of the document's pairs, ratio, Local and Global. Conditions: the graph was made by the document's New, or it is nil; the numbers of ratio are at most 2^40 in size. -/
import Derived.Test.YtjdpkjjlcbgnbaaCntW
import Derived.Test.YtjdpkjjlcbgnbaaRRed
namespace Go.Proofs.Ytjdpkjjlcbgnbaa
open Go.RowKit Go.Shelf

/-- how many of the first vertices are joined with one -/
def pcTo (o : Option (Nat × List Ed)) (v : Int) (i : Nat) : Nat := ((List.range i).filter fun (y : Nat) => nearB (gE o) (y : Int) v).length
theorem pcTo_le (o : Option (Nat × List Ed)) (v : Int) (i : Nat) : pcTo o v i ≤ i := Nat.le_trans (List.length_filter_le _ _) (by simp)
theorem pcTo_succ (o : Option (Nat × List Ed)) (v : Int) (i : Nat) : pcTo o v (i + 1) = pcTo o v i + (nearB (gE o) (i : Int) v).toNat := by
  unfold pcTo
  rw [List.range_succ, List.filter_append, List.length_append, List.filter_cons, List.filter_nil]
  cases nearB (gE o) (i : Int) v <;> simp
theorem pcTo_end (o : Option (Nat × List Ed)) (v : Int) : pcTo o v (gN o) = (nbr o v).length := by
  unfold pcTo nbr
  rw [List.length_map]
  congr 2
  funext y
  exact nearB_symm _ _ _

set_option maxRecDepth 100000 in
set_option maxHeartbeats 1000000 in
theorem rpairs_any (B : Nat) (x : Value) (o : Option (Nat × List Ed)) (v : Int) (w : World) (h : RG w B x o) (hB : B ≤ w.heap.size) :
    Calls Try.prog 40 #[x, .int .i64 v] w fun e w' => e = .returned (.int .i64 (pr (nbr o v).length)) ∧ Below w.heap.size w w' := by
  have hgn := h.good.n_le
  have H := Lib.hid h
  clear h
  go_enter Try.func40, Try.ntmps40
  go_wp2_with fail
  go_loopw [5, 6] (fun s i wr => ∃ k : Nat, k ≤ gN o ∧ i = .int .i64 k ∧ s = .int .i64 (pcTo o v k : Nat) ∧ Below w.heap.size w wr) (fun _ i _ => gN o - (intOf i).toNat)
  case atStart => exact ⟨0, Nat.zero_le _, rfl, rfl, Below.refl _ _⟩
  case round =>
    obtain ⟨k, hk, rfl, rfl, bel⟩ := hrel
    have hle := pcTo_le o v k
    have HC := Lib.hid (rcount_any B x o wr (H.out.below (bel.mono hB)))
    have hs := bel.size
    by_cases hlt : k < gN o
    · have hsc := pcTo_succ o v k
      have HN := Lib.hid (rnear_any B x o (k : Int) v wr (H.out.below (bel.mono hB)) (by omega))
      go_wp2_with fail
      refine HC.out.mono ?_
      rintro e w3 ⟨rfl, rfl⟩
      clear HC
      cases hq : nearB (gE o) (k : Int) v with
      | true =>
        rw [hq] at hsc HN
        have HS := Lib.hid (show pcTo o v (k + 1) = pcTo o v k + 1 from hsc)
        clear hsc hq
        go_wp2_with fail
        refine HN.out.mono ?_
        rintro e w4 ⟨rfl, hb4⟩
        have bel4 := stepB0 bel hb4
        go_wp2_with fail
        go_roundw
        case rel => exact ⟨k + 1, by omega, by go_num, by rw [HS.out]; go_num, bel4⟩
        case measure => simp only [intOf]; omega
      | false =>
        rw [hq] at hsc HN
        have HS := Lib.hid (show pcTo o v (k + 1) = pcTo o v k from hsc)
        clear hsc hq
        go_wp2_with fail
        refine HN.out.mono ?_
        rintro e w4 ⟨rfl, hb4⟩
        have bel4 := stepB0 bel hb4
        go_wp2_with fail
        go_roundw
        case rel => exact ⟨k + 1, by omega, by go_num, by rw [HS.out], bel4⟩
        case measure => simp only [intOf]; omega
    · obtain rfl : k = gN o := by omega
      have HE := Lib.hid (pcTo_end o v)
      have hb := pr_bd (n := pcTo o v (gN o)) (by omega)
      go_wp2_with fail
      refine HC.out.mono ?_
      rintro e w3 ⟨rfl, rfl⟩
      go_wp2_with fail
      go_ret
      exact ⟨by rw [← HE.out]; rfl, bel⟩

theorem Two.put {w : World} {b : Nat} {x y : Int} (h : Two w b x y) (x' y' : Int) : Two ((w.setCell ⟨b, 0, none⟩ (.int .i64 x')).setCell ⟨b, 1, none⟩ (.int .i64 y')) b x' y' := by
  have c0 := h.c0; have c1 := h.c1; have hz := h.z
  exact ⟨by go_simp, by go_simp, fun j => by have := hz j; go_simp⟩
set_option maxRecDepth 100000 in
set_option maxHeartbeats 1000000 in
theorem rratio_any (p q : Int) (w : World) (h0 : -1099511627776 ≤ p) (h1 : p ≤ 1099511627776) (hd : 0 ≤ q) (hd1 : q ≤ 1099511627776) :
    Calls Try.prog 39 #[.int .i64 p, .int .i64 q] w fun e w' => e = .returned (.agg #[.int .i64 (raN p q), .int .i64 (raD p q)]) ∧ Below w.heap.size w w' := by
  by_cases hq : q = 0
  · subst hq
    go_enter Try.func39, Try.ntmps39
    go_wp2_with fail
    exact bodyPost_ret (v := .agg #[.int .i64 0, .int .i64 1]) (by simp [results, Try.results39, go_sem]) rfl ⟨rfl, (Below.refl _ _).alloc (Nat.le_refl _) _⟩
  · have hq0 : (q == 0) = false := by simp [hq]
    have HN := Lib.hid (show raN p q = rN p q from if_neg hq)
    have HD := Lib.hid (show raD p q = rD p q from if_neg hq)
    have hqp : 0 < q := by omega
    clear hq
    go_enter Try.func39, Try.ntmps39
    go_wp2_with fail
    refine (rreduce_any p q _ h0 h1 hqp hd1).mono ?_
    rintro e w1 ⟨rfl, hb⟩
    have T1 := (Two.new w 0 0 35).below hb (by simp)
    have hbel : Below w.heap.size w w1 := ((Below.refl _ _).alloc (Nat.le_refl _) _).trans (hb.mono (by simp))
    have hbs := hb.size
    have hlt : w.heap.size < w1.heap.size := by simp at hbs; omega
    have c0 := T1.c0; have c1 := T1.c1; have z := T1.z
    have T2 := (T1.put (rN p q) (rD p q)).below (w' := ((w1.setCell ⟨w.heap.size, 0, none⟩ (.int .i64 (rN p q))).setCell ⟨w.heap.size, 1, none⟩ (.int .i64 (rD p q))).alloc (.cells #[.int .i64 (rN p q), .int .i64 (rD p q)] 35)) (B := w1.heap.size) ((Below.refl _ _).alloc (by simp) _) hlt
    have d0 := T2.c0; have d1 := T2.c1
    clear hb hbs T1 T2
    go_wp2_with fail
    exact bodyPost_ret (v := .agg #[.int .i64 (rN p q), .int .i64 (rD p q)]) (by simp [results, Try.results39, go_sem, d0, d1]) rfl ⟨by rw [HN.out, HD.out], ((hbel.setCell (p := ⟨w.heap.size, 0, none⟩) (Nat.le_refl _) _).setCell (p := ⟨w.heap.size, 1, none⟩) (Nat.le_refl _) _).alloc (by simp; omega) _⟩
theorem rratio_is {p q a b : Int} (w : World) (ha : a = raN p q) (hb : b = raD p q) (h0 : -1099511627776 ≤ p) (h1 : p ≤ 1099511627776) (hd : 0 ≤ q) (hd1 : q ≤ 1099511627776) :
    Calls Try.prog 39 #[.int .i64 p, .int .i64 q] w fun e w' => e = .returned (.agg #[.int .i64 a, .int .i64 b]) ∧ Below w.heap.size w w' := by
  subst ha; subst hb; exact rratio_any p q w h0 h1 hd hd1

set_option maxRecDepth 100000 in
set_option maxHeartbeats 2000000 in
theorem rlocal_any (B : Nat) (x : Value) (o : Option (Nat × List Ed)) (v : Int) (w : World) (h : RG w B x o) (hB : B ≤ w.heap.size) :
    Calls Try.prog 20 #[x, .int .i64 v] w fun e w' => e = .returned (.tuple #[.agg #[.int .i64 (lcN o v), .int .i64 (lcD o v)], .int .i64 (lcE o v)]) ∧ Below w.heap.size w w' := by
  have hG := h.good
  have hgn := hG.n_le
  have hb1 : Below w.heap.size w (w.alloc (.cells #[.int .i64 0, .int .i64 0] 35)) := (Below.refl _ _).alloc (Nat.le_refl _) _
  have T1 := Two.new w 0 0 35
  have h1 := h.below (hb1.mono hB)
  have H1 := Lib.hid h1
  have hs1 : (w.alloc (.cells #[.int .i64 0, .int .i64 0] 35)).heap.size = w.heap.size + 1 := by simp
  cases o with
  | none =>
    have HN := Lib.hid (show lcN none v = 0 by rw [lcN, show gHas none v = false from gHas_no (show ¬ (0 ≤ v ∧ v < ((0 : Nat) : Int)) by omega)]; rfl)
    have HD := Lib.hid (show lcD none v = 0 by rw [lcD, show gHas none v = false from gHas_no (show ¬ (0 ≤ v ∧ v < ((0 : Nat) : Int)) by omega)]; rfl)
    have HE := Lib.hid (show lcE none v = 1 from rfl)
    obtain rfl : x = .pointer none := h
    clear h1 H1 hG T1 hs1
    go_enter Try.func20, Try.ntmps20
    go_wp2_with fail
    exact bodyPost_ret (v := .tuple #[.agg #[.int .i64 0, .int .i64 0], .int .i64 1]) (by simp [results, Try.results20, go_sem]) rfl ⟨by rw [HN.out, HD.out, HE.out], hb1⟩
  | some y =>
    obtain ⟨n, E⟩ := y
    have hV := Lib.hid (rhas_any B x (some (n, E)) v _ h1)
    have HF := Lib.hid h
    obtain ⟨b, rfl, hR⟩ := h
    have c0 : (w.alloc (.cells #[.int .i64 0, .int .i64 0] 35)).cell? ⟨b, 0, none⟩ = some (.bool true) := (hb1.cell (Nat.lt_of_lt_of_le hR.lt hB)).trans hR.made
    clear h1 hR
    cases hh : gHas (some (n, E)) v with
    | false =>
      rw [hh] at hV
      have HN := Lib.hid (show lcN (some (n, E)) v = 0 by rw [lcN, hh]; rfl)
      have HD := Lib.hid (show lcD (some (n, E)) v = 0 by rw [lcD, hh]; rfl)
      have HE := Lib.hid (show lcE (some (n, E)) v = 3 by simp only [lcE, Option.isSome_some, if_true, hh, Bool.false_eq_true, if_false])
      clear hh
      go_enter Try.func20, Try.ntmps20
      go_wp2_with fail
      refine hV.out.mono ?_
      rintro e w' ⟨rfl, rfl⟩
      go_wp2_with fail
      exact bodyPost_ret (v := .tuple #[.agg #[.int .i64 0, .int .i64 0], .int .i64 3]) (by simp [results, Try.results20, go_sem]) rfl ⟨by rw [HN.out, HD.out, HE.out], hb1⟩
    | true =>
      rw [hh] at hV
      have HE := Lib.hid (show lcE (some (n, E)) v = 0 by simp only [lcE, Option.isSome_some, if_true, hh])
      have HN := Lib.hid (show lcN (some (n, E)) v = raN ((atS (some (n, E)) v : Nat) / 2) (pr (nbr (some (n, E)) v).length) by rw [lcN, if_pos hh])
      have HD := Lib.hid (show lcD (some (n, E)) v = raD ((atS (some (n, E)) v : Nat) / 2) (pr (nbr (some (n, E)) v).length) by rw [lcD, if_pos hh])
      have HA := Lib.hid (at_cnt hG v)
      have ha := atS_le hG v
      have hnl := nbr_len (some (n, E)) v
      have hp := pr_le (n := (nbr (some (n, E)) v).length) (by omega)
      have HC := Lib.hid (fun W (hW : Below w.heap.size w W) (hs : w.heap.size < W.heap.size) => rat_any B _ (some (n, E)) v W (HF.out.below (hW.mono hB)) (by omega))
      have HP := Lib.hid (fun W (hW : Below w.heap.size w W) (hs : w.heap.size < W.heap.size) => rpairs_any B _ (some (n, E)) v W (HF.out.below (hW.mono hB)) (by omega))
      clear hh HF H1 hG hgn hnl
      rw [HA.out] at HN HD
      have hc : cntTo (tri (some (n, E))) v (tri (some (n, E))).length ≤ 16777216 := by have := HA.out; omega
      clear HA ha
      generalize cntTo (tri (some (n, E))) v (tri (some (n, E))).length = C at *
      generalize (nbr (some (n, E)) v).length = k at *
      generalize lcN (some (n, E)) v = L1 at *
      generalize lcD (some (n, E)) v = L2 at *
      generalize lcE (some (n, E)) v = L3 at *
      have HQ := Lib.hid (fun W => rratio_is W HN.out HD.out (by omega) (by omega) hp.1 (by omega))
      clear HN HD
      go_enter Try.func20, Try.ntmps20
      go_wp2_with fail
      generalize w.alloc (.cells #[.int .i64 0, .int .i64 0] 35) = W1 at *
      refine hV.out.mono ?_
      rintro e w' ⟨rfl, rfl⟩
      go_wp2_with fail
      refine (HC.out _ hb1 (by omega)).mono ?_
      rintro e w2 ⟨rfl, hb2⟩
      have T2 := T1.below hb2 (by omega)
      have bel2 := stepB0 hb1 hb2
      have hs2 := hb2.size
      clear T1 hb1 hb2 hV c0
      go_wp2_with fail
      refine (HP.out _ bel2 (by omega)).mono ?_
      rintro e w3 ⟨rfl, hb3⟩
      have T3 := T2.below hb3 (by omega)
      have bel3 := stepB0 bel2 hb3
      have hs3 := hb3.size
      clear T2 bel2 hb3
      go_wp2_with fail
      refine (HQ.out _).mono ?_
      rintro e w4 ⟨rfl, hb4⟩
      have T4 := T3.below hb4 (by omega)
      have bel4 := stepB0 bel3 hb4
      have c0 := T4.c0; have c1 := T4.c1; have z := T4.z
      clear T3 T4 bel3 hb4
      go_wp2_with fail
      exact bodyPost_ret (v := .tuple #[.agg #[.int .i64 L1, .int .i64 L2], .int .i64 0]) (by simp [results, Try.results20, go_sem, c0, c1]) rfl ⟨by rw [HE.out], (bel4.setCell (p := ⟨w.heap.size, 0, none⟩) (Nat.le_refl _) _).setCell (p := ⟨w.heap.size, 1, none⟩) (Nat.le_refl _) _⟩

set_option maxRecDepth 100000 in
set_option maxHeartbeats 2000000 in
theorem rglobal_any (B : Nat) (x : Value) (o : Option (Nat × List Ed)) (w : World) (h : RG w B x o) (hB : B ≤ w.heap.size) :
    Calls Try.prog 22 #[x] w fun e w' => e = .returned (.tuple #[.agg #[.int .i64 (glN o), .int .i64 (glD o)], .int .i64 (glE o)]) ∧ Below w.heap.size w w' := by
  have hG := h.good
  have hgn := hG.n_le
  have hb1 : Below w.heap.size w (w.alloc (.cells #[.int .i64 0, .int .i64 0] 35)) := (Below.refl _ _).alloc (Nat.le_refl _) _
  have T1 := Two.new w 0 0 35
  have hs1 : (w.alloc (.cells #[.int .i64 0, .int .i64 0] 35)).heap.size = w.heap.size + 1 := by simp
  cases o with
  | none =>
    have HN := Lib.hid (show glN none = 0 from rfl)
    have HD := Lib.hid (show glD none = 0 from rfl)
    have HE := Lib.hid (show glE none = 1 from rfl)
    obtain rfl : x = .pointer none := h
    clear hG T1 hs1
    go_enter Try.func22, Try.ntmps22
    go_wp2_with fail
    exact bodyPost_ret (v := .tuple #[.agg #[.int .i64 0, .int .i64 0], .int .i64 1]) (by simp [results, Try.results22, go_sem]) rfl ⟨by rw [HN.out, HD.out, HE.out], hb1⟩
  | some y =>
    obtain ⟨n, E⟩ := y
    have HF := Lib.hid h
    obtain ⟨b, rfl, hR⟩ := h
    have c0 : (w.alloc (.cells #[.int .i64 0, .int .i64 0] 35)).cell? ⟨b, 0, none⟩ = some (.bool true) := (hb1.cell (Nat.lt_of_lt_of_le hR.lt hB)).trans hR.made
    have HN := Lib.hid (show glN (some (n, E)) = raN (3 * (tri (some (n, E))).length) (prTo (some (n, E)) (gN (some (n, E)))) from rfl)
    have HD := Lib.hid (show glD (some (n, E)) = raD (3 * (tri (some (n, E))).length) (prTo (some (n, E)) (gN (some (n, E)))) from rfl)
    have HE := Lib.hid (show glE (some (n, E)) = 0 from rfl)
    have htl := tri_len hG
    have hpe := prTo_bd hG (gN (some (n, E)))
    have HC := Lib.hid (fun W (hW : Below w.heap.size w W) (hs : w.heap.size < W.heap.size) => rtcount_any B _ (some (n, E)) W (HF.out.below (hW.mono hB)) (by omega))
    have HP := Lib.hid (fun v W (hW : Below w.heap.size w W) (hs : w.heap.size < W.heap.size) => rpairs_any B _ (some (n, E)) v W (HF.out.below (hW.mono hB)) (by omega))
    have HM := Lib.hid (fun W (hW : Below w.heap.size w W) => rcount_any B _ (some (n, E)) W (HF.out.below (hW.mono hB)))
    generalize glN (some (n, E)) = L1 at *
    generalize glD (some (n, E)) = L2 at *
    generalize glE (some (n, E)) = L3 at *
    generalize (tri (some (n, E))).length = C at *
    have HQ := Lib.hid (fun W => rratio_is W HN.out HD.out (by omega) (by omega) hpe.1 (by omega))
    clear HN HD hR HF
    go_enter Try.func22, Try.ntmps22
    go_wp2_with fail
    generalize w.alloc (.cells #[.int .i64 0, .int .i64 0] 35) = W1 at *
    clear c0
    go_loopw [4, 5] (fun t i wr => ∃ k : Nat, k ≤ gN (some (n, E)) ∧ i = .int .i64 k ∧ t = .int .i64 (prTo (some (n, E)) k) ∧ Two wr w.heap.size 0 0 ∧ Below w.heap.size w wr ∧ w.heap.size < wr.heap.size) (fun _ i _ => gN (some (n, E)) - (intOf i).toNat)
    case atStart => exact ⟨0, Nat.zero_le _, rfl, rfl, T1, hb1, by omega⟩
    case round =>
      clear T1 hb1 hs1
      obtain ⟨k, hk, rfl, rfl, T, bel, hsz⟩ := hrel
      have hp := prTo_bd hG k
      by_cases hlt : k < gN (some (n, E))
      · have hnl := nbr_len (some (n, E)) (k : Int)
        have hp2 := pr_le (n := (nbr (some (n, E)) (k : Int)).length) (by omega)
        go_wp2_with fail
        refine (HM.out _ bel).mono ?_
        rintro e w3 ⟨rfl, rfl⟩
        go_wp2_with fail
        refine (HP.out _ _ bel hsz).mono ?_
        rintro e w4 ⟨rfl, hb4⟩
        have T4 := T.below hb4 (by omega)
        have bel4 := stepB0 bel hb4
        have hs4 := hb4.size
        clear T bel hb4
        go_wp2_with fail
        go_roundw
        case rel => exact ⟨k + 1, by omega, by go_num, rfl, T4, bel4, by omega⟩
        case measure => simp only [intOf]; omega
      · obtain rfl : k = gN (some (n, E)) := by omega
        go_wp2_with fail
        refine (HM.out _ bel).mono ?_
        rintro e w3 ⟨rfl, rfl⟩
        go_wp2_with fail
        refine (HC.out _ bel hsz).mono ?_
        rintro e w4 ⟨rfl, hb4⟩
        have T4 := T.below hb4 (by omega)
        have bel4 := stepB0 bel hb4
        have hs4 := hb4.size
        clear T bel hb4
        go_wp2_with fail
        refine (HQ.out _).mono ?_
        rintro e w5 ⟨rfl, hb5⟩
        have T5 := T4.below hb5 (by omega)
        have bel5 := stepB0 bel4 hb5
        have c0 := T5.c0; have c1 := T5.c1; have z := T5.z
        clear T4 T5 bel4 hb5
        go_wp2_with fail
        exact bodyPost_ret (v := .tuple #[.agg #[.int .i64 L1, .int .i64 L2], .int .i64 0]) (by simp [results, Try.results22, go_sem, c0, c1]) rfl ⟨by rw [HE.out], (bel5.setCell (p := ⟨w.heap.size, 0, none⟩) (Nat.le_refl _) _).setCell (p := ⟨w.heap.size, 1, none⟩) (Nat.le_refl _) _⟩
end Go.Proofs.Ytjdpkjjlcbgnbaa
