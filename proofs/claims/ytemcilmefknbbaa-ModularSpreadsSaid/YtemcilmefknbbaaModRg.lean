/- The document's Greedy. No conditions. -/
import Derived.Test.YtemcilmefknbbaaModGn
import Derived.Deep.LoopGhost
namespace Go.Proofs.Ytemcilmefknbbaa
open Go.RowKit Go.Shelf

/-- what Greedy of the document answers -/
def DRes (o : Option (Nat × List Ed)) (L : List Int) (w : World) (e : Ending) (w' : World) : Prop :=
  Below w.heap.size w w' ∧ ((mErr o L.length ≠ 0 ∧ e = .returned (.tuple #[.slice none 0 0, .int .i64 (mErr o L.length)])) ∨
    (mErr o L.length = 0 ∧ ∃ R a cap A, Greed (gE o) L R ∧ e = .returned (.tuple #[.slice a R.length cap, .int .i64 0]) ∧ Sl 23 .i64 w' w'.heap.size (.slice a R.length cap) R A))
/-- numbers in a row -/
abbrev RowN (w : World) (g m : Nat) (K : List Int) : Prop := Row w g m (fun i => .int .i64 (nth K i))
theorem RowN.sl {w : World} {g cap : Nat} {K : List Int} (h : RowN w g K.length K) : Sl 23 .i64 w w.heap.size (.slice (some ⟨g, 0, none⟩) K.length cap) K (fun j => (⟨g, 0, none⟩ : Addr).add (j * 1)) := by
  refine Rd.addr etI (fun _ => h.lt) fun k hk j hj => ?_
  obtain rfl : j = 0 := by omega
  rw [add_mk, Nat.mul_one, Nat.add_zero, Nat.zero_add, h.cell hk]
  rfl
theorem RowN.set {w : World} {g : Nat} {K : List Int} {v : Nat} (h : RowN w g K.length K) (t : Int) (hv : v < K.length) : RowN (w.setCell ⟨g, v, none⟩ (.int .i64 t)) g K.length (K.set v t) :=
  (Row.set h v (.int .i64 t)).congr fun i _ => by
    rw [nth_set t hv]
    split <;> rfl
theorem adj_oth {n : Nat} {E : List Ed} (G : GOk n E) (K : List Int) {v q : Nat} (hq : q < (adj E v).length) : ∃ o : Nat, oth E (v : Int) ((adj E v).getD q 0) = o ∧ o < n ∧ (nl E K v).take (q + 1) = (nl E K v).take q ++ [nth K o] := by
  have hm : (adj E v)[q] ∈ adj E v := List.getElem_mem _
  have hd : (adj E v).getD q 0 = (adj E v)[q] := by simp [List.getD, hq]
  simp only [adj, adjTo, List.mem_filter, List.mem_range] at hm
  obtain ⟨x, y, hx, hy, h1, h2, h3⟩ := G.nats hm.1
  have key : ∃ o : Nat, oth E (v : Int) ((adj E v).getD q 0) = o ∧ o < n := by
    rw [hd]
    simp only [adj, adjTo]
    unfold oth
    rw [hx, hy]
    split
    · exact ⟨x, rfl, h1⟩
    · exact ⟨y, rfl, h2⟩
  obtain ⟨o, ho, hon⟩ := key
  refine ⟨o, ho, hon, ?_⟩
  have hl : q < (nl E K v).length := by rw [nl, List.length_map]; exact hq
  rw [List.take_succ_eq_append_getElem hl]
  congr 2
  simp only [nl, List.getElem_map]
  rw [← hd, ho, Int.toNat_natCast]

set_option maxRecDepth 100000 in
set_option maxHeartbeats 8000000 in
theorem rgreedy_any (B : Nat) (x : Value) (o : Option (Nat × List Ed)) (la : Option Addr) (lc : Nat) (LA : Nat → Addr) (L : List Int) (w : World) (h : RG w B x o) (hL : Sl 23 .i64 w B (.slice la L.length lc) L LA) (hB : B ≤ w.heap.size) :
    Calls Try.prog 21 #[x, .slice la L.length lc] w (DRes o L w) := by
  have HW := Lib.hid (wrong_any B x o la L.length lc w h)
  by_cases hz : mErr o L.length = 0
  · obtain ⟨⟨n, E⟩, rfl, hn⟩ := mErr_zero hz
    have HN := Lib.hid (show L.length = n from hn)
    have G : GOk n E := by obtain ⟨b, _, h2⟩ := h; exact h2.ok
    have hnl := G.n_le
    have hll : L.length ≤ 4096 := by rw [HN.out]; exact hnl
    have HZ := Lib.hid hz
    rw [hz] at HW
    have HX := Lib.hid h; have HL := Lib.hid hL
    clear hz hn h hL
    go_enter Try.func21, Try.ntmps21
    go_wp2_with fail
    refine HW.out.mono ?_
    rintro e w' ⟨rfl, rfl⟩
    go_wp2_with (at_builtin; refine Hid.out ?_)
    refine Lib.hid ?_
    refine copiedAny etI rfl _ _ rfl HL.out hB (fun i _ j _ => rfl) _ rfl rfl rfl (by omega) (by omega) ?_
    intro g cp w5 hg5 R5 hb5
    have hR5 : RowN w5 g L.length (iter E L 0) := row_copied R5
    clear R5 HW
    go_wp2_with fail
    go_loopg [8] (still E (iter E L 0)) (fun N _ wr => ∃ j : Nat, N = still E (iter E L j) ∧ (∀ i, i < j → (pass E (iter E L i)).2 = true) ∧ RowN wr g L.length (iter E L j) ∧ Below w'.heap.size w' wr)
    case atStart => exact ⟨0, rfl, fun i hi => absurd hi (by omega), hR5, hb5⟩
    case round =>
      obtain ⟨j, hN, hmv, hrow, bel⟩ := hrel
      have HMV := Lib.hid hmv
      have hrow0 : RowN wr g L.length (pTo E (iter E L j) 0).1 := hrow
      have HIL := Lib.hid (iter_len E L j)
      clear hmv hrow
      subst hN
      go_wp2_with fail
      go_loopw [8, 9] (fun ch vv wv => ∃ v : Nat, v ≤ L.length ∧ vv = .int .i64 v ∧ ch = .bool (pTo E (iter E L j) v).2 ∧ RowN wv g L.length (pTo E (iter E L j) v).1 ∧ Below w'.heap.size w' wv) (fun _ vv _ => L.length - (intOf vv).toNat)
      case atStart => exact ⟨0, Nat.zero_le _, rfl, rfl, hrow0, bel⟩
      case round =>
        clear hrow0 bel
        obtain ⟨v, hv, rfl, rfl, hrow, bel⟩ := hrel
        have HK := Lib.hid (show (pTo E (iter E L j) v).1.length = L.length by rw [pTo_len, HIL.out])
        by_cases hlt : v < L.length
        · have hvK : v < (pTo E (iter E L j) v).1.length := by rw [HK.out]; exact hlt
          have hvn : v < n := by rw [← HN.out]; exact hlt
          have c0 : wr.cell? ⟨g, v, none⟩ = some (.int .i64 (nth (pTo E (iter E L j) v).1 v)) := hrow.cell hlt
          have HA := Lib.hid (raround_any B x (some (n, E)) (v : Nat) wr (HX.out.below (bel.mono hB)) (Nat.le_trans hB bel.size))
          have HAd := Lib.hid (show gAdj (some (n, E)) (v : Int) = adj E v by rw [gAdj, if_pos (gHas_yes ⟨by omega, by show (v : Int) < (n : Int); omega⟩), Int.toNat_natCast]; rfl)
          have HP1 := Lib.hid (show (pTo E (iter E L j) (v + 1)).1 = step1 E (pTo E (iter E L j) v).1 v ∧ (pTo E (iter E L j) (v + 1)).2 = ((pTo E (iter E L j) v).2 || moves E (pTo E (iter E L j) v).1 v) from ⟨rfl, rfl⟩)
          have HRow := Lib.hid hrow
          clear hrow
          generalize hK1 : (pTo E (iter E L j) v).1 = K at *
          generalize hK2 : (pTo E (iter E L j) v).2 = ch at *
          clear hK1 hK2
          go_wp2_with fail
          refine HA.out.mono ?_
          rintro e w3 ⟨aa, ca, AA, he, hP, hb3⟩
          rw [HAd.out] at he hP
          subst he
          have hadl : (adj E v).length ≤ 16384 := Nat.le_trans (adjTo_len E E.length v) G.m_le
          have bel3 := bel.trans (hb3.mono bel.size)
          have HRow3 := Lib.hid (show RowN w3 g L.length K from HRow.out.below hb3 HRow.out.lt)
          have HP3 := Lib.hid hP
          have hg3 : g < w3.heap.size := HRow3.out.lt
          have HX3 := Lib.hid (HX.out.below (bel3.mono hB))
          have hB3 := Nat.le_trans hB bel3.size
          clear HA hP hb3 c0
          go_wp2_with fail
          go_loopw [10, 11, 13] (fun bs tt i wv => ∃ q p, q ≤ (adj E v).length ∧ i = .int .i64 (q : Nat) ∧ bs = .int .i64 (Prod.snd p) ∧ tt = .int .i64 (Prod.fst p) ∧ Hid (Best (gainZ E K v) ((nl E K v).take q) p) ∧ Below w3.heap.size w3 wv) (fun _ _ i _ => (adj E v).length - (intOf i).toNat)
          case atStart => exact ⟨0, (nth K v, 0), Nat.zero_le _, rfl, rfl, rfl, Lib.hid (Best.start _ _), Below.refl _ _⟩
          case round =>
            obtain ⟨q, ⟨tt, bs⟩, hq, rfl, rfl, rfl, hBest, belv⟩ := hrel
            by_cases hltq : q < (adj E v).length
            · obtain ⟨o, ho, hon, htk⟩ := adj_oth G K hltq
              have hoL : o < L.length := by rw [HN.out]; exact hon
              have hPv := HP3.out.below belv
              have ix := hPv.ix q hltq
              have d1 : wr.cell? ⟨(AA q).block, (AA q).off + 1, none⟩ = some (.int .i64 (o : Nat)) := by
                have := hPv.cell q hltq 1 (by omega)
                have e : prF (gE (some (n, E))) (v : Int) (adj E v) q 1 = .int .i64 (o : Nat) := by
                  show Value.int .i64 (oth E (v : Int) ((adj E v).getD q 0)) = _
                  rw [ho]
                rw [e] at this; exact this
              have hrv := HRow3.out.below belv hg3
              have c1 : wr.cell? ⟨g, o, none⟩ = some (.int .i64 (nth K o)) := hrv.cell hoL
              have hsl : RowN wr g K.length K := by rw [HK.out]; exact hrv
              have HGn := Lib.hid (rgain0_any wr.heap.size x n E (some ⟨g, 0, none⟩) cp _ K v (nth K o) wr ((HX3.out.below (belv.mono hB3)).mono (Nat.le_trans hB3 belv.size)) hsl.sl (Nat.le_refl _) (by rw [HK.out]; exact HN.out) hvn)
              rw [HK.out] at HGn
              have HSt := Lib.hid (show Best (gainZ E K v) ((nl E K v).take (q + 1)) (stp (gainZ E K v) (tt, bs) (nth K o)) by rw [htk]; exact hBest.out.step _)
              have hstp : stp (gainZ E K v) (tt, bs) (nth K o) = if bs < gainZ E K v (nth K o) ∨ (gainZ E K v (nth K o) = bs ∧ 0 < gainZ E K v (nth K o) ∧ nth K o < tt) then (nth K o, gainZ E K v (nth K o)) else (tt, bs) := rfl
              rw [hstp] at HSt
              clear hPv hrv hsl htk ho hstp
              generalize gainZ E K v (nth K o) = gx at *
              generalize nth K o = lab at *
              rcases Int.lt_trichotomy bs gx with hc | hc | hc
              · have HS2 := Lib.hid (show Best (gainZ E K v) ((nl E K v).take (q + 1)) (lab, gx) by have := HSt.out; rwa [if_pos (.inl hc)] at this)
                have k1 : decide (gx > bs) = true := decide_eq_true hc
                clear HSt
                go_wp2_with fail
                refine HGn.out.mono ?_
                rintro e w6 ⟨rfl, hb6⟩
                go_wp2_with fail
                go_roundw
                case rel => exact ⟨q + 1, (lab, gx), by omega, by go_num, rfl, rfl, HS2.out, belv.trans (hb6.mono belv.size)⟩
                case measure => simp only [intOf]; omega
              · subst hc
                by_cases hp : 0 < bs
                · have k1 : decide (bs > bs) = false := decide_eq_false (by omega)
                  have k2 : (bs == bs) = true := by simp
                  have k3 : decide (bs > 0) = true := decide_eq_true hp
                  by_cases hlab : lab < tt
                  · have HS2 := Lib.hid (show Best (gainZ E K v) ((nl E K v).take (q + 1)) (lab, bs) by have := HSt.out; rwa [if_pos (.inr ⟨rfl, hp, hlab⟩)] at this)
                    have k4 : decide (lab < tt) = true := decide_eq_true hlab
                    clear HSt
                    go_wp2_with fail
                    refine HGn.out.mono ?_
                    rintro e w6 ⟨rfl, hb6⟩
                    go_wp2_with fail
                    go_roundw
                    case rel => exact ⟨q + 1, (lab, bs), by omega, by go_num, rfl, rfl, HS2.out, belv.trans (hb6.mono belv.size)⟩
                    case measure => simp only [intOf]; omega
                  · have HS2 := Lib.hid (show Best (gainZ E K v) ((nl E K v).take (q + 1)) (tt, bs) by have := HSt.out; rwa [if_neg (by omega)] at this)
                    have k4 : decide (lab < tt) = false := decide_eq_false hlab
                    clear HSt
                    go_wp2_with fail
                    refine HGn.out.mono ?_
                    rintro e w6 ⟨rfl, hb6⟩
                    go_wp2_with fail
                    go_roundw
                    case rel => exact ⟨q + 1, (tt, bs), by omega, by go_num, rfl, rfl, HS2.out, belv.trans (hb6.mono belv.size)⟩
                    case measure => simp only [intOf]; omega
                · have HS2 := Lib.hid (show Best (gainZ E K v) ((nl E K v).take (q + 1)) (tt, bs) by have := HSt.out; rwa [if_neg (by omega)] at this)
                  have k1 : decide (bs > bs) = false := decide_eq_false (by omega)
                  have k2 : (bs == bs) = true := by simp
                  have k3 : decide (bs > 0) = false := decide_eq_false hp
                  clear HSt
                  go_wp2_with fail
                  refine HGn.out.mono ?_
                  rintro e w6 ⟨rfl, hb6⟩
                  go_wp2_with fail
                  go_roundw
                  case rel => exact ⟨q + 1, (tt, bs), by omega, by go_num, rfl, rfl, HS2.out, belv.trans (hb6.mono belv.size)⟩
                  case measure => simp only [intOf]; omega
              · have HS2 := Lib.hid (show Best (gainZ E K v) ((nl E K v).take (q + 1)) (tt, bs) by have := HSt.out; rwa [if_neg (by omega)] at this)
                have k1 : decide (gx > bs) = false := decide_eq_false (by omega)
                have k2 : (gx == bs) = false := by simp; omega
                clear HSt
                go_wp2_with fail
                refine HGn.out.mono ?_
                rintro e w6 ⟨rfl, hb6⟩
                go_wp2_with fail
                go_roundw
                case rel => exact ⟨q + 1, (tt, bs), by omega, by go_num, rfl, rfl, HS2.out, belv.trans (hb6.mono belv.size)⟩
                case measure => simp only [intOf]; omega
            · have hqe : q = (adj E v).length := by omega
              have hB2 : Best (gainZ E K v) (nl E K v) (tt, bs) := by
                have := hBest.out
                rwa [List.take_of_length_le (by rw [nl, List.length_map, hqe]; exact Nat.le_refl _)] at this
              obtain ⟨hs1, hs2⟩ := hB2.same (bv_best E K v) (fun _ => Iff.rfl)
              have hs1 : bs = (bv E K v).2 := hs1
              have hs2 : 0 < bs → tt = (bv E K v).1 := hs2
              have hrv := HRow3.out.below belv hg3
              have belw := bel3.trans (belv.mono bel3.size)
              by_cases hp : 0 < bs
              · have HS1 := Lib.hid (show step1 E K v = K.set v tt by rw [step1, if_pos (by omega), hs2 hp])
                have HM := Lib.hid (show moves E K v = true by unfold moves; exact decide_eq_true (by omega))
                have c1 : wr.cell? ⟨g, v, none⟩ = some (.int .i64 (nth K v)) := hrv.cell hlt
                have z1 : wr.frozen? ⟨g, v, none⟩ = false := hrv.frozen v
                have HRs := Lib.hid (show RowN (wr.setCell ⟨g, v, none⟩ (.int .i64 tt)) g L.length (K.set v tt) by
                  have h1 : RowN wr g K.length K := by rw [HK.out]; exact hrv
                  have := h1.set tt (by rw [HK.out]; exact hlt)
                  rw [HK.out] at this; exact this)
                have hgw : w'.heap.size ≤ g := hg5
                have bels : Below w'.heap.size w' (wr.setCell ⟨g, v, none⟩ (.int .i64 tt)) := belw.setCell hgw _
                have k1 : decide (bs > 0) = true := decide_eq_true hp
                clear hs1 hs2 hB2 hrv hBest
                go_wp2_with fail
                go_roundw
                case rel => exact ⟨v + 1, by omega, by go_num, by rw [HP1.out.2, HM.out]; simp, by rw [HP1.out.1, HS1.out]; exact HRs.out, bels⟩
                case measure => simp only [intOf]; omega
              · have HS1 := Lib.hid (show step1 E K v = K by rw [step1, if_neg (by omega)])
                have HM := Lib.hid (show moves E K v = false by unfold moves; exact decide_eq_false (by omega))
                have HRv := Lib.hid hrv
                have k1 : decide (bs > 0) = false := decide_eq_false hp
                clear hs1 hs2 hB2 hrv hBest
                go_wp2_with fail
                go_roundw
                case rel => exact ⟨v + 1, by omega, by go_num, by rw [HP1.out.2, HM.out]; simp, by rw [HP1.out.1, HS1.out]; exact HRv.out, belw⟩
                case measure => simp only [intOf]; omega
        · have hve : v = L.length := by omega
          have HPs := Lib.hid (show pTo E (iter E L j) v = pass E (iter E L j) by rw [pass, HIL.out, hve])
          rw [HPs.out]
          rw [HPs.out] at hrow
          have hd : decide ((v : Int) < (L.length : Int)) = false := decide_eq_false (by omega)
          cases hq : (pass E (iter E L j)).2 with
          | true =>
            have HA := Lib.hid (show ∀ i, i < j + 1 → (pass E (iter E L i)).2 = true from fun i hi => by
              by_cases e : i = j
              · rw [e]; exact hq
              · exact HMV.out i (by omega))
            have HLt := Lib.hid (show still E (iter E L (j + 1)) < still E (iter E L j) from still_lt hq)
            have HRv := Lib.hid (show RowN wr g L.length (iter E L (j + 1)) from hrow)
            clear hrow hq
            go_wp2_with fail
            go_roundg (still E (iter E L (j + 1)))
            case measure => exact HLt.out
            case rel => exact ⟨j + 1, rfl, HA.out, HRv.out, bel⟩
          | false =>
            rw [pass_same hq] at hrow
            have HGr := Lib.hid (show Greed E L (iter E L j) from ⟨j, HMV.out, hq, rfl⟩)
            have hsl : RowN wr g (iter E L j).length (iter E L j) := by rw [HIL.out]; exact hrow
            have HSl := Lib.hid (hsl.sl (cap := cp))
            clear hrow hq hsl
            go_wp2_with fail
            go_ret2
            exact ⟨bel, .inr ⟨HZ.out, iter E L j, some ⟨g, 0, none⟩, cp, _, HGr.out, by rw [HIL.out]; rfl, HSl.out⟩⟩
  · obtain ⟨ee, hee⟩ : ∃ ee, mErr o L.length = ee := ⟨_, rfl⟩
    have HE2 := Lib.hid hee
    rw [hee] at HW hz
    have hb : (ee != 0) = true := by simpa using hz
    have HZ := Lib.hid hz
    clear hz hee h hL
    go_enter Try.func21, Try.ntmps21
    go_wp2_with fail
    refine HW.out.mono ?_
    rintro e w1 ⟨rfl, rfl⟩
    go_wp2_with fail
    go_ret2
    exact ⟨Below.refl _ _, .inl ⟨by rw [HE2.out]; exact HZ.out, by rw [HE2.out]; rfl⟩⟩
end Go.Proofs.Ytemcilmefknbbaa
