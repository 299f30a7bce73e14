/- The walk of kruskal.Forest. Conditions: the edges are given as cells. -/
import Derived.Test.YtpbgophogneecaaGreatSortF
import Derived.Test.YtpbgophogneecaaGreatDsa
import Derived.Test.YtpbgophogneecaaGreatPl
import Derived.Test.YtpbgophogneecaaGreatGraph
import Derived.Test.YtpbgophogneecaaGreatMe
import Derived.Test.YtpbgophogneecaaGreatRcc
namespace Go.Proofs.YtpbgophogneecaaGreat
open Go.RowKit

set_option maxRecDepth 100000 in
set_option maxHeartbeats 4000000 in
theorem forest_any (B : Nat) (a : Option Addr) (cap : Nat) (A : Nat → Addr) (n : Int) (E : List Ed) (w : World) (hS : ES w B (.slice a E.length cap) E A) (hB : B ≤ w.heap.size) (hm : E.length ≤ 9223372036854775807) :
    Calls Tryz.prog 38 #[.int .i64 n, .slice a E.length cap] w (ForRes n E w) := by
  have HN := Lib.hid (gnew_any B a cap A n E w hS hB hm)
  have HS := Lib.hid hS
  clear hS
  go_enter Tryz.func38, Tryz.ntmps38
  go_wp2_with fail
  refine HN.out.mono ?_
  clear HN
  rintro e w1 ⟨hb1, ⟨h0, rfl⟩ | ⟨b, k, rfl, G, rfl, -⟩⟩
  · obtain ⟨ee, hee⟩ : ∃ ee, gErr n E = ee := ⟨_, rfl⟩
    have H0 := Lib.hid h0; have HE := Lib.hid hee
    rw [hee] at h0 ⊢
    have hz : (ee != 0) = true := by simpa using h0
    clear h0 hee
    go_wp2_with fail
    go_ret2
    exact ⟨hb1, .inl ⟨H0.out, by rw [HE.out]; rfl⟩⟩
  · have hkn := G.n_le
    have hml := G.m_le
    have HG := Lib.hid G
    have HD := Lib.hid (dnew_any k w1 (by omega))
    have hB1 : B ≤ w1.heap.size := Nat.le_trans hB hb1.size
    clear G
    go_wp2_with fail
    refine HD.out.mono ?_
    rintro e w2 ⟨d, rfl, hD, hb2⟩
    have bel2 := hb1.trans (hb2.mono hb1.size)
    have HO := Lib.hid (order_any B E a cap A w2 (HS.out.below (bel2.mono hB)) (Nat.le_trans hB bel2.size) (by omega))
    have HDS := Lib.hid hD
    clear HD hD
    go_wp2_with fail
    refine HO.out.mono ?_
    rintro e w3 ⟨o, ob, ho, rfl, hob, hro, hb3⟩
    have bel3 := bel2.trans (hb3.mono bel2.size)
    have HOr := Lib.hid ho
    have hD3 : DS w3 ⟨w1.heap.size, w2.heap.size⟩ d k (labO E (o.take 0)) := HDS.out.below hb3
    have hol : o.length = E.length := ho.len
    have HOl := Lib.hid hol
    have HRo := Lib.hid hro
    have hs23 := hb3.size
    have hs12 := hb2.size
    have hs01 := hb1.size
    have hdl := HDS.out.lt
    have HRl := hro.lt
    clear HO HDS ho hro hol
    go_wp2_with fail
    go_loopw [10, 35] (fun fv i wr => ∃ q : Nat, q ≤ E.length ∧ i = .int .i64 (q : Nat) ∧ Hid (OwnI w3.heap.size fv (frs E (o.take q)) wr) ∧ Hid (DS wr ⟨w1.heap.size, w2.heap.size⟩ d k (labO E (o.take q))) ∧ Hid (Row wr ob E.length (fun i => .int .i64 (o.getD i 0 : Nat))) ∧ Below w1.heap.size w1 wr ∧ w3.heap.size ≤ wr.heap.size) (fun _ i _ => E.length - (intOf i).toNat)
    case atStart => exact ⟨0, Nat.zero_le _, rfl, Lib.hid (World.ownsRow_nil _ _ _ _), Lib.hid hD3, HRo, hb2.trans (hb3.mono hs12), Nat.le_refl _⟩
    case round =>
      clear hD3
      obtain ⟨q, hq, rfl, HF, HD, HR, bel, hsz⟩ := hrel
      by_cases hlt : q < E.length
      · obtain ⟨x, hx⟩ : ∃ x, o.getD q 0 = x := ⟨_, rfl⟩
        have hmem : x ∈ o := by rw [← hx, List.getD_eq_getElem?_getD, List.getElem?_eq_getElem (by rw [HOl.out]; exact hlt)]; exact List.getElem_mem _
        have hxl : x < E.length := HOr.out.mem.1 hmem
        have c1 := HR.out.cell hlt
        have hqi : (0 : Int) ≤ q ∧ (q : Int) < E.length := by omega
        rw [hx] at c1
        obtain ⟨u, v, hu, hv, hun, hvn, huv⟩ := HG.out.nats hxl
        have hEr := HS.out.below ((hb1.trans (bel.mono hs01)).mono hB)
        have i1 := hEr.ix x hxl
        have c2 := ES.u hEr hxl
        have c3 := ES.v hEr hxl
        rw [hu] at c2; rw [hv] at c3
        have HU := Lib.hid (union_any ⟨w1.heap.size, w2.heap.size⟩ d k (labO E (o.take q)) u v wr.drew (HD.out.drew) hun hvn (by omega))
        have HX := Lib.hid hx
        have HUV := Lib.hid (show edP E x = (u, v) by unfold edP; rw [hu, hv]; simp)
        have HSB : ∀ w4, Inner ⟨w1.heap.size, w2.heap.size⟩ wr.drew w4 → w4.cell? (A x) = some (.int .i64 (u : Nat)) ∧ w4.cell? ⟨(A x).block, (A x).off + 1, none⟩ = some (.int .i64 (v : Nat)) := fun w4 hi => by
          have hE4 := HS.out.below ((hb1.trans ((bel.drew.trans hi.bel).mono hs01)).mono hB)
          have h2 := ES.u hE4 hxl
          have h3 := ES.v hE4 hxl
          rw [hu] at h2; rw [hv] at h3
          exact ⟨h2, h3⟩
        clear hEr hmem hu hv huv
        have HS : wr.drew.cell? (A x) = some (.int .i64 (u : Nat)) ∧ wr.drew.cell? ⟨(A x).block, (A x).off + 1, none⟩ = some (.int .i64 (v : Nat)) := ⟨c2, c3⟩
        clear c2 c3
        go_wp2_with fail
        refine region_plain (fun w' => w'.cell? (A x) = some (.int .i64 (u : Nat)) ∧ w'.cell? ⟨(A x).block, (A x).off + 1, none⟩ = some (.int .i64 (v : Nat))) (by kernel_rfl) ?_
        refine take_at (i := 0) (d := 40) (v := ?_) rfl rfl (by kernel_rfl) (by kernel_rfl) (by kernel_rfl) (fun _ _ _ _ => NormalOnly.any) rfl ?hy1 HS ?rest1
        case hy1 => intro w' hSw; (try dsimp only at hSw); go_simp; try (with_reducible rfl)
        try simp only [List.setIfInBounds_toArray, List.set_cons_zero, List.set_cons_succ]
        refine take_at (i := 1) (d := 41) (v := ?_) rfl rfl (by kernel_rfl) (by kernel_rfl) (by kernel_rfl) (fun _ _ _ _ => NormalOnly.any) rfl ?hy2 HS ?rest2
        case hy2 => intro w' hSw; (try dsimp only at hSw); go_simp; try (with_reducible rfl)
        try simp only [List.setIfInBounds_toArray, List.set_cons_zero, List.set_cons_succ]
        refine take_at (i := 2) (d := 42) (v := ?_) rfl rfl (by kernel_rfl) (by kernel_rfl) (by kernel_rfl) (fun _ _ _ _ => NormalOnly.any) rfl ?hy3 HS ?rest3
        case hy3 => intro w' hSw; (try dsimp only at hSw); go_simp; try (with_reducible rfl)
        try simp only [List.setIfInBounds_toArray, List.set_cons_zero, List.set_cons_succ]
        refine take_at (i := 3) (d := 43) (v := ?_) rfl rfl (by kernel_rfl) (by kernel_rfl) (by kernel_rfl) (fun _ _ _ _ => NormalOnly.any) rfl ?hy4 HS ?rest4
        case hy4 => intro w' hSw; (try dsimp only at hSw); go_simp; try (with_reducible rfl)
        try simp only [List.setIfInBounds_toArray, List.set_cons_zero, List.set_cons_succ]
        refine take_at (i := 4) (d := 44) (v := ?_) rfl rfl (by kernel_rfl) (by kernel_rfl) (by kernel_rfl) (fun _ _ _ _ => NormalOnly.any) rfl ?hy5 HS ?rest5
        case hy5 => intro w' hSw; (try dsimp only at hSw); go_simp; try (with_reducible rfl)
        try simp only [List.setIfInBounds_toArray, List.set_cons_zero, List.set_cons_succ]
        refine take_at (i := 5) (d := 45) (v := ?_) rfl rfl (by kernel_rfl) (by kernel_rfl) (by kernel_rfl) (fun _ _ _ _ => NormalOnly.any) rfl ?hy6 HS ?rest6
        case hy6 => intro w' hSw; (try dsimp only at hSw); go_simp; try (with_reducible rfl)
        try simp only [List.setIfInBounds_toArray, List.set_cons_zero, List.set_cons_succ]
        refine take_at (i := 6) (d := 46) (v := ?_) rfl rfl (by kernel_rfl) (by kernel_rfl) (by kernel_rfl) (fun _ _ _ _ => NormalOnly.any) rfl ?hy7 HS ?rest7
        case hy7 => intro w' hSw; (try dsimp only at hSw); go_simp; try (with_reducible rfl)
        try simp only [List.setIfInBounds_toArray, List.set_cons_zero, List.set_cons_succ]
        refine take_at (i := 7) (d := 47) (v := ?_) rfl rfl (by kernel_rfl) (by kernel_rfl) (by kernel_rfl) (fun _ _ _ _ => NormalOnly.any) rfl ?hy8 HS ?rest8
        case hy8 => intro w' hSw; (try dsimp only at hSw); go_simp; try (with_reducible rfl)
        try simp only [List.setIfInBounds_toArray, List.set_cons_zero, List.set_cons_succ]
        refine take_at (i := 8) (d := 48) (v := ?_) rfl rfl (by kernel_rfl) (by kernel_rfl) (by kernel_rfl) (fun _ _ _ _ => NormalOnly.any) rfl ?hy9 HS ?rest9
        case hy9 => intro w' hSw; (try dsimp only at hSw); go_simp; try (with_reducible rfl)
        try simp only [List.setIfInBounds_toArray, List.set_cons_zero, List.set_cons_succ]
        refine take_at (i := 9) (d := 49) (v := ?_) rfl rfl (by kernel_rfl) (by kernel_rfl) (by kernel_rfl) (fun _ _ _ _ => NormalOnly.any) rfl ?hy10 HS ?rest10
        case hy10 => intro w' hSw; (try dsimp only at hSw); go_simp; try (with_reducible rfl)
        try simp only [List.setIfInBounds_toArray, List.set_cons_zero, List.set_cons_succ]
        refine take_at (i := 10) (d := 50) (v := ?_) rfl rfl (by kernel_rfl) (by kernel_rfl) (by kernel_rfl) (fun _ _ _ _ => NormalOnly.any) rfl ?hy11 HS ?rest11
        case hy11 => intro w' hSw; (try dsimp only at hSw); go_simp; try (with_reducible rfl)
        try simp only [List.setIfInBounds_toArray, List.set_cons_zero, List.set_cons_succ]
        refine wpAnyH_ready (rs := [11]) (by kernel_rfl) (by simp) ?_
        refine AllReadyH.cons rfl (fun K hK => ?_) AllReadyH.nil
        go_simp
        refine HU.out.mono ?_
        rintro e w4 ⟨rfl, hD4, hin⟩
        dsimp only
        have HS4 : w4.cell? (A x) = some (.int .i64 (u : Nat)) ∧ w4.cell? ⟨(A x).block, (A x).off + 1, none⟩ = some (.int .i64 (v : Nat)) := HSB w4 hin
        refine hK.out _ _ HS4 (fun HS => ?_)
        clear hK
        have hs4 := hin.bel.size
        have hF4 := own_inner (show OwnI w3.heap.size u10 (frs E (o.take q)) wr.drew from HF.out) hin hs23
        have hR4 := (HR.out.drew).inner hin (fun h => by have := h.2; simp only at this; omega)
        have bel4 := bel.drew.trans hin.bel
        have HF4 := Lib.hid hF4; have HR4 := Lib.hid hR4; have HD4 := Lib.hid hD4
        have hs34 : w3.heap.size ≤ w4.heap.size := Nat.le_trans hsz hs4
        have hol2 : q < o.length := by rw [HOl.out]; exact hlt
        have HL := Lib.hid (show labO E (o.take (q + 1)) = joinF (labO E (o.take q)) u v by rw [take_snocN hol2, labO_snoc, HX.out, HUV.out])
        clear HSB HU HF HR HD hD4 hin hF4 hR4 bel hsz hs4
        refine take_at (i := 12) (d := 39) (v := ?_) rfl rfl (by kernel_rfl) (by kernel_rfl) (by kernel_rfl) (fun _ _ _ _ => NormalOnly.any) rfl ?hy12 HS ?rest12
        case hy12 => intro w' hSw; (try dsimp only at hSw); go_simp; try (with_reducible rfl)
        try simp only [List.setIfInBounds_toArray, List.set_cons_zero, List.set_cons_succ]
        refine take_at (i := 13) (d := 52) (v := ?_) rfl rfl (by kernel_rfl) (by kernel_rfl) (by kernel_rfl) (fun _ _ _ _ => NormalOnly.any) rfl ?hy13 HS ?rest13
        case hy13 => intro w' hSw; (try dsimp only at hSw); go_simp; try (with_reducible rfl)
        try simp only [List.setIfInBounds_toArray, List.set_cons_zero, List.set_cons_succ]
        refine take_at (i := 14) (d := 53) (v := ?_) rfl rfl (by kernel_rfl) (by kernel_rfl) (by kernel_rfl) (fun _ _ _ _ => NormalOnly.any) rfl ?hy14 HS ?rest14
        case hy14 => intro w' hSw; (try dsimp only at hSw); go_simp; try (with_reducible rfl)
        try simp only [List.setIfInBounds_toArray, List.set_cons_zero, List.set_cons_succ]
        refine take_at (i := 15) (d := 13) (v := ?_) rfl rfl (by kernel_rfl) (by kernel_rfl) (by kernel_rfl) (fun _ _ _ _ => NormalOnly.any) rfl ?hy15 HS ?rest15
        case hy15 => intro w' hSw; (try dsimp only at hSw); go_simp; try (with_reducible rfl)
        try simp only [List.setIfInBounds_toArray, List.set_cons_zero, List.set_cons_succ]
        refine take_at (i := 16) (d := 14) (v := ?_) rfl rfl (by kernel_rfl) (by kernel_rfl) (by kernel_rfl) (fun _ _ _ _ => NormalOnly.any) rfl ?hy16 HS ?rest16
        case hy16 => intro w' hSw; (try dsimp only at hSw); go_simp; try (with_reducible rfl)
        try simp only [List.setIfInBounds_toArray, List.set_cons_zero, List.set_cons_succ]
        refine wpAnyH_done (by kernel_rfl) ⟨rfl, ?_⟩ _
        by_cases hc : labO E (o.take q) u = labO E (o.take q) v
        · have HFr := Lib.hid (show frs E (o.take (q + 1)) = frs E (o.take q) by rw [take_snocN hol2, frs_snoc, HX.out, accB, HUV.out, if_neg (by simpa using hc)])
          have hz : decide (labO E (o.take q) u ≠ labO E (o.take q) v) = false := by simpa using hc
          have hz2 : decide (labO E (o.take q) u = labO E (o.take q) v) = true := by simpa using hc
          clear hc
          go_wp2_with fail
          go_roundw
          case rel => exact ⟨q + 1, by omega, by go_num, by rw [HFr.out]; exact HF4, by rw [HL.out]; exact HD4, HR4, bel4, hs34⟩
          case measure => simp only [intOf]; omega
        · have HFr := Lib.hid (show frs E (o.take (q + 1)) = frs E (o.take q) ++ [x] by rw [take_snocN hol2, frs_snoc, HX.out, accB, HUV.out, if_pos (by simpa using hc)])
          have hz : decide (labO E (o.take q) u ≠ labO E (o.take q) v) = true := by simpa using hc
          have hz2 : decide (labO E (o.take q) u = labO E (o.take q) v) = false := by simpa using hc
          have hown := HF4.out
          have hfl : (frs E (o.take q)).length ≤ 16384 := by have := frs_len E (o.take q); rw [List.length_take] at this; omega
          unfold OwnI at hown
          clear hc HF4
          go_wp2_with (at_builtin; refine push etI rfl _ _ rfl w3.heap.size _ _ _ hown rfl #[.int .i64 (x : Nat)] _ rfl rfl rfl (by simp [Value.oneCell']) (by omega) (by omega) hs34 ?_; intro g cp w5 hown5 hg5 hv5)
          have hb5 : Below w3.heap.size w4 w5 := (Below.refl _ w4).grown hg5 hs34 (fun j e => (hown.lt j e).1)
          go_roundw
          case rel =>
            refine ⟨q + 1, by omega, by go_num, ?_, ?_, Lib.hid (HR4.out.below hb5 HRl), bel4.trans (hb5.mono (by omega)), Nat.le_trans hs34 hb5.size⟩
            · rw [HFr.out]; unfold OwnI; rw [intsN_snoc, List.length_append, List.map_append]; exact Lib.hid hown5
            · rw [HL.out]; exact Lib.hid (HD4.out.zone hb5 hs23)
          case measure => simp only [intOf]; omega
      · have hke : q = E.length := by omega
        have hF := HF.out
        rw [hke, ← HOl.out, List.take_length] at hF
        have HF2 := Lib.hid hF
        clear hF HF
        go_wp2_with fail
        go_ret2
        exact ⟨hb1.trans (bel.mono hs01), .inr ⟨gErr_ok HG.out, o, u10, HOr.out, rfl, by
          obtain ⟨h1, h2⟩ := HF2.out
          exact ⟨h1, h2.imp id (by rintro ⟨g, cap, cur, e1, e2, e3⟩; exact ⟨g, cap, cur, e1, by omega, e3⟩)⟩⟩⟩
end Go.Proofs.YtpbgophogneecaaGreat
