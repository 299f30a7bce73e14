/- The walk of kruskal.spans. Conditions: the graph is accepted. -/
import Derived.Test.YtbmcflmflmlmaaaWgt
import Derived.Test.YtbmcflmflmlmaaaRank
import Derived.Test.YtbmcflmflmlmaaaRegR
namespace Go.Proofs.Ytbmcflmflmlmaaa
open Go.RowKit

instance (E : List Ed) (p : List Nat) : Decidable (Acy E p) := by unfold Acy; infer_instance
/-- numbers as indexes -/
def toN (P : List Int) : List Nat := P.map Int.toNat
theorem toN_len (P : List Int) : (toN P).length = P.length := by simp [toN]
/-- the error of a choice of edges -/
def spE (m : Nat) (P : List Int) : Int := if (∀ x, x ∈ P → 0 ≤ x ∧ x < (m : Int)) then (if (toN P).Nodup then 0 else 6) else 3
/-- are they a spanning forest? -/
def spB (E : List Ed) (P : List Int) (size : Int) : Bool := decide (spE E.length P = 0 ∧ (P.length : Int) = size ∧ Acy E (toN P))
theorem frs_app_len (E : List Ed) (p q : List Nat) : (frs E (p ++ q)).length ≤ (frs E p).length + q.length := by
  induction q using rev_ind with
  | h0 => simp
  | h1 q i ih =>
    rw [← List.append_assoc, frs_snoc, List.length_append, List.length_singleton]
    split
    · rw [List.length_append, List.length_singleton]; omega
    · omega
theorem acy_pre {E : List Ed} {p q : List Nat} (h : Acy E (p ++ q)) : Acy E p := by
  have h1 := frs_app_len E p q
  have h2 := frs_len E p
  unfold Acy at *
  rw [h, List.length_append] at h1
  exact (frs_sub E p).eq_of_length (by omega)
theorem acy_not {E : List Ed} {p q : List Nat} {i : Nat} (h : accB E (labO E p) i = false) : ¬ Acy E (p ++ i :: q) := fun ha => by
  have h1 : Acy E (p ++ [i]) := acy_pre (q := q) (by simpa using ha)
  have h2 := frs_len E p
  unfold Acy at h1
  rw [frs_snoc, h] at h1
  have := congrArg List.length h1
  simp at this
  omega
theorem take_drop_at {l : List Nat} {k : Nat} (h : k < l.length) : l = l.take k ++ l.getD k 0 :: l.drop (k + 1) := by
  have : l.getD k 0 = l[k] := by simp [List.getD, h]
  rw [this, ← List.drop_eq_getElem_cons h, List.take_append_drop]
theorem Try.infoB : (Try.prog.info? 4).map (fun i => (i.zero, i.size, i.bytes)) = some (some (.bool false), 1, 1) := by kernel_rfl
theorem seen_step (l : List Nat) (k x : Nat) (hk : k < l.length) (hx : l.getD k 0 = x) (i : Nat) : (if i = x then Value.bool true else .bool (decide (i ∈ l.take k))) = .bool (decide (i ∈ l.take (k + 1))) := by
  rw [take_snocN hk, hx]
  by_cases h : i = x
  · subst h; simp
  · rw [if_neg h]
    congr 1
    rw [Bool.eq_iff_iff]
    simp [h]
set_option maxRecDepth 100000 in
set_option maxHeartbeats 4000000 in
theorem spans_any (k : Nat) (E : List Ed) (a pa : Option Addr) (cap pc : Nat) (A PA : Nat → Addr) (P : List Int) (size : Int) (w : World) (hE : ES w w.heap.size (.slice a E.length cap) E A) (hP : Sl 24 .i64 w w.heap.size (.slice pa P.length pc) P PA) (G : GOk k E) (hl : P.length ≤ 1000000) :
    Calls Try.prog 57 #[.int .i64 (k : Nat), .slice a E.length cap, .slice pa P.length pc, .int .i64 size] w fun e w' => e = .returned (.tuple #[.bool (spB E P size), .int .i64 (spE E.length P)]) ∧ Below w.heap.size w w' := by
  have hmk : ∀ w, (Instr.makeSlice 46 (.int .i64 (E.length : Nat)) (.int .i64 (E.length : Nat))).run Try.prog w = .ok (.slice (some ⟨w.heap.size, 0, none⟩) E.length E.length) (w.alloc (.cells (madeCells #[.bool false] E.length) 4)) := fun w =>
    run_make_row' (P := Try.prog) 46 4 (.bool false) 1 Try.underlying46 Try.infoB rfl .i64 .i64 E.length (by have := G.m_le; omega) (by have := G.m_le; omega) w
  have hkn := G.n_le
  have hml := G.m_le
  have HE := Lib.hid hE; have HP := Lib.hid hP; have HG := Lib.hid G
  have hbr := Below.refl w.heap.size w
  clear hE hP G
  go_enter Try.func57, Try.ntmps57
  go_wp2_with fail
  go_loopw [23] (fun i wr => ∃ q : Nat, q ≤ P.length ∧ i = .int .i64 (q : Nat) ∧ Hid (∀ j, j < q → 0 ≤ nth P j ∧ nth P j < (E.length : Int)) ∧ Below w.heap.size w wr) (fun i _ => P.length - (intOf i).toNat)
  case atStart => exact ⟨0, Nat.zero_le _, rfl, Lib.hid (fun j hj => absurd hj (by omega)), hbr⟩
  case round =>
    clear hbr
    obtain ⟨q, hq, rfl, HI, bel⟩ := hrel
    by_cases hlt : q < P.length
    · have hPr := HP.out.below bel
      have i0 := hPr.ix q hlt
      have c0 := Sl.at hPr hlt
      obtain ⟨x, hx⟩ : ∃ x, nth P q = x := ⟨_, rfl⟩
      have HX := Lib.hid hx
      rw [hx] at c0
      have hki : (0 : Int) ≤ q ∧ (q : Int) < P.length := by omega
      clear hPr hx
      by_cases hin : 0 ≤ x ∧ x < (E.length : Int)
      · have k1 : decide (x < 0) = false := decide_eq_false (by omega)
        have k2 : decide (x ≥ (E.length : Int)) = false := decide_eq_false (by omega)
        have HIN := Lib.hid hin
        clear hin
        go_wp2_with fail
        go_roundw
        case rel => exact ⟨q + 1, by omega, by go_num, Lib.hid (fun j hj => by
          by_cases e : j = q
          · rw [e, HX.out]; exact HIN.out
          · exact HI.out j (by omega)), bel⟩
        case measure => simp only [intOf]; omega
      · have hbad : ¬ ∀ y, y ∈ P → 0 ≤ y ∧ y < (E.length : Int) := fun h => hin (h x (by rw [← HX.out, nth_eq hlt]; exact List.getElem_mem _))
        have HF := Lib.hid (show spE E.length P = 3 by unfold spE; rw [if_neg hbad])
        have HB := Lib.hid (show spB E P size = false by unfold spB; rw [HF.out]; simp)
        by_cases hneg : x < 0
        · have k1 : decide (x < 0) = true := decide_eq_true hneg
          clear hin hbad
          go_wp2_with fail
          go_ret2
          exact ⟨by rw [HF.out, HB.out]; rfl, bel⟩
        · have k1 : decide (x < 0) = false := decide_eq_false hneg
          have k2 : decide (x ≥ (E.length : Int)) = true := decide_eq_true (by omega)
          clear hin hbad
          go_wp2_with fail
          go_ret2
          exact ⟨by rw [HF.out, HB.out]; rfl, bel⟩
    · have hqe : q = P.length := by omega
      have hall : ∀ y, y ∈ P → 0 ≤ y ∧ y < (E.length : Int) := fun y hy => by
        obtain ⟨j, hj, rfl⟩ := List.mem_iff_getElem.1 hy
        have := HI.out j (by omega)
        rwa [nth_eq hj] at this
      have HAll := Lib.hid hall
      obtain ⟨p, hp⟩ : ∃ p, toN P = p := ⟨_, rfl⟩
      have hpl : p.length = P.length := by rw [← hp]; exact toN_len P
      have HPl := Lib.hid hpl; have Hp := Lib.hid hp
      have hnat : ∀ j, j < P.length → nth P j = (p.getD j 0 : Nat) ∧ p.getD j 0 < E.length := fun j hj => by
        have h1 := hall _ (List.getElem_mem hj)
        have h2 : p.getD j 0 = P[j].toNat := by rw [← hp]; simp [toN, List.getD, hj]
        rw [nth_eq hj, h2]
        omega
      have HN := Lib.hid hnat
      obtain ⟨wa, hwa⟩ : ∃ wa : World, wa = wr := ⟨_, rfl⟩
      subst hwa
      have hs0 := bel.size
      have hb1 : Below w.heap.size w (wa.alloc (.cells (madeCells #[.bool false] E.length) 4)) := bel.alloc hs0 _
      have hr1 : Row (wa.alloc (.cells (madeCells #[.bool false] E.length) 4)) wa.heap.size E.length (fun i => .bool (decide (i ∈ p.take 0))) := (Row.made wa (.bool false) E.length 4).congr fun i _ => by simp
      clear hall hp hnat HI hpl
      go_wp2_with fail
      generalize wa.alloc (.cells (madeCells #[.bool false] E.length) 4) = wb at *
      go_loopw [41] (fun i wr => ∃ q : Nat, q ≤ P.length ∧ i = .int .i64 (q : Nat) ∧ Hid ((p.take q).Nodup) ∧ Hid (Row wr wa.heap.size E.length (fun i => .bool (decide (i ∈ p.take q)))) ∧ Below w.heap.size w wr) (fun i _ => P.length - (intOf i).toNat)
      case atStart => exact ⟨0, Nat.zero_le _, rfl, Lib.hid List.nodup_nil, Lib.hid hr1, hb1⟩
      case round =>
        clear hr1 hb1
        obtain ⟨q, hq, rfl, HND, HR, bel⟩ := hrel
        by_cases hlt : q < P.length
        · have hPr := HP.out.below bel
          have i0 := hPr.ix q hlt
          have c0 := Sl.at hPr hlt
          obtain ⟨x, hx⟩ : ∃ x, p.getD q 0 = x := ⟨_, rfl⟩
          have HX := Lib.hid hx
          rw [(HN.out q hlt).1, hx] at c0
          have hxm : x < E.length := by rw [← hx]; exact (HN.out q hlt).2
          have hki : (0 : Int) ≤ q ∧ (q : Int) < P.length := by omega
          have hkx : (0 : Int) ≤ x ∧ (x : Int) < E.length := by omega
          have c1 := HR.out.cell hxm
          have z1 := HR.out.frozen x
          have hqp : q < p.length := by rw [HPl.out]; exact hlt
          clear hPr hx
          by_cases hs : x ∈ p.take q
          · have hd : decide (x ∈ p.take q) = true := decide_eq_true hs
            have hnd : ¬ (toN P).Nodup := fun h => by
              rw [Hp.out, take_drop_at hqp, HX.out] at h
              exact (List.nodup_append.1 h).2.2 x hs x (List.mem_cons_self ..) rfl
            have HF := Lib.hid (show spE E.length P = 6 by unfold spE; rw [if_pos HAll.out, if_neg hnd])
            have HB := Lib.hid (show spB E P size = false by unfold spB; rw [HF.out]; simp)
            rw [hd] at c1
            clear hs hnd hd
            go_wp2_with fail
            go_ret2
            exact ⟨by rw [HF.out, HB.out]; rfl, bel⟩
          · have hd : decide (x ∈ p.take q) = false := decide_eq_false hs
            rw [hd] at c1
            have HND2 := Lib.hid (show (p.take (q + 1)).Nodup by
              rw [take_snocN hqp, HX.out]
              exact List.nodup_append.2 ⟨HND.out, by simp, fun y hy z hz e => by
                rw [List.mem_singleton] at hz
                subst e; subst hz; exact hs hy⟩)
            have HR2 := Lib.hid ((HR.out.set x (.bool true)).congr fun i _ => seen_step p q x hqp HX.out i)
            clear hs hd HR
            go_wp2_with fail
            go_roundw
            case rel => exact ⟨q + 1, by omega, by go_num, HND2, HR2, bel.setCell (p := ⟨wa.heap.size, x, none⟩) hs0 _⟩
            case measure => simp only [intOf]; omega
        · have hqe : q = P.length := by omega
          have hnd : (toN P).Nodup := by
            have := HND.out
            rwa [hqe, ← HPl.out, List.take_length, ← Hp.out] at this
          have HF := Lib.hid (show spE E.length P = 0 by unfold spE; rw [if_pos HAll.out, if_pos hnd])
          clear HR HND hnd
          by_cases hsz : (P.length : Int) = size
          · have hz : ((P.length : Int) != size) = false := by simpa using hsz
            have HSZ := Lib.hid hsz
            clear hsz
            obtain ⟨wc, hwc⟩ : ∃ wc : World, wc = wr := ⟨_, rfl⟩
            subst hwc
            have HD := Lib.hid (dnew_any k wc (by omega))
            go_wp2_with fail
            refine HD.out.mono ?_
            rintro e wd ⟨d, rfl, hD, hb2⟩
            have beld := bel.trans (hb2.mono bel.size)
            have hDs : DS wd ⟨wc.heap.size, wd.heap.size⟩ d k (labO E (p.take 0)) := hD
            have hswc := bel.size
            clear HD hD
            go_wp2_with fail
            go_loopw [67] (fun i wr => ∃ q : Nat, q ≤ P.length ∧ i = .int .i64 (q : Nat) ∧ Hid (Acy E (p.take q)) ∧ Hid (DS wr ⟨wc.heap.size, wd.heap.size⟩ d k (labO E (p.take q))) ∧ Below w.heap.size w wr) (fun i _ => P.length - (intOf i).toNat)
            case atStart => exact ⟨0, Nat.zero_le _, rfl, Lib.hid rfl, Lib.hid hDs, beld⟩
            case round =>
              clear hDs beld
              obtain ⟨q, hq, rfl, HA, HD, bel⟩ := hrel
              by_cases hlt : q < P.length
              · have hPr := HP.out.below bel
                have i0 := hPr.ix q hlt
                have c0 := Sl.at hPr hlt
                obtain ⟨x, hx⟩ : ∃ x, p.getD q 0 = x := ⟨_, rfl⟩
                have HX := Lib.hid hx
                rw [(HN.out q hlt).1, hx] at c0
                have hxl : x < E.length := by rw [← hx]; exact (HN.out q hlt).2
                have hqp : q < p.length := by rw [HPl.out]; exact hlt
                have hki : (0 : Int) ≤ q ∧ (q : Int) < P.length := by omega
                obtain ⟨u, v, hu, hv, hun, hvn, huv⟩ := HG.out.nats hxl
                have hEr := HE.out.below bel
                have i1 := hEr.ix x hxl
                have c2 := ES.u hEr hxl
                have c3 := ES.v hEr hxl
                rw [hu] at c2; rw [hv] at c3
                have HU := Lib.hid (union_any ⟨wc.heap.size, wd.heap.size⟩ d k (labO E (p.take q)) u v wr.drew (HD.out.drew) hun hvn (by omega))
                have HUV := Lib.hid (show edP E x = (u, v) by unfold edP; rw [hu, hv]; simp)
                have HSB : ∀ w4, Inner ⟨wc.heap.size, wd.heap.size⟩ wr.drew w4 → w4.cell? (A x) = some (.int .i64 (u : Nat)) ∧ w4.cell? ⟨(A x).block, (A x).off + 1, none⟩ = some (.int .i64 (v : Nat)) := fun w4 hi => by
                  have hE4 := HE.out.below (bel.drew.trans (hi.bel.mono hswc))
                  have h2 := ES.u hE4 hxl
                  have h3 := ES.v hE4 hxl
                  rw [hu] at h2; rw [hv] at h3
                  exact ⟨h2, h3⟩
                have HS : wr.drew.cell? (A x) = some (.int .i64 (u : Nat)) ∧ wr.drew.cell? ⟨(A x).block, (A x).off + 1, none⟩ = some (.int .i64 (v : Nat)) := ⟨c2, c3⟩
                clear hEr hu hv huv hPr hx c2 c3
                go_wp2_with fail
                refine region_plain (fun w' => w'.cell? (A x) = some (.int .i64 (u : Nat)) ∧ w'.cell? ⟨(A x).block, (A x).off + 1, none⟩ = some (.int .i64 (v : Nat))) (by kernel_rfl) ?_
                refine take_at (i := 0) (d := 72) (v := ?_) rfl rfl (by kernel_rfl) (by kernel_rfl) (by kernel_rfl) (fun _ _ _ _ => NormalOnly.any) rfl ?hy1 HS ?rest1
                case hy1 => intro w' hSw; (try dsimp only at hSw); go_simp; try (with_reducible rfl)
                try simp only [List.setIfInBounds_toArray, List.set_cons_zero, List.set_cons_succ]
                refine take_at (i := 1) (d := 73) (v := ?_) rfl rfl (by kernel_rfl) (by kernel_rfl) (by kernel_rfl) (fun _ _ _ _ => NormalOnly.any) rfl ?hy2 HS ?rest2
                case hy2 => intro w' hSw; (try dsimp only at hSw); go_simp; try (with_reducible rfl)
                try simp only [List.setIfInBounds_toArray, List.set_cons_zero, List.set_cons_succ]
                refine take_at (i := 2) (d := 74) (v := ?_) rfl rfl (by kernel_rfl) (by kernel_rfl) (by kernel_rfl) (fun _ _ _ _ => NormalOnly.any) rfl ?hy3 HS ?rest3
                case hy3 => intro w' hSw; (try dsimp only at hSw); go_simp; try (with_reducible rfl)
                try simp only [List.setIfInBounds_toArray, List.set_cons_zero, List.set_cons_succ]
                refine take_at (i := 3) (d := 75) (v := ?_) rfl rfl (by kernel_rfl) (by kernel_rfl) (by kernel_rfl) (fun _ _ _ _ => NormalOnly.any) rfl ?hy4 HS ?rest4
                case hy4 => intro w' hSw; (try dsimp only at hSw); go_simp; try (with_reducible rfl)
                try simp only [List.setIfInBounds_toArray, List.set_cons_zero, List.set_cons_succ]
                refine take_at (i := 4) (d := 76) (v := ?_) rfl rfl (by kernel_rfl) (by kernel_rfl) (by kernel_rfl) (fun _ _ _ _ => NormalOnly.any) rfl ?hy5 HS ?rest5
                case hy5 => intro w' hSw; (try dsimp only at hSw); go_simp; try (with_reducible rfl)
                try simp only [List.setIfInBounds_toArray, List.set_cons_zero, List.set_cons_succ]
                refine take_at (i := 5) (d := 77) (v := ?_) rfl rfl (by kernel_rfl) (by kernel_rfl) (by kernel_rfl) (fun _ _ _ _ => NormalOnly.any) rfl ?hy6 HS ?rest6
                case hy6 => intro w' hSw; (try dsimp only at hSw); go_simp; try (with_reducible rfl)
                try simp only [List.setIfInBounds_toArray, List.set_cons_zero, List.set_cons_succ]
                refine take_at (i := 6) (d := 78) (v := ?_) rfl rfl (by kernel_rfl) (by kernel_rfl) (by kernel_rfl) (fun _ _ _ _ => NormalOnly.any) rfl ?hy7 HS ?rest7
                case hy7 => intro w' hSw; (try dsimp only at hSw); go_simp; try (with_reducible rfl)
                try simp only [List.setIfInBounds_toArray, List.set_cons_zero, List.set_cons_succ]
                refine take_at (i := 7) (d := 79) (v := ?_) rfl rfl (by kernel_rfl) (by kernel_rfl) (by kernel_rfl) (fun _ _ _ _ => NormalOnly.any) rfl ?hy8 HS ?rest8
                case hy8 => intro w' hSw; (try dsimp only at hSw); go_simp; try (with_reducible rfl)
                try simp only [List.setIfInBounds_toArray, List.set_cons_zero, List.set_cons_succ]
                refine take_at (i := 8) (d := 80) (v := ?_) rfl rfl (by kernel_rfl) (by kernel_rfl) (by kernel_rfl) (fun _ _ _ _ => NormalOnly.any) rfl ?hy9 HS ?rest9
                case hy9 => intro w' hSw; (try dsimp only at hSw); go_simp; try (with_reducible rfl)
                try simp only [List.setIfInBounds_toArray, List.set_cons_zero, List.set_cons_succ]
                refine take_at (i := 9) (d := 81) (v := ?_) rfl rfl (by kernel_rfl) (by kernel_rfl) (by kernel_rfl) (fun _ _ _ _ => NormalOnly.any) rfl ?hy10 HS ?rest10
                case hy10 => intro w' hSw; (try dsimp only at hSw); go_simp; try (with_reducible rfl)
                try simp only [List.setIfInBounds_toArray, List.set_cons_zero, List.set_cons_succ]
                refine take_at (i := 10) (d := 82) (v := ?_) rfl rfl (by kernel_rfl) (by kernel_rfl) (by kernel_rfl) (fun _ _ _ _ => NormalOnly.any) rfl ?hy11 HS ?rest11
                case hy11 => intro w' hSw; (try dsimp only at hSw); go_simp; try (with_reducible rfl)
                try simp only [List.setIfInBounds_toArray, List.set_cons_zero, List.set_cons_succ]
                refine wpAnyH_ready (rs := [11]) (by kernel_rfl) (by simp) ?_
                refine AllReadyH.cons rfl (fun K hK => ?_) AllReadyH.nil
                go_simp
                refine HU.out.mono ?_
                rintro e w4 ⟨rfl, hD4, hin⟩
                dsimp only
                refine hK.out _ _ (HSB w4 hin) (fun HS => ?_)
                clear hK
                have bel4 := bel.drew.trans (hin.bel.mono hswc)
                have HD4 := Lib.hid hD4
                have HL := Lib.hid (show labO E (p.take (q + 1)) = joinF (labO E (p.take q)) u v by rw [take_snocN hqp, labO_snoc, HX.out, HUV.out])
                clear HSB HU HD hD4 hin bel
                refine take_at (i := 12) (d := 71) (v := ?_) rfl rfl (by kernel_rfl) (by kernel_rfl) (by kernel_rfl) (fun _ _ _ _ => NormalOnly.any) rfl ?hy12 HS ?rest12
                case hy12 => intro w' hSw; (try dsimp only at hSw); go_simp; try (with_reducible rfl)
                try simp only [List.setIfInBounds_toArray, List.set_cons_zero, List.set_cons_succ]
                refine take_at (i := 13) (d := 84) (v := ?_) rfl rfl (by kernel_rfl) (by kernel_rfl) (by kernel_rfl) (fun _ _ _ _ => NormalOnly.any) rfl ?hy13 HS ?rest13
                case hy13 => intro w' hSw; (try dsimp only at hSw); go_simp; try (with_reducible rfl)
                try simp only [List.setIfInBounds_toArray, List.set_cons_zero, List.set_cons_succ]
                refine take_at (i := 14) (d := 85) (v := ?_) rfl rfl (by kernel_rfl) (by kernel_rfl) (by kernel_rfl) (fun _ _ _ _ => NormalOnly.any) rfl ?hy14 HS ?rest14
                case hy14 => intro w' hSw; (try dsimp only at hSw); go_simp; try (with_reducible rfl)
                try simp only [List.setIfInBounds_toArray, List.set_cons_zero, List.set_cons_succ]
                refine take_at (i := 15) (d := 19) (v := ?_) rfl rfl (by kernel_rfl) (by kernel_rfl) (by kernel_rfl) (fun _ _ _ _ => NormalOnly.any) rfl ?hy15 HS ?rest15
                case hy15 => intro w' hSw; (try dsimp only at hSw); go_simp; try (with_reducible rfl)
                try simp only [List.setIfInBounds_toArray, List.set_cons_zero, List.set_cons_succ]
                refine take_at (i := 16) (d := 20) (v := ?_) rfl rfl (by kernel_rfl) (by kernel_rfl) (by kernel_rfl) (fun _ _ _ _ => NormalOnly.any) rfl ?hy16 HS ?rest16
                case hy16 => intro w' hSw; (try dsimp only at hSw); go_simp; try (with_reducible rfl)
                try simp only [List.setIfInBounds_toArray, List.set_cons_zero, List.set_cons_succ]
                refine wpAnyH_done (by kernel_rfl) ⟨rfl, ?_⟩ _
                by_cases hc : labO E (p.take q) u = labO E (p.take q) v
                · have hac : accB E (labO E (p.take q)) x = false := by rw [accB, HUV.out]; simpa using hc
                  have HB := Lib.hid (show spB E P size = false by
                    unfold spB
                    refine decide_eq_false fun h => ?_
                    have h3 := h.2.2
                    rw [Hp.out, take_drop_at hqp, HX.out] at h3
                    exact acy_not hac h3)
                  have hz : decide (labO E (p.take q) u ≠ labO E (p.take q) v) = false := by simpa using hc
                  have hz2 : decide (labO E (p.take q) u = labO E (p.take q) v) = true := by simpa using hc
                  clear hc hac
                  go_wp2_with fail
                  go_ret2
                  exact ⟨by rw [HF.out, HB.out]; rfl, bel4⟩
                · have hac : accB E (labO E (p.take q)) x = true := by rw [accB, HUV.out]; simpa using hc
                  have HA2 := Lib.hid (show Acy E (p.take (q + 1)) by
                    have := HA.out
                    unfold Acy at *
                    rw [take_snocN hqp, HX.out, frs_snoc, if_pos hac, this])
                  have hz : decide (labO E (p.take q) u ≠ labO E (p.take q) v) = true := by simpa using hc
                  have hz2 : decide (labO E (p.take q) u = labO E (p.take q) v) = false := by simpa using hc
                  clear hc hac
                  go_wp2_with fail
                  go_roundw
                  case rel => exact ⟨q + 1, by omega, by go_num, HA2, by rw [HL.out]; exact HD4, bel4⟩
                  case measure => simp only [intOf]; omega
              · have hqe : q = P.length := by omega
                have HB := Lib.hid (show spB E P size = true by
                  unfold spB
                  have := HA.out
                  rw [hqe, ← HPl.out, List.take_length] at this
                  exact decide_eq_true ⟨HF.out, HSZ.out, by rw [Hp.out]; exact this⟩)
                clear HA HD
                go_wp2_with fail
                go_ret2
                exact ⟨by rw [HF.out, HB.out]; rfl, bel⟩
          · have hz : ((P.length : Int) != size) = true := by simpa using hsz
            have HB := Lib.hid (show spB E P size = false by unfold spB; exact decide_eq_false fun h => hsz h.2.1)
            clear hsz
            go_wp2_with fail
            go_ret2
            exact ⟨by rw [HF.out, HB.out]; rfl, bel⟩
end Go.Proofs.Ytbmcflmflmlmaaa
