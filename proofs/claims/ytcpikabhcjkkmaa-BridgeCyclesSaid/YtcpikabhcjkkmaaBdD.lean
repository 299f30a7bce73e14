/- The walk of the document's cut vertices. Conditions: the graph is made. -/
import Derived.Test.YtcpikabhcjkkmaaBdC
namespace Go.Proofs.Ytcpikabhcjkkmaa
open Go.RowKit

theorem cutT_succ (E : List Ed) (k : Nat) : (List.range (k + 1)).filter (cutB E) = if cutB E k then (List.range k).filter (cutB E) ++ [k] else (List.range k).filter (cutB E) := by
  rw [List.range_succ, List.filter_append]
  by_cases c : cutB E k = true
  · rw [if_pos c]; simp [c]
  · rw [if_neg c]; simp [c]
set_option maxRecDepth 100000 in
set_option maxHeartbeats 4000000 in
theorem rcuts_any (B b n : Nat) (E : List Ed) (w : World) (hR : RAt w B b n E) (hB : B ≤ w.heap.size) :
    Calls Try.prog 19 #[.pointer (some ⟨b, 0, none⟩)] w (RIRes (cutL n E) w) := by
  have hml := hR.ok.m_le
  have hn4 := hR.ok.n_le
  have HGk := Lib.hid hR.ok
  have HV := Lib.hid (rval_any B b n E w hR)
  obtain ⟨ea, ec, EA, hce, -⟩ := hR.edges
  have hmk : ∀ w, (Instr.makeSlice 56 (.int .i64 (E.length : Nat)) (.int .i64 (E.length : Nat))).run Try.prog w = .ok (.slice (some ⟨w.heap.size, 0, none⟩) E.length E.length) (w.alloc (.cells (madeCells #[.bool false] E.length) 4)) := fun w =>
    run_make_row' (P := Try.prog) 56 4 (.bool false) 1 Try.underlying56 Try.infoBl0 rfl .i64 .i64 E.length (by omega) (by omega) w
  have hrow := Row.made w (.bool false) E.length 4
  have hb1 : Below w.heap.size w (w.alloc (.cells (madeCells #[.bool false] E.length) 4)) := (Below.refl _ w).alloc (Nat.le_refl _) _
  have hsz : (w.alloc (.cells (madeCells #[.bool false] E.length) 4)).heap.size = w.heap.size + 1 := by simp
  have HC := Lib.hid (rlab0_any B b n w.heap.size E (fun _ => false) (-1) _ (hR.below (hb1.mono hB)) (by omega) hrow hrow.lt)
  have HR := Lib.hid hR
  have HRow := Lib.hid hrow
  have HB1 := Lib.hid hb1
  clear hR hrow hb1
  go_enter Try.func19, Try.ntmps19
  go_wp2_with fail
  refine HV.out.mono ?_
  rintro e wz ⟨rfl, rfl⟩
  clear HV
  go_wp2_with fail
  refine HC.out.mono ?_
  clear HC
  rintro e w2 ⟨rfl, hall, b2⟩
  have hs2 := b2.size
  rw [hsz] at hs2 b2
  simp only [World.size_alloc] at hall ⊢
  rw [okL_none] at hall
  have HB2 := Lib.hid (HB1.out.trans (b2.mono (by omega)))
  have HRow2 := Lib.hid (HRow.out.below b2 (by omega))
  have HAll := Lib.hid hall
  have hal := hall.lt
  have HR2 := Lib.hid (HR.out.below (HB2.out.mono hB))
  have hs2b : B ≤ w2.heap.size := by omega
  clear b2 hall HRow HB1 hce hmk hsz HR
  go_wp2_with fail
  go_loopw [5, 6] (fun ov iv wr => ∃ v : Nat, v ≤ n ∧ iv = .int .i64 (v : Nat) ∧ Hid (OwnI w2.heap.size ov ((List.range v).filter (cutB E)) wr) ∧ Hid (Below w2.heap.size w2 wr)) (fun _ iv _ => n - (intOf iv).toNat)
  case atStart => exact ⟨0, Nat.zero_le _, rfl, Lib.hid (World.ownsRow_nil _ _ _ _), Lib.hid (Below.refl _ _)⟩
  case round =>
    obtain ⟨v, hv, rfl, HO, HB⟩ := hrel
    have hRr := HR2.out.below (HB.out.mono hs2b)
    have c1 := hRr.num
    have hsr := HB.out.size
    have hwv : IntKind.i64.wrap ((v : Int) + 1) = (v : Int) + 1 := IntWalk.i64_in _ (by omega)
    by_cases hlt : v < n
    · have hrw := HRow2.out.below HB.out (by omega)
      have HC := Lib.hid (rlab0_any B b n w.heap.size E (fun _ => false) (v : Nat) wr hRr (by omega) hrw hrw.lt)
      have HS := Lib.hid (cutT_succ E v)
      have HCd := Lib.hid (cut_doc HGk.out hlt)
      have hvi : (0 : Int) ≤ v ∧ (v : Int) < n := by omega
      obtain ⟨wa, rfl⟩ : ∃ wa : World, wa = wr := ⟨_, rfl⟩
      clear hRr hrw
      go_wp2_with fail
      refine HC.out.mono ?_
      clear HC
      rintro e w3 ⟨rfl, hlv, b3⟩
      rw [okL_vert] at hlv
      have HLv := Lib.hid hlv
      have HB3 := Lib.hid (HB.out.trans (b3.mono hsr))
      have HO3 := Lib.hid (ownI_below HO.out b3)
      have hll := hlv.lt
      have HA3 := Lib.hid (HAll.out.below HB3.out hal)
      have c13 : w3.cell? ⟨b, 1, none⟩ = some (.int .i64 n) := (HR2.out.below (HB3.out.mono hs2b)).num
      obtain ⟨al, hal2⟩ : ∃ f, labO E (List.range E.length) = f := ⟨_, rfl⟩
      obtain ⟨lv, hlv2⟩ : ∃ f, labO E (ocV E v) = f := ⟨_, rfl⟩
      rw [hal2] at HCd HA3
      rw [hlv2] at HCd HLv
      clear hlv b3 hal2 hlv2 HB HO c1
      go_wp2_with fail
      go_loopw [8, 9, 10] (fun fv cv iv wr => ∃ (u : Nat) (f : Int) (c : Bool), u ≤ n ∧ fv = .int .i64 f ∧ cv = .bool c ∧ iv = .int .i64 (u : Nat) ∧ Hid (CuI (fun x => x ≠ v ∧ al x = al v) lv u f c) ∧ Hid (∃ q, wr = w3.drewN q)) (fun _ _ iv _ => n - (intOf iv).toNat)
      case atStart => exact ⟨0, -1, false, Nat.zero_le _, rfl, rfl, rfl, Lib.hid CuI.zero, Lib.hid ⟨0, rfl⟩⟩
      case round =>
        obtain ⟨u, f, c, hu, rfl, rfl, rfl, HI, HQ⟩ := hrel
        obtain ⟨q, hq⟩ := HQ.out
        subst hq
        have hwu : IntKind.i64.wrap ((u : Int) + 1) = (u : Int) + 1 := IntWalk.i64_in _ (by omega)
        by_cases hun : u < n
        · have cu := HA3.out.cell hun
          have cv := HA3.out.cell hlt
          have lu := HLv.out.cell hun
          have d1 : decide ((u : Int) < (n : Int)) = true := decide_eq_true (by omega)
          have hui : (0 : Int) ≤ u ∧ (u : Int) < n := by omega
          have HQs := Lib.hid (fun m => (⟨_, World.drewN_drewN _ _ _⟩ : ∃ q', (w3.drewN q).drewN m = w3.drewN q'))
          obtain ⟨pu, hpu⟩ : ∃ p, al u = p := ⟨_, rfl⟩
          obtain ⟨pv, hpv⟩ : ∃ p, al v = p := ⟨_, rfl⟩
          rw [hpu] at cu; rw [hpv] at cv
          have cu : (w3.drewN q).cell? ⟨w.heap.size + 1, u, none⟩ = _ := cu
          have cv : (w3.drewN q).cell? ⟨w.heap.size + 1, v, none⟩ = _ := cv
          have lu : (w3.drewN q).cell? ⟨wa.heap.size, u, none⟩ = _ := lu
          have c14 : (w3.drewN q).cell? ⟨b, 1, none⟩ = some (.int .i64 n) := c13
          by_cases hqq : u ≠ v ∧ al u = al v
          · have e1 : ((u : Int) == (v : Int)) = false := by simp; omega
            have e2 : ((pu : Int) != (pv : Int)) = false := by simp; omega
            by_cases hf : f < 0
            · have hnew := HI.out.new hf hqq
              have hc := hnew.1
              subst hc
              have HN := Lib.hid hnew.2
              have hf1 : decide (f < 0) = true := decide_eq_true hf
              have e3 : ((lv u : Int) != (lv u : Int)) = false := by simp
              obtain ⟨pl, hpl⟩ : ∃ p, lv u = p := ⟨_, rfl⟩
              rw [hpl] at lu e3
              clear hnew HI hqq hf hpu hpv hpl HQ
              generalize w3.drewN q = wq at *
              go_wp2_with fail
              go_quiet (fail)
              go_wp2_with fail
              go_quiet (fail)
              go_wp2_with fail
              go_roundw
              case rel => exact ⟨u + 1, (u : Int), false, by omega, rfl, rfl, by go_num, HN, Lib.hid (HQs.out _)⟩
              case measure => simp only [intOf]; omega
            · have hf0 : 0 ≤ f := by omega
              have h2 := HI.out.h2 hf0
              obtain ⟨k, hk⟩ : ∃ k : Nat, f = (k : Int) := ⟨f.toNat, by omega⟩
              subst hk
              rw [Int.toNat_natCast] at h2
              have hkn : k < n := by omega
              have lk : (w3.drewN q).cell? ⟨wa.heap.size, k, none⟩ = _ := HLv.out.cell hkn
              have hold := HI.out.old hf0 hqq
              rw [Int.toNat_natCast] at hold
              have hf1 : decide ((k : Int) < 0) = false := decide_eq_false (by omega)
              have hki : (0 : Int) ≤ k ∧ (k : Int) < n := by omega
              obtain ⟨pl, hpl⟩ : ∃ p, lv u = p := ⟨_, rfl⟩
              obtain ⟨pk, hpk⟩ : ∃ p, lv k = p := ⟨_, rfl⟩
              rw [hpl] at lu hold; rw [hpk] at lk hold
              by_cases hg : pl = pk
              · have e3 : ((pl : Int) != (pk : Int)) = false := by simp [hg]
                have HN : Hid (CuI (fun x => x ≠ v ∧ al x = al v) lv (u + 1) (k : Int) c) := Lib.hid (by simpa [hg] using hold)
                clear hold HI hqq hf hf0 h2 hkn hpu hpv hpl hpk hg HQ
                generalize w3.drewN q = wq at *
                go_wp2_with fail
                go_quiet (fail)
                go_wp2_with fail
                go_quiet (fail)
                go_wp2_with fail
                go_roundw
                case rel => exact ⟨u + 1, (k : Int), c, by omega, rfl, rfl, by go_num, HN, Lib.hid (HQs.out _)⟩
                case measure => simp only [intOf]; omega
              · have e3 : ((pl : Int) != (pk : Int)) = true := by simp; omega
                have HN : Hid (CuI (fun x => x ≠ v ∧ al x = al v) lv (u + 1) (k : Int) true) := Lib.hid (by simpa [hg] using hold)
                clear hold HI hqq hf hf0 h2 hkn hpu hpv hpl hpk hg HQ
                generalize w3.drewN q = wq at *
                go_wp2_with fail
                go_quiet (fail)
                go_wp2_with fail
                go_quiet (fail)
                go_wp2_with fail
                go_roundw
                case rel => exact ⟨u + 1, (k : Int), true, by omega, rfl, rfl, by go_num, HN, Lib.hid (HQs.out _)⟩
                case measure => simp only [intOf]; omega
          · have HN := Lib.hid (HI.out.skip hqq)
            have hcase : ((u : Int) == (v : Int)) = true ∨ ((u : Int) == (v : Int)) = false ∧ ((pu : Int) != (pv : Int)) = true := by
              by_cases e : u = v
              · exact .inl (by simp [e])
              · refine .inr ⟨by simp; omega, ?_⟩
                have : pu ≠ pv := fun d => hqq ⟨e, by rw [hpu, hpv]; exact d⟩
                simp; omega
            clear HI hqq hpu hpv HQ
            generalize w3.drewN q = wq at *
            rcases hcase with e1 | ⟨e1, e2⟩
            all_goals
              go_wp2_with fail
              go_quiet (fail)
              go_wp2_with fail
              go_roundw
              case rel => exact ⟨u + 1, f, c, by omega, rfl, rfl, by go_num, HN, Lib.hid (HQs.out _)⟩
              case measure => simp only [intOf]; omega
        · obtain rfl : u = n := by omega
          have hend := HI.out.end
          have hcb : cutB E v = c := by
            rw [Bool.eq_iff_iff, hend]
            have := HCd.out
            rw [cutL, List.mem_filter, List.mem_range] at this
            constructor
            · intro h; exact this.1 ⟨hlt, h⟩
            · intro h; exact (this.2 h).2
          have HS2 := HS.out
          rw [hcb] at HS2
          have HBq := Lib.hid (below_drewN HB3.out q)
          have c14 : (w3.drewN q).cell? ⟨b, 1, none⟩ = some (.int .i64 u) := c13
          have HOq := Lib.hid (ownI_below HO3.out (below_drewN (Below.refl w3.heap.size w3) q))
          clear hend hcb HS HI HQ
          generalize w3.drewN q = wq at *
          cases c with
          | true =>
            have hT : (List.range (v + 1)).filter (cutB E) = (List.range v).filter (cutB E) ++ [v] := HS2
            have HT := Lib.hid hT
            have hown := HOq.out
            have hsz := HBq.out.size
            have hln := filR_len (p := cutB E) v
            unfold OwnI at hown
            clear hT HS2 HOq HO3
            generalize (List.range v).filter (cutB E) = T at *
            go_wp2_with (at_builtin; refine push etI rfl _ _ rfl w2.heap.size _ _ _ hown rfl #[.int .i64 (v : Nat)] _ rfl rfl rfl (by simp [Value.oneCell']) (by omega) (by omega) hsz ?_; intro g cp w5 hown5 hg5 hv5)
            have hb5 := Lib.hid (HBq.out.grown hg5 hsz (fun j e => (hown.lt j e).1))
            go_roundw
            case rel => exact ⟨v + 1, by omega, by go_num, by rw [HT.out]; exact Lib.hid (by unfold OwnI; rw [intsN_snoc, List.map_append, List.length_append]; exact hown5), hb5⟩
            case measure => simp only [intOf]; omega
          | false =>
            have HT := Lib.hid (show (List.range (v + 1)).filter (cutB E) = (List.range v).filter (cutB E) from HS2)
            clear HS2
            go_wp2_with fail
            go_roundw
            case rel => exact ⟨v + 1, by omega, by go_num, by rw [HT.out]; exact HOq, HBq⟩
            case measure => simp only [intOf]; omega
    · obtain rfl : v = n := by omega
      have HF := Lib.hid (show RIRes (cutL v E) w (.returned u5) wr from ⟨_, rfl, ownI_rd HO.out, HB2.out.trans (HB.out.mono (by omega))⟩)
      clear hRr HO
      go_wp2_with fail
      go_ret
      exact HF.out
end Go.Proofs.Ytcpikabhcjkkmaa
