/- The document's cycle through an edge. Conditions: the graph is made. -/
import Derived.Test.YtcpikabhcjkkmaaBeS
import Derived.Test.YtcpikabhcjkkmaaCyM
namespace Go.Proofs.Ytcpikabhcjkkmaa
open Go.RowKit

theorem nx_scan {E : List Ed} {p x i : Nat} {d : Nat → Int} (hi : i < E.length) (h1 : inc E x i = true) (h2 : stp E p d x i = true) (h3 : ∀ j, j < i → inc E x j = true → stp E p d x j = false) : nx E p d x = some i := by
  unfold nx adj adjTo
  rw [List.find?_filter, List.find?_range_eq_some]
  refine ⟨by simp [h1, h2], by simpa using hi, fun j hj => ?_⟩
  by_cases c : inc E x j = true
  · simp [h3 j hj c]
  · simp [c]
set_option maxRecDepth 100000 in
set_option maxHeartbeats 1000000 in
theorem rtouch_any (B b n i x : Nat) (E : List Ed) (w : World) (hR : RAt w B b n E) (hi : i < E.length) :
    Calls Try.prog 53 #[.pointer (some ⟨b, 0, none⟩), .int .i64 (i : Nat), .int .i64 (x : Nat)] w fun e w' => e = .returned (.bool (inc E x i)) ∧ w' = w := by
  obtain ⟨ea, ec, EA, hce, hES⟩ := hR.edges
  obtain ⟨u, v, hu, hv, hun, hvn, huv⟩ := hR.ok.nats hi
  have ix := hES.ix i hi
  have e0 := ES.u hES hi
  have e1 := ES.v hES hi
  have hin : (0 : Int) ≤ i ∧ (i : Int) < E.length := by omega
  obtain ⟨c, hc⟩ : ∃ c, inc E x i = c := ⟨_, rfl⟩
  have hcc := hc
  unfold inc at hcc
  rw [hu] at e0 hcc; rw [hv] at e1 hcc
  have HC := Lib.hid hc
  by_cases h1 : u = x
  · have q1 : ((u : Int) == (x : Int)) = true := by simp [h1]
    have hct : c = true := by rw [← hcc]; simp [h1]
    subst hct
    clear hcc hc hES hR hu hv h1
    go_enter Try.func53, Try.ntmps53
    go_wp2_with fail
    go_ret
    exact ⟨by rw [HC.out]; rfl, rfl⟩
  · have q1 : ((u : Int) == (x : Int)) = false := by simp; omega
    have q2 : ((v : Int) == (x : Int)) = c := by
      rw [← hcc, Bool.eq_iff_iff, decide_eq_true_eq, beq_iff_eq]
      constructor
      · exact .inr
      · rintro (h | h)
        · omega
        · exact h
    clear hcc hc hES hR hu hv h1
    go_enter Try.func53, Try.ntmps53
    go_wp2_with fail
    go_ret
    exact ⟨by rw [HC.out]; rfl, rfl⟩
set_option maxRecDepth 100000 in
set_option maxHeartbeats 1000000 in
theorem rother_any (B b n i x : Nat) (E : List Ed) (w : World) (hR : RAt w B b n E) (hi : i < E.length) (hx : inc E x i = true) :
    Calls Try.prog 59 #[.pointer (some ⟨b, 0, none⟩), .int .i64 (i : Nat), .int .i64 (x : Nat)] w fun e w' => e = .returned (.int .i64 (oN E x i : Nat)) ∧ w' = w := by
  obtain ⟨ea, ec, EA, hce, hES⟩ := hR.edges
  obtain ⟨u, v, hu, hv, hun, hvn, huv⟩ := hR.ok.nats hi
  have ix := hES.ix i hi
  have e0 := ES.u hES hi
  have e1 := ES.v hES hi
  have hin : (0 : Int) ≤ i ∧ (i : Int) < E.length := by omega
  have hep : edP E i = (u, v) := by unfold edP; rw [hu, hv]; rfl
  unfold inc at hx
  rw [hu] at e0 hx; rw [hv] at e1 hx
  simp only [decide_eq_true_eq] at hx
  by_cases h1 : u = x
  · have q1 : ((u : Int) == (x : Int)) = true := by simp [h1]
    have HO : Hid (oN E x i = v) := Lib.hid (by unfold oN; rw [hep]; simp only; rw [if_neg (by omega)])
    clear hx hES hR hu hv h1 hep
    go_enter Try.func59, Try.ntmps59
    go_wp2_with fail
    go_ret
    exact ⟨by rw [HO.out]; rfl, rfl⟩
  · have q1 : ((u : Int) == (x : Int)) = false := by simp; omega
    have HO : Hid (oN E x i = u) := Lib.hid (by unfold oN; rw [hep]; simp only; rw [if_pos (by omega)])
    clear hx hES hR hu hv h1 hep
    go_enter Try.func59, Try.ntmps59
    go_wp2_with fail
    go_ret
    exact ⟨by rw [HO.out]; rfl, rfl⟩
/-- what is known of the next edge -/
def NxI (E : List Ed) (p x : Nat) (d : Nat → Int) (c i : Nat) (z : Int) : Prop := (z = -1 ∧ ∀ j, j < i → inc E x j = true → stp E p d x j = false) ∨ z = (c : Int)
theorem ownI_lit1 (w : World) (x : Nat) : OwnI w.heap.size (.slice (some ⟨w.heap.size, 0, none⟩) 1 1) [x] (w.alloc (.cells #[.int .i64 (x : Nat)] 3)) :=
  World.ownsRow_lit w #[.int .i64 (x : Nat)] 1 (Nat.le_refl _) (by unfold maxLen; omega) (by simp)
set_option maxRecDepth 100000 in
set_option maxHeartbeats 4000000 in
theorem rcycle_any (B b n : Nat) (E : List Ed) (z : Int) (w : World) (hR : RAt w B b n E) (hB : B ≤ w.heap.size) :
    Calls Try.prog 25 #[.pointer (some ⟨b, 0, none⟩), .int .i64 z] w (CyRes n E z w) := by
  have hml := hR.ok.m_le
  have hn4 := hR.ok.n_le
  have HGk := Lib.hid hR.ok
  have HV := Lib.hid (rval_any B b n E w hR)
  obtain ⟨ea, ec, EA, hce, hES⟩ := hR.edges
  by_cases hz0 : z < 0
  · have d1 : decide (z < 0) = true := decide_eq_true hz0
    have HF : Hid (CyRes n E z w (.returned (.slice none 0 0)) w) := Lib.hid ⟨_, [], rfl, ⟨fun _ => rfl, fun p hp _ => by omega⟩, ⟨none, 0, fun _ => ⟨0, 0, none⟩, rfl, Rd.nil _⟩, Below.refl _ _⟩
    clear hR hES hz0
    go_enter Try.func25, Try.ntmps25
    go_wp2_with fail
    refine HV.out.mono ?_
    rintro e wz ⟨rfl, rfl⟩
    go_wp2_with fail
    go_ret
    exact HF.out
  have d1 : decide (z < 0) = false := decide_eq_false hz0
  obtain ⟨p, hp⟩ : ∃ p : Nat, z = (p : Int) := ⟨z.toNat, by omega⟩
  subst hp
  by_cases hpm : E.length ≤ p
  · have d2 : decide (E.length ≤ p) = true := decide_eq_true hpm
    have d3 : decide ((p : Int) ≥ (E.length : Int)) = true := decide_eq_true (by omega)
    have HF : Hid (CyRes n E (p : Int) w (.returned (.slice none 0 0)) w) := Lib.hid ⟨_, [], rfl, ⟨fun _ => rfl, fun q hq h => by omega⟩, ⟨none, 0, fun _ => ⟨0, 0, none⟩, rfl, Rd.nil _⟩, Below.refl _ _⟩
    clear hR hES hz0 hpm
    go_enter Try.func25, Try.ntmps25
    go_wp2_with fail
    refine HV.out.mono ?_
    rintro e wz ⟨rfl, rfl⟩
    go_wp2_with fail
    go_ret
    exact HF.out
  have hpl : p < E.length := by omega
  have d2 : decide (E.length ≤ p) = false := decide_eq_false hpm
  have d3 : decide ((p : Int) ≥ (E.length : Int)) = false := decide_eq_false (by omega)
  obtain ⟨u, v, hu, hv, hun, hvn, huv⟩ := hR.ok.nats hpl
  have hep : edP E p = (u, v) := by unfold edP; rw [hu, hv]; rfl
  have HEp := Lib.hid hep
  have ix := hES.ix p hpl
  have e0 := ES.u hES hpl
  have e1 := ES.v hES hpl
  rw [hu] at e0; rw [hv] at e1
  have HSt := fun m => rsteps_any B b n p v E (w.drewN m) (hR.below (below_drewN (Below.refl _ _) m)) hB hvn
  have HSt := Lib.hid HSt
  have HR := Lib.hid hR
  have hpi : (0 : Int) ≤ p ∧ (p : Int) < E.length := by omega
  have hui : (0 : Int) ≤ u ∧ (u : Int) < n := by omega
  have hvi : (0 : Int) ≤ v ∧ (v : Int) < n := by omega
  clear hR hES hu hv hep hz0 hpm
  go_enter Try.func25, Try.ntmps25
  go_wp2_with fail
  refine HV.out.mono ?_
  rintro e wz ⟨rfl, rfl⟩
  clear HV
  go_wp2_with fail
  go_quiet (fail)
  go_wp2_with fail
  refine (HSt.out nq).mono ?_
  clear HSt
  rintro e w2 ⟨d, rfl, hD, hrow, b2⟩
  have hq : (w.drewN nq).heap.size = w.heap.size := rfl
  rw [hq] at hrow b2 ⊢
  have HB2 := Lib.hid ((below_drewN (Below.refl w.heap.size w) nq).trans b2)
  have HRow := Lib.hid hrow
  have HD := Lib.hid hD
  have cu := hrow.cell hun
  have hdl := hrow.lt
  have hL := cycL_of hpl (by rw [HEp.out]; exact hD)
  rw [HEp.out] at hL
  have HL := Lib.hid hL
  clear b2 hrow hD ix e0 e1 hce hq hL
  rcases Int.lt_or_le (d u) 0 with hneg | hpos
  · have t1 : decide (d u < 0) = true := decide_eq_true hneg
    have hcy : cyc E p d u = [] := by unfold cyc; rw [if_pos hneg]
    rw [hcy] at HL
    have HF : Hid (CyRes n E (p : Int) w (.returned (.slice none 0 0)) w2) := Lib.hid ⟨_, [], rfl, HL.out, ⟨none, 0, fun _ => ⟨0, 0, none⟩, rfl, Rd.nil _⟩, HB2.out⟩
    obtain ⟨du, hdu⟩ : ∃ x, d u = x := ⟨_, rfl⟩
    rw [hdu] at cu t1
    clear hneg hcy hdu
    go_wp2_with fail
    go_ret
    exact HF.out
  · have t1 : decide (d u < 0) = false := decide_eq_false (by omega)
    obtain ⟨k0, hk0⟩ : ∃ k : Nat, d u = (k : Int) := ⟨(d u).toNat, by omega⟩
    have hcy : cyc E p d u = [p] ++ chn E p d k0 u := by
      unfold cyc; rw [if_neg (by omega), show (d u).toNat = k0 by omega]; rfl
    have HCy := Lib.hid hcy
    have HK0 := Lib.hid hk0
    have HO0 := Lib.hid (ownI_lit1 w2 p)
    have HA0 := Lib.hid (show Below w2.heap.size w2 (w2.alloc (.cells #[.int .i64 (p : Nat)] 3)) from (Below.refl _ w2).alloc (Nat.le_refl _) _)
    have hs2 := HB2.out.size
    have hb2 : B ≤ w2.heap.size := by omega
    have hklt := dist_lt HGk.out HD.out hun hpos
    rw [hk0] at cu t1
    have hk60 : k0 ≤ 4096 := by omega
    clear hpos hcy hk0 hklt
    go_wp2_with fail
    go_loopw [5, 8] (fun av ov wr => ∃ (x k : Nat) (T : List Nat), av = .int .i64 (x : Nat) ∧ x < n ∧ k ≤ k0 ∧ Hid (d x = (k : Int)) ∧ Hid (T.length + k = k0 + 1) ∧ Hid (cyc E p d u = T ++ chn E p d k x) ∧ Hid (OwnI w2.heap.size ov T wr) ∧ Hid (Below w2.heap.size w2 wr)) (fun av _ _ => (d (intOf av).toNat).toNat)
    case atStart => exact ⟨u, k0, [p], rfl, hun, Nat.le_refl _, HK0, Lib.hid (by simp; omega), HCy, HO0, HA0⟩
    case round =>
      clear HCy HO0 HA0 HK0
      obtain ⟨x, k, T, rfl, hx, hkk, HDx, HTl, HC, HO, HB⟩ := hrel
      by_cases hxv : x = v
      · have q1 : ((x : Int) != (v : Int)) = false := by simp [hxv]
        have hk : k = 0 := by
          have := HD.out.root
          rw [← hxv, HDx.out] at this; omega
        have hT : cyc E p d u = T := by rw [HC.out, hk, show chn E p d 0 x = [] from rfl, List.append_nil]
        have HF := Lib.hid (show CyRes n E (p : Int) w (.returned u8) wr from ⟨_, T, rfl, by rw [← hT]; exact HL.out, ownI_rd HO.out, HB2.out.trans (HB.out.mono hs2)⟩)
        clear hxv hk hT HO HC
        go_wp2_with fail
        go_ret
        exact HF.out
      · have q1 : ((x : Int) != (v : Int)) = true := by simp; omega
        obtain ⟨k', hk'⟩ : ∃ k', k = k' + 1 := by
          cases k with
          | zero => exact absurd (zero_root HD.out hx (by rw [HDx.out]; rfl)) hxv
          | succ k' => exact ⟨k', rfl⟩
        obtain ⟨c, hnx⟩ := nx_some HGk.out HD.out hx (by rw [HDx.out]; omega)
        have HNx := Lib.hid hnx
        obtain ⟨hcE, hcx, hcp, hcd⟩ := nx_mem hnx
        have hxi : (0 : Int) ≤ x ∧ (x : Int) < n := by omega
        have hcn : (oN E x c) < n := (oN_lnk HGk.out hcE hcx).2.2.1
        have HCd := Lib.hid hcd
        have HCc := Lib.hid (And.intro hcE hcx)
        obtain ⟨wq, rfl⟩ : ∃ wq : World, wq = wr := ⟨_, rfl⟩
        have hRq := HR.out.below ((HB2.out.trans (HB.out.mono hs2)).mono hB)
        have HRq := Lib.hid hRq
        have hrq := HRow.out.below HB.out hdl
        have HRowq := Lib.hid hrq
        have cx := hrq.cell hx
        rw [HDx.out] at cx
        have hwk : IntKind.i64.wrap ((k : Int) - 1) = (k : Int) - 1 := IntWalk.i64_in _ (by omega)
        obtain ⟨ea2, ec2, EA2, hce2, -⟩ := hRq.edges
        clear hxv hnx hcd hRq hrq hcx hcp
        go_wp2_with fail
        go_loopw [9, 10] (fun nv iv wr => ∃ (i : Nat) (nx' : Int), i ≤ E.length ∧ nv = .int .i64 nx' ∧ iv = .int .i64 (i : Nat) ∧ Hid (NxI E p x d c i nx') ∧ Hid (∃ q, wr = wq.drewN q)) (fun _ iv _ => E.length - (intOf iv).toNat)
        case atStart => exact ⟨0, -1, Nat.zero_le _, rfl, rfl, Lib.hid (.inl ⟨rfl, fun _ h => by omega⟩), Lib.hid ⟨0, rfl⟩⟩
        case round =>
          obtain ⟨i, nx', hi, rfl, rfl, HN, HQ⟩ := hrel
          obtain ⟨q, hq⟩ := HQ.out
          subst hq
          by_cases hgo : i < E.length ∧ nx' < 0
          · obtain ⟨hil, hnn⟩ := hgo
            rcases HN.out with ⟨rfl, hno⟩ | h
            · have HNo := Lib.hid hno
              have t2 : decide (i < E.length) = true := decide_eq_true hil
              have t3 : decide ((i : Int) < (E.length : Int)) = true := decide_eq_true (by omega)
              have hwi : IntKind.i64.wrap ((i : Int) + 1) = (i : Int) + 1 := IntWalk.i64_in _ (by omega)
              have hii : (0 : Int) ≤ i ∧ (i : Int) < E.length := by omega
              have HQs := Lib.hid (fun m => (⟨_, World.drewN_drewN _ _ _⟩ : ∃ q', (wq.drewN q).drewN m = wq.drewN q'))
              have HT := Lib.hid (fun m => rtouch_any w2.heap.size b n i x E ((wq.drewN q).drewN m) (((HRq.out.mono hb2).below (below_drewN (Below.refl _ _) q)).below (below_drewN (Below.refl _ _) m)) hil)
              have dx1 : (wq.drewN q).cell? ⟨w.heap.size, x, none⟩ = some (.int .i64 (k : Nat)) := cx
              have de1 : (wq.drewN q).cell? ⟨b, 2, none⟩ = some (.slice ea2 E.length ec2) := hce2
              by_cases hip : i = p
              · have q2 : ((i : Int) != (p : Int)) = false := by simp [hip]
                have HN2 : Hid (NxI E p x d c (i + 1) (-1)) := Lib.hid (.inl ⟨rfl, fun j hj hm => by
                  by_cases e : j = i
                  · rw [e, hip]; simp [stp]
                  · exact HNo.out j (by omega) hm⟩)
                clear hip hno HN hnn hil HQ
                generalize wq.drewN q = ws at *
                go_wp2_with fail
                go_quiet ((go_at_call 53; exact Calls.quiet_of_same (HT.out _)))
                go_wp2_with fail
                go_roundw
                case rel => exact ⟨i + 1, -1, by omega, rfl, by go_num, HN2, Lib.hid (HQs.out _)⟩
                case measure => simp only [intOf]; omega
              · have q2 : ((i : Int) != (p : Int)) = true := by simp; omega
                cases hinc : inc E x i with
                | false =>
                  rw [hinc] at HT
                  have HN2 : Hid (NxI E p x d c (i + 1) (-1)) := Lib.hid (.inl ⟨rfl, fun j hj hm => by
                    by_cases e : j = i
                    · rw [e, hinc] at hm; cases hm
                    · exact HNo.out j (by omega) hm⟩)
                  clear hip hno HN hnn hil HQ hinc
                  generalize wq.drewN q = ws at *
                  go_wp2_with fail
                  go_quiet ((go_at_call 53; exact Calls.quiet_of_same (HT.out _)))
                  go_wp2_with fail
                  go_roundw
                  case rel => exact ⟨i + 1, -1, by omega, rfl, by go_num, HN2, Lib.hid (HQs.out _)⟩
                  case measure => simp only [intOf]; omega
                | true =>
                  rw [hinc] at HT
                  have hon := (oN_lnk HGk.out hil hinc).2.2.1
                  have HOt := fun m => rother_any w2.heap.size b n i x E ((wq.drewN q).drewN m) (((HRq.out.mono hb2).below (below_drewN (Below.refl _ _) q)).below (below_drewN (Below.refl _ _) m)) hil hinc
                  have co : (wq.drewN q).cell? ⟨w.heap.size, oN E x i, none⟩ = some (.int .i64 (d (oN E x i))) := HRowq.out.cell hon
                  obtain ⟨o, ho⟩ : ∃ o, oN E x i = o := ⟨_, rfl⟩
                  rw [ho] at HOt co hon
                  have HOt := Lib.hid HOt
                  obtain ⟨do', hdo⟩ : ∃ y, d o = y := ⟨_, rfl⟩
                  rw [hdo] at co
                  have hoi : (0 : Int) ≤ o ∧ (o : Int) < n := by omega
                  by_cases hst : do' = (k : Int) - 1
                  · have q3 : (do' == (k : Int) - 1) = true := beq_iff_eq.2 hst
                    have hs : stp E p d x i = true := by
                      unfold stp; rw [ho, hdo, HDx.out]; simp [hip, hst]
                    have hci : c = i := by
                      have := nx_scan hil hinc hs hno
                      rw [HNx.out] at this
                      exact Option.some.inj this
                    have HN2 : Hid (NxI E p x d c (i + 1) (i : Int)) := Lib.hid (.inr (by rw [hci]))
                    clear hip hno HN hnn hil HQ hinc hst hs hci ho hdo hon
                    generalize wq.drewN q = ws at *
                    go_wp2_with fail
                    go_quiet (first | (go_at_call 53; exact Calls.quiet_of_same (HT.out _)) | (go_at_call 59; exact Calls.quiet_of_same (HOt.out _)))
                    go_wp2_with fail
                    go_roundw
                    case rel => exact ⟨i + 1, (i : Int), by omega, rfl, by go_num, HN2, Lib.hid (HQs.out _)⟩
                    case measure => simp only [intOf]; omega
                  · have q3 : (do' == (k : Int) - 1) = false := beq_eq_false_iff_ne.2 hst
                    have hs : stp E p d x i = false := by
                      unfold stp; rw [ho, hdo, HDx.out]; simp [hst]
                    have HN2 : Hid (NxI E p x d c (i + 1) (-1)) := Lib.hid (.inl ⟨rfl, fun j hj hm => by
                      by_cases e : j = i
                      · rw [e]; exact hs
                      · exact HNo.out j (by omega) hm⟩)
                    clear hip hno HN hnn hil HQ hinc hst hs ho hdo hon
                    generalize wq.drewN q = ws at *
                    go_wp2_with fail
                    go_quiet (first | (go_at_call 53; exact Calls.quiet_of_same (HT.out _)) | (go_at_call 59; exact Calls.quiet_of_same (HOt.out _)))
                    go_wp2_with fail
                    go_roundw
                    case rel => exact ⟨i + 1, -1, by omega, rfl, by go_num, HN2, Lib.hid (HQs.out _)⟩
                    case measure => simp only [intOf]; omega
            · omega
          · have hnc : nx' = (c : Int) := by
              rcases HN.out with ⟨h1, h2⟩ | h
              · exfalso
                have hie : ¬ i < E.length := fun h => hgo ⟨h, by omega⟩
                obtain ⟨m1, m2, m3, m4⟩ := nx_mem HNx.out
                have := h2 c (by omega) m2
                simp [stp, m3, m4] at this
              · exact h
            subst hnc
            have HT1 : Hid (cyc E p d u = (T ++ [c]) ++ chn E p d k' (oN E x c)) := Lib.hid (by rw [HC.out, hk', chn_step HNx.out]; simp)
            have hdk : d (oN E x c) = (k' : Int) := by rw [HCd.out, HDx.out, hk']; omega
            have HDk := Lib.hid hdk
            have HTn : Hid ((T ++ [c]).length + k' = k0 + 1) := Lib.hid (by have := HTl.out; simp; omega)
            have hTl : T.length ≤ 4097 := by have := HTl.out; omega
            have HOq := Lib.hid (ownI_below HO.out (below_drewN (Below.refl wq.heap.size wq) q))
            have HBq := Lib.hid (below_drewN HB.out q)
            have HRs := Lib.hid ((HRq.out.mono hb2).below (below_drewN (Below.refl w2.heap.size wq) q))
            have de1 : (wq.drewN q).cell? ⟨b, 2, none⟩ = some (.slice ea2 E.length ec2) := hce2
            have hown := HOq.out
            have hsz := HBq.out.size
            have t5 : decide ((c : Int) < 0) = false := decide_eq_false (by omega)
            have hcase : decide (i < E.length) = true ∨ decide (i < E.length) = false := by cases decide (i < E.length) <;> simp
            unfold OwnI at hown
            obtain ⟨o, ho⟩ : ∃ o, oN E x c = o := ⟨_, rfl⟩
            have HOo := Lib.hid ho
            rw [ho] at hcn HDk HT1
            clear hgo hdk HN HQ HO HB HC HTl HOq ho
            generalize wq.drewN q = ws at *
            rcases hcase with t6 | t6
            all_goals
              go_wp2_with (at_builtin; refine push etI rfl _ _ rfl w2.heap.size _ _ _ hown rfl #[.int .i64 (c : Nat)] _ rfl rfl rfl (by simp [Value.oneCell']) (by omega) (by omega) hsz ?_; intro g cp w5 hown5 hg5 hv5; refine Hid.out ?_)
              have hb5 := HBq.out.grown hg5 hsz (fun j e => (hown.lt j e).1)
              have HB5 := Lib.hid hb5
              have hbs := HBq.out
              have HR5 := HRs.out.below (((Below.refl w2.heap.size ws).grown hg5 hsz (fun j e => (hown.lt j e).1)))
              have HOt := Lib.hid (rother_any w2.heap.size b n c x E w5 HR5 HCc.out.1 HCc.out.2)
              have HO5 : Hid (OwnI w2.heap.size (.slice (some ⟨g, 0, none⟩) (T.length + 1 : Nat) cp) (T ++ [c]) w5) := Lib.hid (by unfold OwnI; rw [intsN_snoc, List.map_append, List.length_append]; exact hown5)
              rw [HOo.out] at HOt
              clear hown5 hg5 hv5 hb5 hbs HR5
              refine Lib.hid ?_
              go_wp2_with fail
              refine HOt.out.mono ?_
              rintro e wz ⟨rfl, rfl⟩
              go_wp2_with fail
              go_roundw
              case rel => exact ⟨o, k', T ++ [c], rfl, hcn, by omega, HDk, HTn, HT1, HO5, HB5⟩
              case measure =>
                have h1 := HDk.out
                have h2 := HDx.out
                simp only [intOf, Int.toNat_natCast, h1, h2]
                omega
end Go.Proofs.Ytcpikabhcjkkmaa
