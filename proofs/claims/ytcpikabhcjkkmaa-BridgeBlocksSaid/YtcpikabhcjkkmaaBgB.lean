/- The walk of the document's Blocks. Conditions: the graph is made. -/
import Derived.Test.YtcpikabhcjkkmaaBgZ
import Derived.Deep.DeepCutAuto
import Derived.Deep.RegionHeld3
namespace Go.Proofs.Ytcpikabhcjkkmaa
open Go.RowKit

section
variable {P : Program} {ops : Array Oper} {md : Region.Mode}
/-- an operation that its guard bars is passed over; its slot is given -/
theorem skip_at {Q : Exit → Act → World → Prop} {S : World → Prop} {i d : Nat} {oi : Oper} {fuel : Nat} {listed : Array Bool} {tmps : Array Value} {ds : List Deferred} {w : World} (hi : ops[i]? = some oi) (hd : oi.dst = some d)
    (hs : Region.noSelect ops = true) (hf : Region.free md ops listed i = true) (hr : (Region.ready md ops listed).contains i = true)
    (hQ : ∀ c a a' w, Q (.panic c) a w → Q (.panic c) a' w) (hw : Region.wanted oi (yielded ops tmps) = false) (hS : S w)
    (h : wpAnyH P md ops Q S fuel (listed.setIfInBounds i true) { tmps := tmps.setIfInBounds d undef, defers := ds } w) : wpAnyH P md ops Q S (fuel + 1) listed { tmps := tmps, defers := ds } w :=
  wpAnyH_take hi hs hf hr (fun c a w => hQ c _ _ w) (.inr ⟨hw, rfl⟩) hS (by rw [hd]; exact h)
end

/-- the blocks whose first edges come before k; one of them -/
def bkC (E : List Ed) (k j : Nat) : List Nat := (List.range j).filter fun b => decide (bkK E b = k)
def bkR (E : List Ed) (k : Nat) : List (List Nat) := ((List.range k).filter fun a => decide (bkK E a = a)).map fun a => bkC E a E.length
theorem bkR_end (E : List Ed) : bkR E E.length = bkL E := rfl
theorem bkR_len (E : List Ed) (k : Nat) : (bkR E k).length ≤ k := by
  unfold bkR
  rw [List.length_map]
  exact Nat.le_trans (List.length_filter_le _ _) (by simp)
theorem bkC_len (E : List Ed) (k j : Nat) : (bkC E k j).length ≤ j := by
  unfold bkC
  exact Nat.le_trans (List.length_filter_le _ _) (by simp)
theorem bkR_yes {E : List Ed} {k : Nat} (h : bkK E k = k) : bkR E (k + 1) = bkR E k ++ [bkC E k E.length] := by
  unfold bkR
  rw [List.range_succ, List.filter_append, List.map_append]
  simp [h]
theorem bkR_no {E : List Ed} {k : Nat} (h : bkK E k ≠ k) : bkR E (k + 1) = bkR E k := by
  unfold bkR
  rw [List.range_succ, List.filter_append, List.map_append]
  simp [h]
theorem bkC_zero (E : List Ed) (k : Nat) : bkC E k k = [] := by
  unfold bkC
  rw [List.filter_eq_nil_iff]
  intro b hb h
  have h1 := of_decide_eq_true h
  have h2 := (labL_ok (bkP E)).le b
  have h3 := List.mem_range.1 hb
  unfold bkK at h1
  omega
theorem bkC_yes {E : List Ed} {k j : Nat} (h : bkK E j = k) : bkC E k (j + 1) = bkC E k j ++ [j] := by
  unfold bkC
  rw [List.range_succ, List.filter_append]
  simp [h]
theorem bkC_no {E : List Ed} {k j : Nat} (h : bkK E j ≠ k) : bkC E k (j + 1) = bkC E k j := by
  unfold bkC
  rw [List.range_succ, List.filter_append]
  simp [h]
theorem ownI_lower {w : World} {b b' : Nat} {v : Value} {l : List Nat} (h : OwnI b v l w) (hb : b' ≤ b) : OwnI b' v l w :=
  ⟨h.1, h.2.imp_right fun ⟨g, cap, cur, e1, e2, r⟩ => ⟨g, cap, cur, e1, Nat.le_trans hb e2, r⟩⟩
theorem ownI_view {w : World} {b : Nat} {v : Value} {l : List Nat} (h : OwnI b v l w) : ∃ a c, v = .slice a l.length c ∧ l.length ≤ c := by
  rcases h.2 with ⟨e1, e2⟩ | ⟨g, cap, cur, e1, e2, e3, e4, e5⟩
  · exact ⟨none, 0, by rw [e1, e2], by omega⟩
  · exact ⟨_, cap, e1, e4⟩
set_option maxRecDepth 1000000 in
set_option maxHeartbeats 4000000 in
theorem rblocks_any (B b n : Nat) (E : List Ed) (w : World) (hR : RAt w B b n E) (hB : B ≤ w.heap.size) :
    Calls Try.prog 23 #[.pointer (some ⟨b, 0, none⟩)] w fun e w' => ∃ v, e = .returned v ∧ BMem w' w'.heap.size v (bkL E) ∧ Below w.heap.size w w' := by
  have hml := hR.ok.m_le
  have HGk := Lib.hid hR.ok
  have HV := Lib.hid (rval_any B b n E w hR)
  obtain ⟨ea, ec, EA, hce, -⟩ := hR.edges
  have hmk : ∀ w, (Instr.makeSlice 29 (.int .i64 (E.length : Nat)) (.int .i64 (E.length : Nat))).run Try.prog w = .ok (.slice (some ⟨w.heap.size, 0, none⟩) E.length E.length) (w.alloc (.cells (madeCells #[.int .i64 0] E.length) 3)) := fun w =>
    run_make_row' (P := Try.prog) 29 3 (.int .i64 0) 8 Try.underlying29 Try.infoI0 rfl .i64 .i64 E.length (by omega) (by omega) w
  have hrow := Row.made w (.int .i64 0) E.length 3
  have HR0 := Lib.hid (show Row (w.alloc (.cells (madeCells #[.int .i64 0] E.length) 3)) w.heap.size E.length (fun i => .int .i64 ((if i < 0 then i else 0 : Nat) : Int)) from hrow.congr fun i _ => by rw [if_neg (by omega)]; rfl)
  have HA0 := Lib.hid (show Below w.heap.size w (w.alloc (.cells (madeCells #[.int .i64 0] E.length) 3)) from (Below.refl _ w).alloc (Nat.le_refl _) _)
  have HR := Lib.hid hR
  clear hR hrow
  obtain ⟨m, hm⟩ : ∃ m, E.length = m := ⟨_, rfl⟩
  have HM := Lib.hid hm
  rw [hm] at HR0 HA0 hmk hce hml
  clear hm
  go_enter Try.func23, Try.ntmps23
  go_wp2_with fail
  refine HV.out.mono ?_
  rintro e wz ⟨rfl, rfl⟩
  clear HV
  go_wp2_with fail
  clear hmk hce
  go_loopw [4] (fun iv wr => ∃ i : Nat, i ≤ m ∧ iv = .int .i64 (i : Nat) ∧ Hid (Row wr w.heap.size m (fun j => .int .i64 ((if j < i then j else 0 : Nat) : Int))) ∧ Hid (Below w.heap.size w wr)) (fun iv _ => m - (intOf iv).toNat)
  case atStart => exact ⟨0, Nat.zero_le _, rfl, HR0, HA0⟩
  case round =>
    clear HR0 HA0
    obtain ⟨i, hi, rfl, HK, HB⟩ := hrel
    by_cases hlt : i < m
    · have ci := HK.out.cell hlt
      have fi := HK.out.frozen i
      rw [if_neg (by omega)] at ci
      have hin : (0 : Int) ≤ i ∧ (i : Int) < m := by omega
      have HK2 := Lib.hid ((HK.out.set i (.int .i64 (i : Nat))).congr (f' := fun j => .int .i64 ((if j < i + 1 then j else 0 : Nat) : Int)) fun j _ => by
        by_cases c : j = i
        · subst c; rw [if_pos rfl, if_pos (by omega)]
        · rw [if_neg c]
          by_cases d : j < i
          · rw [if_pos d, if_pos (by omega)]
          · rw [if_neg d, if_neg (by omega)])
      have HB2 := Lib.hid (HB.out.setCell (p := ⟨w.heap.size, i, none⟩) (Nat.le_refl _) (.int .i64 (i : Nat)))
      clear HK HB
      go_wp2_with fail
      go_roundw
      case rel => exact ⟨i + 1, by omega, by go_num, HK2, HB2⟩
      case measure => simp only [intOf]; omega
    · obtain rfl : i = m := by omega
      have HK1 := Lib.hid (HK.out.congr (f' := fun j => .int .i64 ((bkF E 0 0 j : Nat) : Int)) fun j hj => by rw [if_pos hj]; rfl)
      clear HK
      go_wp2_with fail
      go_loopw [5] (fun av wr => ∃ a : Nat, a ≤ i ∧ av = .int .i64 (a : Nat) ∧ Hid (Row wr w.heap.size i (fun j => .int .i64 ((bkF E a 0 j : Nat) : Int))) ∧ Hid (Below w.heap.size w wr)) (fun av _ => i - (intOf av).toNat)
      case atStart => exact ⟨0, Nat.zero_le _, rfl, HK1, HB⟩
      case round =>
        clear HK1 HB
        obtain ⟨a, ha, rfl, HK, HB⟩ := hrel
        have hwa : IntKind.i64.wrap ((a : Int) + 1) = (a : Int) + 1 := IntWalk.i64_in _ (by omega)
        by_cases hal : a < i
        · have haE : a < E.length := by rw [HM.out]; exact hal
          obtain ⟨u, v, hu, hv, hun, hvn, huv⟩ := HGk.out.nats haE
          have hep : edP E a = (u, v) := by unfold edP; rw [hu, hv]; rfl
          have HEp := Lib.hid hep
          have HUv := Lib.hid (And.intro hu hv)
          have HInc := Lib.hid (And.intro (show inc E u a = true by unfold inc; rw [hu]; simp) (show inc E v a = true by unfold inc; rw [hv]; simp))
          have hai : (0 : Int) ≤ a ∧ (a : Int) < i := by omega
          clear hep hu hv
          go_wp2_with fail
          go_loopw [6] (fun bv wr => ∃ c : Nat, c ≤ a ∧ bv = .int .i64 (c : Nat) ∧ Hid (Row wr w.heap.size i (fun j => .int .i64 ((bkF E a c j : Nat) : Int))) ∧ Hid (Below w.heap.size w wr)) (fun bv _ => a - (intOf bv).toNat)
          case atStart => exact ⟨0, Nat.zero_le _, rfl, HK, HB⟩
          case round =>
            clear HK HB
            obtain ⟨c, hc, rfl, HK, HB⟩ := hrel
            have hwc : IntKind.i64.wrap ((c : Int) + 1) = (c : Int) + 1 := IntWalk.i64_in _ (by omega)
            by_cases hcl : c < a
            · have hRr := HR.out.below (HB.out.mono hB)
              obtain ⟨ea2, ec2, EA2, hce, hES⟩ := hRr.edges
              rw [HM.out] at hce hES
              have ix := hES.ix a (by omega)
              have e0 := ES.u (show ES wr B (.slice ea2 E.length ec2) E EA2 by rw [HM.out]; exact hES) haE
              have e1 := ES.v (show ES wr B (.slice ea2 E.length ec2) E EA2 by rw [HM.out]; exact hES) haE
              rw [HUv.out.1] at e0; rw [HUv.out.2] at e1
              have hcE : c < E.length := by omega
              have ca : wr.cell? ⟨w.heap.size, a, none⟩ = some (.int .i64 (bkF E a c a : Nat)) := HK.out.cell hal
              have cc : wr.cell? ⟨w.heap.size, c, none⟩ = some (.int .i64 (bkF E a c c : Nat)) := HK.out.cell (by omega)
              have hsx := bkF_succ E a c
              have hnd := nearE_def E (b := c) HEp.out
              obtain ⟨F, hF⟩ : ∃ F, bkF E a c = F := ⟨_, rfl⟩
              rw [hF] at hsx
              obtain ⟨p, hp⟩ : ∃ p, F a = p := ⟨_, rfl⟩
              obtain ⟨q, hq⟩ : ∃ q, F c = q := ⟨_, rfl⟩
              rw [hF] at ca cc
              rw [hp] at ca hsx; rw [hq] at cc hsx
              have HK1 := Lib.hid (show Row wr w.heap.size i (fun j => .int .i64 ((F j : Nat) : Int)) from HK.out.congr fun j _ => by rw [hF])
              have HSx := Lib.hid hsx
              obtain ⟨ne, hne⟩ : ∃ z, nearE E a c = z := ⟨_, rfl⟩
              rw [hne] at HSx hnd
              have hbs := HB.out.size
              have hlo : w.heap.size < wr.heap.size := HK1.out.lt
              have HRw := Lib.hid (hRr.mono (show B ≤ wr.heap.size by omega))
              have hci : (0 : Int) ≤ c ∧ (c : Int) < i := by omega
              have hui : (0 : Int) ≤ u ∧ (u : Int) < n := by omega
              clear hRr hES hF hp hq hsx hne HK
              go_wp2_with fail
              go_quiet (fail)
              have HB1 := Lib.hid (below_drewN HB.out nq)
              have HK2 := Lib.hid (HK1.out.drewN nq)
              have HR1 := Lib.hid (HRw.out.below (below_drewN (Below.refl wr.heap.size wr) nq))
              have ca1 : (wr.drewN nq).cell? ⟨w.heap.size, a, none⟩ = some (.int .i64 (p : Nat)) := ca
              have cc1 : (wr.drewN nq).cell? ⟨w.heap.size, c, none⟩ = some (.int .i64 (q : Nat)) := cc
              have hlo1 : w.heap.size < (wr.drewN nq).heap.size := hlo
              have hR1s : (wr.drewN nq).heap.size = wr.heap.size := rfl
              rw [← hR1s] at HR1
              clear ca cc HB HK1 HRw hlo hbs ix e0 e1 hce hR1s
              generalize wr.drewN nq = w1 at *
              have HTu := Lib.hid (fun W (hb : Below w1.heap.size w1 W) => rtouch_any w1.heap.size b n c u E W (HR1.out.below hb) hcE)
              have HTv := Lib.hid (fun W (hb : Below w1.heap.size w1 W) => rtouch_any w1.heap.size b n c v E W (HR1.out.below hb) hcE)
              have HAll := Lib.hid (fun W (hb : Below w1.heap.size w1 W) => (⟨(hb.cell hlo1).trans ca1, (hb.cell hlo1).trans cc1, hb⟩ : W.cell? ⟨w.heap.size, a, none⟩ = some (.int .i64 (p : Nat)) ∧ W.cell? ⟨w.heap.size, c, none⟩ = some (.int .i64 (q : Nat)) ∧ Below w1.heap.size w1 W))
              go_upto_region 15 with (fail)
              go_cut [93] (fun s93 wx => s93 = .bool (decide (ne = true ∧ p ≠ q)) ∧ Below w1.heap.size w1 wx)
              case first =>
                as_aux_lemma =>
                  have hci2 := hci
                  clear hwa hwc hai hci2 hlo1 hml
                  by_cases hpq : p = q
                  · have t1 : ((p : Int) != (q : Int)) = false := by simp [hpq]
                    have HZ : Hid (decide (ne = true ∧ p ≠ q) = false) := Lib.hid (decide_eq_false fun e => e.2 hpq)
                    clear hnd hpq HSx HK2 HB1 HR1
                    have HS := HAll.out w1.drew (Below.refl _ _).drew
                    refine region_plain (fun W => W.cell? ⟨w.heap.size, a, none⟩ = some (.int .i64 (p : Nat)) ∧ W.cell? ⟨w.heap.size, c, none⟩ = some (.int .i64 (q : Nat)) ∧ Below w1.heap.size w1 W) (by kernel_rfl) ?_
                    refine take_at (i := 0) (d := 59) (v := ?_) rfl rfl (by kernel_rfl) (by kernel_rfl) (by kernel_rfl) (fun _ _ _ _ => NormalOnly.any) rfl ?hy1 HS ?rest1
                    case hy1 => intro w' hSw; (try dsimp only at hSw); go_simp; try (with_reducible rfl)
                    try simp only [List.setIfInBounds_toArray, List.set_cons_zero, List.set_cons_succ]
                    refine take_at (i := 1) (d := 60) (v := ?_) rfl rfl (by kernel_rfl) (by kernel_rfl) (by kernel_rfl) (fun _ _ _ _ => NormalOnly.any) rfl ?hy2 HS ?rest2
                    case hy2 => intro w' hSw; (try dsimp only at hSw); go_simp; try (with_reducible rfl)
                    try simp only [List.setIfInBounds_toArray, List.set_cons_zero, List.set_cons_succ]
                    refine take_at (i := 2) (d := 61) (v := ?_) rfl rfl (by kernel_rfl) (by kernel_rfl) (by kernel_rfl) (fun _ _ _ _ => NormalOnly.any) rfl ?hy3 HS ?rest3
                    case hy3 => intro w' hSw; (try dsimp only at hSw); go_simp; try (with_reducible rfl)
                    try simp only [List.setIfInBounds_toArray, List.set_cons_zero, List.set_cons_succ]
                    refine take_at (i := 3) (d := 62) (v := ?_) rfl rfl (by kernel_rfl) (by kernel_rfl) (by kernel_rfl) (fun _ _ _ _ => NormalOnly.any) rfl ?hy4 HS ?rest4
                    case hy4 => intro w' hSw; (try dsimp only at hSw); go_simp; try (with_reducible rfl)
                    try simp only [List.setIfInBounds_toArray, List.set_cons_zero, List.set_cons_succ]
                    refine take_at (i := 4) (d := 63) (v := ?_) rfl rfl (by kernel_rfl) (by kernel_rfl) (by kernel_rfl) (fun _ _ _ _ => NormalOnly.any) rfl ?hy5 HS ?rest5
                    case hy5 => intro w' hSw; (try dsimp only at hSw); go_simp; try (with_reducible rfl)
                    try simp only [List.setIfInBounds_toArray, List.set_cons_zero, List.set_cons_succ]
                    refine take_at (i := 5) (d := 64) (v := ?_) rfl rfl (by kernel_rfl) (by kernel_rfl) (by kernel_rfl) (fun _ _ _ _ => NormalOnly.any) rfl ?hy6 HS ?rest6
                    case hy6 => intro w' hSw; (try dsimp only at hSw); go_simp; try (with_reducible rfl)
                    try simp only [List.setIfInBounds_toArray, List.set_cons_zero, List.set_cons_succ]
                    refine take_at (i := 6) (d := 65) (v := ?_) rfl rfl (by kernel_rfl) (by kernel_rfl) (by kernel_rfl) (fun _ _ _ _ => NormalOnly.any) rfl ?hy7 HS ?rest7
                    case hy7 => intro w' hSw; (try dsimp only at hSw); go_simp; try (with_reducible rfl)
                    try simp only [List.setIfInBounds_toArray, List.set_cons_zero, List.set_cons_succ]
                    refine take_at (i := 7) (d := 66) (v := ?_) rfl rfl (by kernel_rfl) (by kernel_rfl) (by kernel_rfl) (fun _ _ _ _ => NormalOnly.any) rfl ?hy8 HS ?rest8
                    case hy8 => intro w' hSw; (try dsimp only at hSw); go_simp; try (with_reducible rfl)
                    try simp only [List.setIfInBounds_toArray, List.set_cons_zero, List.set_cons_succ]
                    refine take_at (i := 8) (d := 67) (v := ?_) rfl rfl (by kernel_rfl) (by kernel_rfl) (by kernel_rfl) (fun _ _ _ _ => NormalOnly.any) rfl ?hy9 HS ?rest9
                    case hy9 => intro w' hSw; (try dsimp only at hSw); go_simp; try (with_reducible rfl)
                    try simp only [List.setIfInBounds_toArray, List.set_cons_zero, List.set_cons_succ]
                    refine take_at (i := 9) (d := 68) (v := ?_) rfl rfl (by kernel_rfl) (by kernel_rfl) (by kernel_rfl) (fun _ _ _ _ => NormalOnly.any) rfl ?hy10 HS ?rest10
                    case hy10 => intro w' hSw; (try dsimp only at hSw); go_simp; try (with_reducible rfl)
                    try simp only [List.setIfInBounds_toArray, List.set_cons_zero, List.set_cons_succ]
                    refine skip_at (i := 10) (d := 69) rfl rfl (by kernel_rfl) (by kernel_rfl) (by kernel_rfl) (fun _ _ _ _ => NormalOnly.any) rfl HS ?_
                    try simp only [List.setIfInBounds_toArray, List.set_cons_zero, List.set_cons_succ]
                    refine skip_at (i := 11) (d := 70) rfl rfl (by kernel_rfl) (by kernel_rfl) (by kernel_rfl) (fun _ _ _ _ => NormalOnly.any) rfl HS ?_
                    try simp only [List.setIfInBounds_toArray, List.set_cons_zero, List.set_cons_succ]
                    refine skip_at (i := 12) (d := 71) rfl rfl (by kernel_rfl) (by kernel_rfl) (by kernel_rfl) (fun _ _ _ _ => NormalOnly.any) rfl HS ?_
                    try simp only [List.setIfInBounds_toArray, List.set_cons_zero, List.set_cons_succ]
                    refine skip_at (i := 13) (d := 72) rfl rfl (by kernel_rfl) (by kernel_rfl) (by kernel_rfl) (fun _ _ _ _ => NormalOnly.any) rfl HS ?_
                    try simp only [List.setIfInBounds_toArray, List.set_cons_zero, List.set_cons_succ]
                    refine skip_at (i := 14) (d := 73) rfl rfl (by kernel_rfl) (by kernel_rfl) (by kernel_rfl) (fun _ _ _ _ => NormalOnly.any) rfl HS ?_
                    try simp only [List.setIfInBounds_toArray, List.set_cons_zero, List.set_cons_succ]
                    refine skip_at (i := 15) (d := 74) rfl rfl (by kernel_rfl) (by kernel_rfl) (by kernel_rfl) (fun _ _ _ _ => NormalOnly.any) rfl HS ?_
                    try simp only [List.setIfInBounds_toArray, List.set_cons_zero, List.set_cons_succ]
                    refine skip_at (i := 16) (d := 75) rfl rfl (by kernel_rfl) (by kernel_rfl) (by kernel_rfl) (fun _ _ _ _ => NormalOnly.any) rfl HS ?_
                    try simp only [List.setIfInBounds_toArray, List.set_cons_zero, List.set_cons_succ]
                    refine skip_at (i := 17) (d := 76) rfl rfl (by kernel_rfl) (by kernel_rfl) (by kernel_rfl) (fun _ _ _ _ => NormalOnly.any) rfl HS ?_
                    try simp only [List.setIfInBounds_toArray, List.set_cons_zero, List.set_cons_succ]
                    refine skip_at (i := 18) (d := 77) rfl rfl (by kernel_rfl) (by kernel_rfl) (by kernel_rfl) (fun _ _ _ _ => NormalOnly.any) rfl HS ?_
                    try simp only [List.setIfInBounds_toArray, List.set_cons_zero, List.set_cons_succ]
                    refine skip_at (i := 19) (d := 78) rfl rfl (by kernel_rfl) (by kernel_rfl) (by kernel_rfl) (fun _ _ _ _ => NormalOnly.any) rfl HS ?_
                    try simp only [List.setIfInBounds_toArray, List.set_cons_zero, List.set_cons_succ]
                    refine skip_at (i := 20) (d := 79) rfl rfl (by kernel_rfl) (by kernel_rfl) (by kernel_rfl) (fun _ _ _ _ => NormalOnly.any) rfl HS ?_
                    try simp only [List.setIfInBounds_toArray, List.set_cons_zero, List.set_cons_succ]
                    refine skip_at (i := 21) (d := 80) rfl rfl (by kernel_rfl) (by kernel_rfl) (by kernel_rfl) (fun _ _ _ _ => NormalOnly.any) rfl HS ?_
                    try simp only [List.setIfInBounds_toArray, List.set_cons_zero, List.set_cons_succ]
                    refine skip_at (i := 22) (d := 81) rfl rfl (by kernel_rfl) (by kernel_rfl) (by kernel_rfl) (fun _ _ _ _ => NormalOnly.any) rfl HS ?_
                    try simp only [List.setIfInBounds_toArray, List.set_cons_zero, List.set_cons_succ]
                    refine skip_at (i := 23) (d := 82) rfl rfl (by kernel_rfl) (by kernel_rfl) (by kernel_rfl) (fun _ _ _ _ => NormalOnly.any) rfl HS ?_
                    try simp only [List.setIfInBounds_toArray, List.set_cons_zero, List.set_cons_succ]
                    refine skip_at (i := 24) (d := 83) rfl rfl (by kernel_rfl) (by kernel_rfl) (by kernel_rfl) (fun _ _ _ _ => NormalOnly.any) rfl HS ?_
                    try simp only [List.setIfInBounds_toArray, List.set_cons_zero, List.set_cons_succ]
                    refine skip_at (i := 25) (d := 84) rfl rfl (by kernel_rfl) (by kernel_rfl) (by kernel_rfl) (fun _ _ _ _ => NormalOnly.any) rfl HS ?_
                    try simp only [List.setIfInBounds_toArray, List.set_cons_zero, List.set_cons_succ]
                    refine skip_at (i := 26) (d := 85) rfl rfl (by kernel_rfl) (by kernel_rfl) (by kernel_rfl) (fun _ _ _ _ => NormalOnly.any) rfl HS ?_
                    try simp only [List.setIfInBounds_toArray, List.set_cons_zero, List.set_cons_succ]
                    refine skip_at (i := 27) (d := 86) rfl rfl (by kernel_rfl) (by kernel_rfl) (by kernel_rfl) (fun _ _ _ _ => NormalOnly.any) rfl HS ?_
                    try simp only [List.setIfInBounds_toArray, List.set_cons_zero, List.set_cons_succ]
                    refine skip_at (i := 28) (d := 87) rfl rfl (by kernel_rfl) (by kernel_rfl) (by kernel_rfl) (fun _ _ _ _ => NormalOnly.any) rfl HS ?_
                    try simp only [List.setIfInBounds_toArray, List.set_cons_zero, List.set_cons_succ]
                    refine skip_at (i := 29) (d := 88) rfl rfl (by kernel_rfl) (by kernel_rfl) (by kernel_rfl) (fun _ _ _ _ => NormalOnly.any) rfl HS ?_
                    try simp only [List.setIfInBounds_toArray, List.set_cons_zero, List.set_cons_succ]
                    refine skip_at (i := 30) (d := 89) rfl rfl (by kernel_rfl) (by kernel_rfl) (by kernel_rfl) (fun _ _ _ _ => NormalOnly.any) rfl HS ?_
                    try simp only [List.setIfInBounds_toArray, List.set_cons_zero, List.set_cons_succ]
                    refine skip_at (i := 31) (d := 90) rfl rfl (by kernel_rfl) (by kernel_rfl) (by kernel_rfl) (fun _ _ _ _ => NormalOnly.any) rfl HS ?_
                    try simp only [List.setIfInBounds_toArray, List.set_cons_zero, List.set_cons_succ]
                    refine skip_at (i := 32) (d := 91) rfl rfl (by kernel_rfl) (by kernel_rfl) (by kernel_rfl) (fun _ _ _ _ => NormalOnly.any) rfl HS ?_
                    try simp only [List.setIfInBounds_toArray, List.set_cons_zero, List.set_cons_succ]
                    refine skip_at (i := 33) (d := 92) rfl rfl (by kernel_rfl) (by kernel_rfl) (by kernel_rfl) (fun _ _ _ _ => NormalOnly.any) rfl HS ?_
                    try simp only [List.setIfInBounds_toArray, List.set_cons_zero, List.set_cons_succ]
                    refine take_at (i := 34) (d := 93) (v := ?_) rfl rfl (by kernel_rfl) (by kernel_rfl) (by kernel_rfl) (fun _ _ _ _ => NormalOnly.any) rfl ?hy11 HS ?rest11
                    case hy11 => intro w' hSw; (try dsimp only at hSw); go_simp; try (with_reducible rfl)
                    try simp only [List.setIfInBounds_toArray, List.set_cons_zero, List.set_cons_succ]
                    refine wpAnyH_done (by kernel_rfl) ⟨rfl, ?_⟩ _
                    go_wp2_with fail
                    go_meet
                    exact ⟨by rw [HZ.out], HS.2.2⟩
                  · have t1 : ((p : Int) != (q : Int)) = true := by simp; omega
                    cases hiu : inc E u c with
                    | true =>
                      rw [hiu] at HTu hnd
                      have HNu := Lib.hid (show ∀ W, Below w1.heap.size w1 W → Calls Try.prog 54 #[.pointer (some ⟨b, 0, none⟩), .int .i64 (a : Nat), .int .i64 (c : Nat), .int .i64 (u : Nat)] W fun e w' => e = .returned (.bool (nearB E a c u)) ∧ Below w1.heap.size w1 w' from fun W hb => (rnear_any w1.heap.size b n a c u E W (HR1.out.below hb) hb.size haE hcE HInc.out.1 hiu).mono fun e w' h => ⟨h.1, hb.trans (h.2.mono hb.size)⟩)
                      cases hnu : nearB E a c u with
                      | true =>
                        rw [hnu] at HNu hnd
                        have HZ : Hid (decide (ne = true ∧ p ≠ q) = true) := Lib.hid (by rw [hnd]; simp [hpq])
                        clear hnd hpq HSx HK2 HB1 HR1
                        have HS := HAll.out w1.drew (Below.refl _ _).drew
                        refine region_plain (fun W => W.cell? ⟨w.heap.size, a, none⟩ = some (.int .i64 (p : Nat)) ∧ W.cell? ⟨w.heap.size, c, none⟩ = some (.int .i64 (q : Nat)) ∧ Below w1.heap.size w1 W) (by kernel_rfl) ?_
                        refine take_at (i := 0) (d := 59) (v := ?_) rfl rfl (by kernel_rfl) (by kernel_rfl) (by kernel_rfl) (fun _ _ _ _ => NormalOnly.any) rfl ?hy12 HS ?rest12
                        case hy12 => intro w' hSw; (try dsimp only at hSw); go_simp; try (with_reducible rfl)
                        try simp only [List.setIfInBounds_toArray, List.set_cons_zero, List.set_cons_succ]
                        refine take_at (i := 1) (d := 60) (v := ?_) rfl rfl (by kernel_rfl) (by kernel_rfl) (by kernel_rfl) (fun _ _ _ _ => NormalOnly.any) rfl ?hy13 HS ?rest13
                        case hy13 => intro w' hSw; (try dsimp only at hSw); go_simp; try (with_reducible rfl)
                        try simp only [List.setIfInBounds_toArray, List.set_cons_zero, List.set_cons_succ]
                        refine take_at (i := 2) (d := 61) (v := ?_) rfl rfl (by kernel_rfl) (by kernel_rfl) (by kernel_rfl) (fun _ _ _ _ => NormalOnly.any) rfl ?hy14 HS ?rest14
                        case hy14 => intro w' hSw; (try dsimp only at hSw); go_simp; try (with_reducible rfl)
                        try simp only [List.setIfInBounds_toArray, List.set_cons_zero, List.set_cons_succ]
                        refine take_at (i := 3) (d := 62) (v := ?_) rfl rfl (by kernel_rfl) (by kernel_rfl) (by kernel_rfl) (fun _ _ _ _ => NormalOnly.any) rfl ?hy15 HS ?rest15
                        case hy15 => intro w' hSw; (try dsimp only at hSw); go_simp; try (with_reducible rfl)
                        try simp only [List.setIfInBounds_toArray, List.set_cons_zero, List.set_cons_succ]
                        refine take_at (i := 4) (d := 63) (v := ?_) rfl rfl (by kernel_rfl) (by kernel_rfl) (by kernel_rfl) (fun _ _ _ _ => NormalOnly.any) rfl ?hy16 HS ?rest16
                        case hy16 => intro w' hSw; (try dsimp only at hSw); go_simp; try (with_reducible rfl)
                        try simp only [List.setIfInBounds_toArray, List.set_cons_zero, List.set_cons_succ]
                        refine take_at (i := 5) (d := 64) (v := ?_) rfl rfl (by kernel_rfl) (by kernel_rfl) (by kernel_rfl) (fun _ _ _ _ => NormalOnly.any) rfl ?hy17 HS ?rest17
                        case hy17 => intro w' hSw; (try dsimp only at hSw); go_simp; try (with_reducible rfl)
                        try simp only [List.setIfInBounds_toArray, List.set_cons_zero, List.set_cons_succ]
                        refine take_at (i := 6) (d := 65) (v := ?_) rfl rfl (by kernel_rfl) (by kernel_rfl) (by kernel_rfl) (fun _ _ _ _ => NormalOnly.any) rfl ?hy18 HS ?rest18
                        case hy18 => intro w' hSw; (try dsimp only at hSw); go_simp; try (with_reducible rfl)
                        try simp only [List.setIfInBounds_toArray, List.set_cons_zero, List.set_cons_succ]
                        refine take_at (i := 7) (d := 66) (v := ?_) rfl rfl (by kernel_rfl) (by kernel_rfl) (by kernel_rfl) (fun _ _ _ _ => NormalOnly.any) rfl ?hy19 HS ?rest19
                        case hy19 => intro w' hSw; (try dsimp only at hSw); go_simp; try (with_reducible rfl)
                        try simp only [List.setIfInBounds_toArray, List.set_cons_zero, List.set_cons_succ]
                        refine take_at (i := 8) (d := 67) (v := ?_) rfl rfl (by kernel_rfl) (by kernel_rfl) (by kernel_rfl) (fun _ _ _ _ => NormalOnly.any) rfl ?hy20 HS ?rest20
                        case hy20 => intro w' hSw; (try dsimp only at hSw); go_simp; try (with_reducible rfl)
                        try simp only [List.setIfInBounds_toArray, List.set_cons_zero, List.set_cons_succ]
                        refine take_at (i := 9) (d := 68) (v := ?_) rfl rfl (by kernel_rfl) (by kernel_rfl) (by kernel_rfl) (fun _ _ _ _ => NormalOnly.any) rfl ?hy21 HS ?rest21
                        case hy21 => intro w' hSw; (try dsimp only at hSw); go_simp; try (with_reducible rfl)
                        try simp only [List.setIfInBounds_toArray, List.set_cons_zero, List.set_cons_succ]
                        refine take_at (i := 10) (d := 69) (v := ?_) rfl rfl (by kernel_rfl) (by kernel_rfl) (by kernel_rfl) (fun _ _ _ _ => NormalOnly.any) rfl ?hy22 HS ?rest22
                        case hy22 => intro w' hSw; (try dsimp only at hSw); go_simp; try (with_reducible rfl)
                        try simp only [List.setIfInBounds_toArray, List.set_cons_zero, List.set_cons_succ]
                        refine take_at (i := 11) (d := 70) (v := ?_) rfl rfl (by kernel_rfl) (by kernel_rfl) (by kernel_rfl) (fun _ _ _ _ => NormalOnly.any) rfl ?hy23 HS ?rest23
                        case hy23 => intro w' hSw; (try dsimp only at hSw); go_simp; try (with_reducible rfl)
                        try simp only [List.setIfInBounds_toArray, List.set_cons_zero, List.set_cons_succ]
                        refine take_at (i := 12) (d := 71) (v := ?_) rfl rfl (by kernel_rfl) (by kernel_rfl) (by kernel_rfl) (fun _ _ _ _ => NormalOnly.any) rfl ?hy24 HS ?rest24
                        case hy24 => intro w' hSw; (try dsimp only at hSw); go_simp; try (with_reducible rfl)
                        try simp only [List.setIfInBounds_toArray, List.set_cons_zero, List.set_cons_succ]
                        refine wpAnyH_ready (rs := [13]) (by kernel_rfl) (by simp) ?_
                        refine AllReadyH.cons rfl (fun K hK => ?_) AllReadyH.nil
                        go_simp
                        go_wp2_with (go_at_call_of 53 (Value.int IntKind.i64 ((u : Nat) : Int)); refine (HTu.out _ HS.2.2).mono ?_; rintro e w' ⟨rfl, rfl⟩)
                        refine hK.out _ _ HS (fun _ => ?_)
                        clear hK
                        refine take_at (i := 14) (d := 73) (v := ?_) rfl rfl (by kernel_rfl) (by kernel_rfl) (by kernel_rfl) (fun _ _ _ _ => NormalOnly.any) rfl ?hy25 HS ?rest25
                        case hy25 => intro w' hSw; (try dsimp only at hSw); go_simp; try (with_reducible rfl)
                        try simp only [List.setIfInBounds_toArray, List.set_cons_zero, List.set_cons_succ]
                        refine take_at (i := 15) (d := 74) (v := ?_) rfl rfl (by kernel_rfl) (by kernel_rfl) (by kernel_rfl) (fun _ _ _ _ => NormalOnly.any) rfl ?hy26 HS ?rest26
                        case hy26 => intro w' hSw; (try dsimp only at hSw); go_simp; try (with_reducible rfl)
                        try simp only [List.setIfInBounds_toArray, List.set_cons_zero, List.set_cons_succ]
                        refine take_at (i := 16) (d := 75) (v := ?_) rfl rfl (by kernel_rfl) (by kernel_rfl) (by kernel_rfl) (fun _ _ _ _ => NormalOnly.any) rfl ?hy27 HS ?rest27
                        case hy27 => intro w' hSw; (try dsimp only at hSw); go_simp; try (with_reducible rfl)
                        try simp only [List.setIfInBounds_toArray, List.set_cons_zero, List.set_cons_succ]
                        refine take_at (i := 17) (d := 76) (v := ?_) rfl rfl (by kernel_rfl) (by kernel_rfl) (by kernel_rfl) (fun _ _ _ _ => NormalOnly.any) rfl ?hy28 HS ?rest28
                        case hy28 => intro w' hSw; (try dsimp only at hSw); go_simp; try (with_reducible rfl)
                        try simp only [List.setIfInBounds_toArray, List.set_cons_zero, List.set_cons_succ]
                        refine take_at (i := 18) (d := 77) (v := ?_) rfl rfl (by kernel_rfl) (by kernel_rfl) (by kernel_rfl) (fun _ _ _ _ => NormalOnly.any) rfl ?hy29 HS ?rest29
                        case hy29 => intro w' hSw; (try dsimp only at hSw); go_simp; try (with_reducible rfl)
                        try simp only [List.setIfInBounds_toArray, List.set_cons_zero, List.set_cons_succ]
                        refine wpAnyH_ready (rs := [19]) (by kernel_rfl) (by simp) ?_
                        refine AllReadyH.cons rfl (fun K hK => ?_) AllReadyH.nil
                        go_simp
                        go_wp2_with (go_at_call_of 54 (Value.int IntKind.i64 ((u : Nat) : Int)); refine (HNu.out _ HS.2.2).mono ?_; rintro e w' ⟨rfl, N9⟩)
                        have HS := HAll.out _ N9
                        clear N9
                        refine hK.out _ _ HS (fun _ => ?_)
                        clear hK
                        refine take_at (i := 20) (d := 79) (v := ?_) rfl rfl (by kernel_rfl) (by kernel_rfl) (by kernel_rfl) (fun _ _ _ _ => NormalOnly.any) rfl ?hy30 HS ?rest30
                        case hy30 => intro w' hSw; (try dsimp only at hSw); go_simp; try (with_reducible rfl)
                        try simp only [List.setIfInBounds_toArray, List.set_cons_zero, List.set_cons_succ]
                        refine take_at (i := 21) (d := 80) (v := ?_) rfl rfl (by kernel_rfl) (by kernel_rfl) (by kernel_rfl) (fun _ _ _ _ => NormalOnly.any) rfl ?hy31 HS ?rest31
                        case hy31 => intro w' hSw; (try dsimp only at hSw); go_simp; try (with_reducible rfl)
                        try simp only [List.setIfInBounds_toArray, List.set_cons_zero, List.set_cons_succ]
                        refine skip_at (i := 22) (d := 81) rfl rfl (by kernel_rfl) (by kernel_rfl) (by kernel_rfl) (fun _ _ _ _ => NormalOnly.any) rfl HS ?_
                        try simp only [List.setIfInBounds_toArray, List.set_cons_zero, List.set_cons_succ]
                        refine skip_at (i := 23) (d := 82) rfl rfl (by kernel_rfl) (by kernel_rfl) (by kernel_rfl) (fun _ _ _ _ => NormalOnly.any) rfl HS ?_
                        try simp only [List.setIfInBounds_toArray, List.set_cons_zero, List.set_cons_succ]
                        refine skip_at (i := 24) (d := 83) rfl rfl (by kernel_rfl) (by kernel_rfl) (by kernel_rfl) (fun _ _ _ _ => NormalOnly.any) rfl HS ?_
                        try simp only [List.setIfInBounds_toArray, List.set_cons_zero, List.set_cons_succ]
                        refine skip_at (i := 25) (d := 84) rfl rfl (by kernel_rfl) (by kernel_rfl) (by kernel_rfl) (fun _ _ _ _ => NormalOnly.any) rfl HS ?_
                        try simp only [List.setIfInBounds_toArray, List.set_cons_zero, List.set_cons_succ]
                        refine skip_at (i := 26) (d := 85) rfl rfl (by kernel_rfl) (by kernel_rfl) (by kernel_rfl) (fun _ _ _ _ => NormalOnly.any) rfl HS ?_
                        try simp only [List.setIfInBounds_toArray, List.set_cons_zero, List.set_cons_succ]
                        refine skip_at (i := 27) (d := 86) rfl rfl (by kernel_rfl) (by kernel_rfl) (by kernel_rfl) (fun _ _ _ _ => NormalOnly.any) rfl HS ?_
                        try simp only [List.setIfInBounds_toArray, List.set_cons_zero, List.set_cons_succ]
                        refine skip_at (i := 28) (d := 87) rfl rfl (by kernel_rfl) (by kernel_rfl) (by kernel_rfl) (fun _ _ _ _ => NormalOnly.any) rfl HS ?_
                        try simp only [List.setIfInBounds_toArray, List.set_cons_zero, List.set_cons_succ]
                        refine skip_at (i := 29) (d := 88) rfl rfl (by kernel_rfl) (by kernel_rfl) (by kernel_rfl) (fun _ _ _ _ => NormalOnly.any) rfl HS ?_
                        try simp only [List.setIfInBounds_toArray, List.set_cons_zero, List.set_cons_succ]
                        refine skip_at (i := 30) (d := 89) rfl rfl (by kernel_rfl) (by kernel_rfl) (by kernel_rfl) (fun _ _ _ _ => NormalOnly.any) rfl HS ?_
                        try simp only [List.setIfInBounds_toArray, List.set_cons_zero, List.set_cons_succ]
                        refine skip_at (i := 31) (d := 90) rfl rfl (by kernel_rfl) (by kernel_rfl) (by kernel_rfl) (fun _ _ _ _ => NormalOnly.any) rfl HS ?_
                        try simp only [List.setIfInBounds_toArray, List.set_cons_zero, List.set_cons_succ]
                        refine skip_at (i := 32) (d := 91) rfl rfl (by kernel_rfl) (by kernel_rfl) (by kernel_rfl) (fun _ _ _ _ => NormalOnly.any) rfl HS ?_
                        try simp only [List.setIfInBounds_toArray, List.set_cons_zero, List.set_cons_succ]
                        refine take_at (i := 33) (d := 92) (v := ?_) rfl rfl (by kernel_rfl) (by kernel_rfl) (by kernel_rfl) (fun _ _ _ _ => NormalOnly.any) rfl ?hy32 HS ?rest32
                        case hy32 => intro w' hSw; (try dsimp only at hSw); go_simp; try (with_reducible rfl)
                        try simp only [List.setIfInBounds_toArray, List.set_cons_zero, List.set_cons_succ]
                        refine take_at (i := 34) (d := 93) (v := ?_) rfl rfl (by kernel_rfl) (by kernel_rfl) (by kernel_rfl) (fun _ _ _ _ => NormalOnly.any) rfl ?hy33 HS ?rest33
                        case hy33 => intro w' hSw; (try dsimp only at hSw); go_simp; try (with_reducible rfl)
                        try simp only [List.setIfInBounds_toArray, List.set_cons_zero, List.set_cons_succ]
                        refine wpAnyH_done (by kernel_rfl) ⟨rfl, ?_⟩ _
                        go_wp2_with fail
                        go_meet
                        exact ⟨by rw [HZ.out], HS.2.2⟩
                      | false =>
                        rw [hnu] at HNu hnd
                        cases hiv : inc E v c with
                        | true =>
                          rw [hiv] at HTv hnd
                          have HNv := Lib.hid (show ∀ W, Below w1.heap.size w1 W → Calls Try.prog 54 #[.pointer (some ⟨b, 0, none⟩), .int .i64 (a : Nat), .int .i64 (c : Nat), .int .i64 (v : Nat)] W fun e w' => e = .returned (.bool (nearB E a c v)) ∧ Below w1.heap.size w1 w' from fun W hb => (rnear_any w1.heap.size b n a c v E W (HR1.out.below hb) hb.size haE hcE HInc.out.2 hiv).mono fun e w' h => ⟨h.1, hb.trans (h.2.mono hb.size)⟩)
                          cases hnv : nearB E a c v with
                          | true =>
                            rw [hnv] at HNv hnd
                            have HZ : Hid (decide (ne = true ∧ p ≠ q) = true) := Lib.hid (by rw [hnd]; simp [hpq])
                            clear hnd hpq HSx HK2 HB1 HR1
                            have HS := HAll.out w1.drew (Below.refl _ _).drew
                            refine region_plain (fun W => W.cell? ⟨w.heap.size, a, none⟩ = some (.int .i64 (p : Nat)) ∧ W.cell? ⟨w.heap.size, c, none⟩ = some (.int .i64 (q : Nat)) ∧ Below w1.heap.size w1 W) (by kernel_rfl) ?_
                            refine take_at (i := 0) (d := 59) (v := ?_) rfl rfl (by kernel_rfl) (by kernel_rfl) (by kernel_rfl) (fun _ _ _ _ => NormalOnly.any) rfl ?hy34 HS ?rest34
                            case hy34 => intro w' hSw; (try dsimp only at hSw); go_simp; try (with_reducible rfl)
                            try simp only [List.setIfInBounds_toArray, List.set_cons_zero, List.set_cons_succ]
                            refine take_at (i := 1) (d := 60) (v := ?_) rfl rfl (by kernel_rfl) (by kernel_rfl) (by kernel_rfl) (fun _ _ _ _ => NormalOnly.any) rfl ?hy35 HS ?rest35
                            case hy35 => intro w' hSw; (try dsimp only at hSw); go_simp; try (with_reducible rfl)
                            try simp only [List.setIfInBounds_toArray, List.set_cons_zero, List.set_cons_succ]
                            refine take_at (i := 2) (d := 61) (v := ?_) rfl rfl (by kernel_rfl) (by kernel_rfl) (by kernel_rfl) (fun _ _ _ _ => NormalOnly.any) rfl ?hy36 HS ?rest36
                            case hy36 => intro w' hSw; (try dsimp only at hSw); go_simp; try (with_reducible rfl)
                            try simp only [List.setIfInBounds_toArray, List.set_cons_zero, List.set_cons_succ]
                            refine take_at (i := 3) (d := 62) (v := ?_) rfl rfl (by kernel_rfl) (by kernel_rfl) (by kernel_rfl) (fun _ _ _ _ => NormalOnly.any) rfl ?hy37 HS ?rest37
                            case hy37 => intro w' hSw; (try dsimp only at hSw); go_simp; try (with_reducible rfl)
                            try simp only [List.setIfInBounds_toArray, List.set_cons_zero, List.set_cons_succ]
                            refine take_at (i := 4) (d := 63) (v := ?_) rfl rfl (by kernel_rfl) (by kernel_rfl) (by kernel_rfl) (fun _ _ _ _ => NormalOnly.any) rfl ?hy38 HS ?rest38
                            case hy38 => intro w' hSw; (try dsimp only at hSw); go_simp; try (with_reducible rfl)
                            try simp only [List.setIfInBounds_toArray, List.set_cons_zero, List.set_cons_succ]
                            refine take_at (i := 5) (d := 64) (v := ?_) rfl rfl (by kernel_rfl) (by kernel_rfl) (by kernel_rfl) (fun _ _ _ _ => NormalOnly.any) rfl ?hy39 HS ?rest39
                            case hy39 => intro w' hSw; (try dsimp only at hSw); go_simp; try (with_reducible rfl)
                            try simp only [List.setIfInBounds_toArray, List.set_cons_zero, List.set_cons_succ]
                            refine take_at (i := 6) (d := 65) (v := ?_) rfl rfl (by kernel_rfl) (by kernel_rfl) (by kernel_rfl) (fun _ _ _ _ => NormalOnly.any) rfl ?hy40 HS ?rest40
                            case hy40 => intro w' hSw; (try dsimp only at hSw); go_simp; try (with_reducible rfl)
                            try simp only [List.setIfInBounds_toArray, List.set_cons_zero, List.set_cons_succ]
                            refine take_at (i := 7) (d := 66) (v := ?_) rfl rfl (by kernel_rfl) (by kernel_rfl) (by kernel_rfl) (fun _ _ _ _ => NormalOnly.any) rfl ?hy41 HS ?rest41
                            case hy41 => intro w' hSw; (try dsimp only at hSw); go_simp; try (with_reducible rfl)
                            try simp only [List.setIfInBounds_toArray, List.set_cons_zero, List.set_cons_succ]
                            refine take_at (i := 8) (d := 67) (v := ?_) rfl rfl (by kernel_rfl) (by kernel_rfl) (by kernel_rfl) (fun _ _ _ _ => NormalOnly.any) rfl ?hy42 HS ?rest42
                            case hy42 => intro w' hSw; (try dsimp only at hSw); go_simp; try (with_reducible rfl)
                            try simp only [List.setIfInBounds_toArray, List.set_cons_zero, List.set_cons_succ]
                            refine take_at (i := 9) (d := 68) (v := ?_) rfl rfl (by kernel_rfl) (by kernel_rfl) (by kernel_rfl) (fun _ _ _ _ => NormalOnly.any) rfl ?hy43 HS ?rest43
                            case hy43 => intro w' hSw; (try dsimp only at hSw); go_simp; try (with_reducible rfl)
                            try simp only [List.setIfInBounds_toArray, List.set_cons_zero, List.set_cons_succ]
                            refine take_at (i := 10) (d := 69) (v := ?_) rfl rfl (by kernel_rfl) (by kernel_rfl) (by kernel_rfl) (fun _ _ _ _ => NormalOnly.any) rfl ?hy44 HS ?rest44
                            case hy44 => intro w' hSw; (try dsimp only at hSw); go_simp; try (with_reducible rfl)
                            try simp only [List.setIfInBounds_toArray, List.set_cons_zero, List.set_cons_succ]
                            refine take_at (i := 11) (d := 70) (v := ?_) rfl rfl (by kernel_rfl) (by kernel_rfl) (by kernel_rfl) (fun _ _ _ _ => NormalOnly.any) rfl ?hy45 HS ?rest45
                            case hy45 => intro w' hSw; (try dsimp only at hSw); go_simp; try (with_reducible rfl)
                            try simp only [List.setIfInBounds_toArray, List.set_cons_zero, List.set_cons_succ]
                            refine take_at (i := 12) (d := 71) (v := ?_) rfl rfl (by kernel_rfl) (by kernel_rfl) (by kernel_rfl) (fun _ _ _ _ => NormalOnly.any) rfl ?hy46 HS ?rest46
                            case hy46 => intro w' hSw; (try dsimp only at hSw); go_simp; try (with_reducible rfl)
                            try simp only [List.setIfInBounds_toArray, List.set_cons_zero, List.set_cons_succ]
                            refine wpAnyH_ready (rs := [13]) (by kernel_rfl) (by simp) ?_
                            refine AllReadyH.cons rfl (fun K hK => ?_) AllReadyH.nil
                            go_simp
                            go_wp2_with (go_at_call_of 53 (Value.int IntKind.i64 ((u : Nat) : Int)); refine (HTu.out _ HS.2.2).mono ?_; rintro e w' ⟨rfl, rfl⟩)
                            refine hK.out _ _ HS (fun _ => ?_)
                            clear hK
                            refine take_at (i := 14) (d := 73) (v := ?_) rfl rfl (by kernel_rfl) (by kernel_rfl) (by kernel_rfl) (fun _ _ _ _ => NormalOnly.any) rfl ?hy47 HS ?rest47
                            case hy47 => intro w' hSw; (try dsimp only at hSw); go_simp; try (with_reducible rfl)
                            try simp only [List.setIfInBounds_toArray, List.set_cons_zero, List.set_cons_succ]
                            refine take_at (i := 15) (d := 74) (v := ?_) rfl rfl (by kernel_rfl) (by kernel_rfl) (by kernel_rfl) (fun _ _ _ _ => NormalOnly.any) rfl ?hy48 HS ?rest48
                            case hy48 => intro w' hSw; (try dsimp only at hSw); go_simp; try (with_reducible rfl)
                            try simp only [List.setIfInBounds_toArray, List.set_cons_zero, List.set_cons_succ]
                            refine take_at (i := 16) (d := 75) (v := ?_) rfl rfl (by kernel_rfl) (by kernel_rfl) (by kernel_rfl) (fun _ _ _ _ => NormalOnly.any) rfl ?hy49 HS ?rest49
                            case hy49 => intro w' hSw; (try dsimp only at hSw); go_simp; try (with_reducible rfl)
                            try simp only [List.setIfInBounds_toArray, List.set_cons_zero, List.set_cons_succ]
                            refine take_at (i := 17) (d := 76) (v := ?_) rfl rfl (by kernel_rfl) (by kernel_rfl) (by kernel_rfl) (fun _ _ _ _ => NormalOnly.any) rfl ?hy50 HS ?rest50
                            case hy50 => intro w' hSw; (try dsimp only at hSw); go_simp; try (with_reducible rfl)
                            try simp only [List.setIfInBounds_toArray, List.set_cons_zero, List.set_cons_succ]
                            refine take_at (i := 18) (d := 77) (v := ?_) rfl rfl (by kernel_rfl) (by kernel_rfl) (by kernel_rfl) (fun _ _ _ _ => NormalOnly.any) rfl ?hy51 HS ?rest51
                            case hy51 => intro w' hSw; (try dsimp only at hSw); go_simp; try (with_reducible rfl)
                            try simp only [List.setIfInBounds_toArray, List.set_cons_zero, List.set_cons_succ]
                            refine wpAnyH_ready (rs := [19]) (by kernel_rfl) (by simp) ?_
                            refine AllReadyH.cons rfl (fun K hK => ?_) AllReadyH.nil
                            go_simp
                            go_wp2_with (go_at_call_of 54 (Value.int IntKind.i64 ((u : Nat) : Int)); refine (HNu.out _ HS.2.2).mono ?_; rintro e w' ⟨rfl, N9⟩)
                            have HS := HAll.out _ N9
                            clear N9
                            refine hK.out _ _ HS (fun _ => ?_)
                            clear hK
                            refine take_at (i := 20) (d := 79) (v := ?_) rfl rfl (by kernel_rfl) (by kernel_rfl) (by kernel_rfl) (fun _ _ _ _ => NormalOnly.any) rfl ?hy52 HS ?rest52
                            case hy52 => intro w' hSw; (try dsimp only at hSw); go_simp; try (with_reducible rfl)
                            try simp only [List.setIfInBounds_toArray, List.set_cons_zero, List.set_cons_succ]
                            refine take_at (i := 21) (d := 80) (v := ?_) rfl rfl (by kernel_rfl) (by kernel_rfl) (by kernel_rfl) (fun _ _ _ _ => NormalOnly.any) rfl ?hy53 HS ?rest53
                            case hy53 => intro w' hSw; (try dsimp only at hSw); go_simp; try (with_reducible rfl)
                            try simp only [List.setIfInBounds_toArray, List.set_cons_zero, List.set_cons_succ]
                            refine take_at (i := 22) (d := 81) (v := ?_) rfl rfl (by kernel_rfl) (by kernel_rfl) (by kernel_rfl) (fun _ _ _ _ => NormalOnly.any) rfl ?hy54 HS ?rest54
                            case hy54 => intro w' hSw; (try dsimp only at hSw); go_simp; try (with_reducible rfl)
                            try simp only [List.setIfInBounds_toArray, List.set_cons_zero, List.set_cons_succ]
                            refine take_at (i := 23) (d := 82) (v := ?_) rfl rfl (by kernel_rfl) (by kernel_rfl) (by kernel_rfl) (fun _ _ _ _ => NormalOnly.any) rfl ?hy55 HS ?rest55
                            case hy55 => intro w' hSw; (try dsimp only at hSw); go_simp; try (with_reducible rfl)
                            try simp only [List.setIfInBounds_toArray, List.set_cons_zero, List.set_cons_succ]
                            refine take_at (i := 24) (d := 83) (v := ?_) rfl rfl (by kernel_rfl) (by kernel_rfl) (by kernel_rfl) (fun _ _ _ _ => NormalOnly.any) rfl ?hy56 HS ?rest56
                            case hy56 => intro w' hSw; (try dsimp only at hSw); go_simp; try (with_reducible rfl)
                            try simp only [List.setIfInBounds_toArray, List.set_cons_zero, List.set_cons_succ]
                            refine wpAnyH_ready (rs := [25]) (by kernel_rfl) (by simp) ?_
                            refine AllReadyH.cons rfl (fun K hK => ?_) AllReadyH.nil
                            go_simp
                            go_wp2_with (go_at_call_of 53 (Value.int IntKind.i64 ((v : Nat) : Int)); refine (HTv.out _ HS.2.2).mono ?_; rintro e w' ⟨rfl, rfl⟩)
                            refine hK.out _ _ HS (fun _ => ?_)
                            clear hK
                            refine take_at (i := 26) (d := 85) (v := ?_) rfl rfl (by kernel_rfl) (by kernel_rfl) (by kernel_rfl) (fun _ _ _ _ => NormalOnly.any) rfl ?hy57 HS ?rest57
                            case hy57 => intro w' hSw; (try dsimp only at hSw); go_simp; try (with_reducible rfl)
                            try simp only [List.setIfInBounds_toArray, List.set_cons_zero, List.set_cons_succ]
                            refine take_at (i := 27) (d := 86) (v := ?_) rfl rfl (by kernel_rfl) (by kernel_rfl) (by kernel_rfl) (fun _ _ _ _ => NormalOnly.any) rfl ?hy58 HS ?rest58
                            case hy58 => intro w' hSw; (try dsimp only at hSw); go_simp; try (with_reducible rfl)
                            try simp only [List.setIfInBounds_toArray, List.set_cons_zero, List.set_cons_succ]
                            refine take_at (i := 28) (d := 87) (v := ?_) rfl rfl (by kernel_rfl) (by kernel_rfl) (by kernel_rfl) (fun _ _ _ _ => NormalOnly.any) rfl ?hy59 HS ?rest59
                            case hy59 => intro w' hSw; (try dsimp only at hSw); go_simp; try (with_reducible rfl)
                            try simp only [List.setIfInBounds_toArray, List.set_cons_zero, List.set_cons_succ]
                            refine take_at (i := 29) (d := 88) (v := ?_) rfl rfl (by kernel_rfl) (by kernel_rfl) (by kernel_rfl) (fun _ _ _ _ => NormalOnly.any) rfl ?hy60 HS ?rest60
                            case hy60 => intro w' hSw; (try dsimp only at hSw); go_simp; try (with_reducible rfl)
                            try simp only [List.setIfInBounds_toArray, List.set_cons_zero, List.set_cons_succ]
                            refine take_at (i := 30) (d := 89) (v := ?_) rfl rfl (by kernel_rfl) (by kernel_rfl) (by kernel_rfl) (fun _ _ _ _ => NormalOnly.any) rfl ?hy61 HS ?rest61
                            case hy61 => intro w' hSw; (try dsimp only at hSw); go_simp; try (with_reducible rfl)
                            try simp only [List.setIfInBounds_toArray, List.set_cons_zero, List.set_cons_succ]
                            refine wpAnyH_ready (rs := [31]) (by kernel_rfl) (by simp) ?_
                            refine AllReadyH.cons rfl (fun K hK => ?_) AllReadyH.nil
                            go_simp
                            go_wp2_with (go_at_call_of 54 (Value.int IntKind.i64 ((v : Nat) : Int)); refine (HNv.out _ HS.2.2).mono ?_; rintro e w' ⟨rfl, N9⟩)
                            have HS := HAll.out _ N9
                            clear N9
                            refine hK.out _ _ HS (fun _ => ?_)
                            clear hK
                            refine take_at (i := 32) (d := 91) (v := ?_) rfl rfl (by kernel_rfl) (by kernel_rfl) (by kernel_rfl) (fun _ _ _ _ => NormalOnly.any) rfl ?hy62 HS ?rest62
                            case hy62 => intro w' hSw; (try dsimp only at hSw); go_simp; try (with_reducible rfl)
                            try simp only [List.setIfInBounds_toArray, List.set_cons_zero, List.set_cons_succ]
                            refine take_at (i := 33) (d := 92) (v := ?_) rfl rfl (by kernel_rfl) (by kernel_rfl) (by kernel_rfl) (fun _ _ _ _ => NormalOnly.any) rfl ?hy63 HS ?rest63
                            case hy63 => intro w' hSw; (try dsimp only at hSw); go_simp; try (with_reducible rfl)
                            try simp only [List.setIfInBounds_toArray, List.set_cons_zero, List.set_cons_succ]
                            refine take_at (i := 34) (d := 93) (v := ?_) rfl rfl (by kernel_rfl) (by kernel_rfl) (by kernel_rfl) (fun _ _ _ _ => NormalOnly.any) rfl ?hy64 HS ?rest64
                            case hy64 => intro w' hSw; (try dsimp only at hSw); go_simp; try (with_reducible rfl)
                            try simp only [List.setIfInBounds_toArray, List.set_cons_zero, List.set_cons_succ]
                            refine wpAnyH_done (by kernel_rfl) ⟨rfl, ?_⟩ _
                            go_wp2_with fail
                            go_meet
                            exact ⟨by rw [HZ.out], HS.2.2⟩
                          | false =>
                            rw [hnv] at HNv hnd
                            have HZ : Hid (decide (ne = true ∧ p ≠ q) = false) := Lib.hid (by rw [hnd]; simp [hpq])
                            clear hnd hpq HSx HK2 HB1 HR1
                            have HS := HAll.out w1.drew (Below.refl _ _).drew
                            refine region_plain (fun W => W.cell? ⟨w.heap.size, a, none⟩ = some (.int .i64 (p : Nat)) ∧ W.cell? ⟨w.heap.size, c, none⟩ = some (.int .i64 (q : Nat)) ∧ Below w1.heap.size w1 W) (by kernel_rfl) ?_
                            refine take_at (i := 0) (d := 59) (v := ?_) rfl rfl (by kernel_rfl) (by kernel_rfl) (by kernel_rfl) (fun _ _ _ _ => NormalOnly.any) rfl ?hy65 HS ?rest65
                            case hy65 => intro w' hSw; (try dsimp only at hSw); go_simp; try (with_reducible rfl)
                            try simp only [List.setIfInBounds_toArray, List.set_cons_zero, List.set_cons_succ]
                            refine take_at (i := 1) (d := 60) (v := ?_) rfl rfl (by kernel_rfl) (by kernel_rfl) (by kernel_rfl) (fun _ _ _ _ => NormalOnly.any) rfl ?hy66 HS ?rest66
                            case hy66 => intro w' hSw; (try dsimp only at hSw); go_simp; try (with_reducible rfl)
                            try simp only [List.setIfInBounds_toArray, List.set_cons_zero, List.set_cons_succ]
                            refine take_at (i := 2) (d := 61) (v := ?_) rfl rfl (by kernel_rfl) (by kernel_rfl) (by kernel_rfl) (fun _ _ _ _ => NormalOnly.any) rfl ?hy67 HS ?rest67
                            case hy67 => intro w' hSw; (try dsimp only at hSw); go_simp; try (with_reducible rfl)
                            try simp only [List.setIfInBounds_toArray, List.set_cons_zero, List.set_cons_succ]
                            refine take_at (i := 3) (d := 62) (v := ?_) rfl rfl (by kernel_rfl) (by kernel_rfl) (by kernel_rfl) (fun _ _ _ _ => NormalOnly.any) rfl ?hy68 HS ?rest68
                            case hy68 => intro w' hSw; (try dsimp only at hSw); go_simp; try (with_reducible rfl)
                            try simp only [List.setIfInBounds_toArray, List.set_cons_zero, List.set_cons_succ]
                            refine take_at (i := 4) (d := 63) (v := ?_) rfl rfl (by kernel_rfl) (by kernel_rfl) (by kernel_rfl) (fun _ _ _ _ => NormalOnly.any) rfl ?hy69 HS ?rest69
                            case hy69 => intro w' hSw; (try dsimp only at hSw); go_simp; try (with_reducible rfl)
                            try simp only [List.setIfInBounds_toArray, List.set_cons_zero, List.set_cons_succ]
                            refine take_at (i := 5) (d := 64) (v := ?_) rfl rfl (by kernel_rfl) (by kernel_rfl) (by kernel_rfl) (fun _ _ _ _ => NormalOnly.any) rfl ?hy70 HS ?rest70
                            case hy70 => intro w' hSw; (try dsimp only at hSw); go_simp; try (with_reducible rfl)
                            try simp only [List.setIfInBounds_toArray, List.set_cons_zero, List.set_cons_succ]
                            refine take_at (i := 6) (d := 65) (v := ?_) rfl rfl (by kernel_rfl) (by kernel_rfl) (by kernel_rfl) (fun _ _ _ _ => NormalOnly.any) rfl ?hy71 HS ?rest71
                            case hy71 => intro w' hSw; (try dsimp only at hSw); go_simp; try (with_reducible rfl)
                            try simp only [List.setIfInBounds_toArray, List.set_cons_zero, List.set_cons_succ]
                            refine take_at (i := 7) (d := 66) (v := ?_) rfl rfl (by kernel_rfl) (by kernel_rfl) (by kernel_rfl) (fun _ _ _ _ => NormalOnly.any) rfl ?hy72 HS ?rest72
                            case hy72 => intro w' hSw; (try dsimp only at hSw); go_simp; try (with_reducible rfl)
                            try simp only [List.setIfInBounds_toArray, List.set_cons_zero, List.set_cons_succ]
                            refine take_at (i := 8) (d := 67) (v := ?_) rfl rfl (by kernel_rfl) (by kernel_rfl) (by kernel_rfl) (fun _ _ _ _ => NormalOnly.any) rfl ?hy73 HS ?rest73
                            case hy73 => intro w' hSw; (try dsimp only at hSw); go_simp; try (with_reducible rfl)
                            try simp only [List.setIfInBounds_toArray, List.set_cons_zero, List.set_cons_succ]
                            refine take_at (i := 9) (d := 68) (v := ?_) rfl rfl (by kernel_rfl) (by kernel_rfl) (by kernel_rfl) (fun _ _ _ _ => NormalOnly.any) rfl ?hy74 HS ?rest74
                            case hy74 => intro w' hSw; (try dsimp only at hSw); go_simp; try (with_reducible rfl)
                            try simp only [List.setIfInBounds_toArray, List.set_cons_zero, List.set_cons_succ]
                            refine take_at (i := 10) (d := 69) (v := ?_) rfl rfl (by kernel_rfl) (by kernel_rfl) (by kernel_rfl) (fun _ _ _ _ => NormalOnly.any) rfl ?hy75 HS ?rest75
                            case hy75 => intro w' hSw; (try dsimp only at hSw); go_simp; try (with_reducible rfl)
                            try simp only [List.setIfInBounds_toArray, List.set_cons_zero, List.set_cons_succ]
                            refine take_at (i := 11) (d := 70) (v := ?_) rfl rfl (by kernel_rfl) (by kernel_rfl) (by kernel_rfl) (fun _ _ _ _ => NormalOnly.any) rfl ?hy76 HS ?rest76
                            case hy76 => intro w' hSw; (try dsimp only at hSw); go_simp; try (with_reducible rfl)
                            try simp only [List.setIfInBounds_toArray, List.set_cons_zero, List.set_cons_succ]
                            refine take_at (i := 12) (d := 71) (v := ?_) rfl rfl (by kernel_rfl) (by kernel_rfl) (by kernel_rfl) (fun _ _ _ _ => NormalOnly.any) rfl ?hy77 HS ?rest77
                            case hy77 => intro w' hSw; (try dsimp only at hSw); go_simp; try (with_reducible rfl)
                            try simp only [List.setIfInBounds_toArray, List.set_cons_zero, List.set_cons_succ]
                            refine wpAnyH_ready (rs := [13]) (by kernel_rfl) (by simp) ?_
                            refine AllReadyH.cons rfl (fun K hK => ?_) AllReadyH.nil
                            go_simp
                            go_wp2_with (go_at_call_of 53 (Value.int IntKind.i64 ((u : Nat) : Int)); refine (HTu.out _ HS.2.2).mono ?_; rintro e w' ⟨rfl, rfl⟩)
                            refine hK.out _ _ HS (fun _ => ?_)
                            clear hK
                            refine take_at (i := 14) (d := 73) (v := ?_) rfl rfl (by kernel_rfl) (by kernel_rfl) (by kernel_rfl) (fun _ _ _ _ => NormalOnly.any) rfl ?hy78 HS ?rest78
                            case hy78 => intro w' hSw; (try dsimp only at hSw); go_simp; try (with_reducible rfl)
                            try simp only [List.setIfInBounds_toArray, List.set_cons_zero, List.set_cons_succ]
                            refine take_at (i := 15) (d := 74) (v := ?_) rfl rfl (by kernel_rfl) (by kernel_rfl) (by kernel_rfl) (fun _ _ _ _ => NormalOnly.any) rfl ?hy79 HS ?rest79
                            case hy79 => intro w' hSw; (try dsimp only at hSw); go_simp; try (with_reducible rfl)
                            try simp only [List.setIfInBounds_toArray, List.set_cons_zero, List.set_cons_succ]
                            refine take_at (i := 16) (d := 75) (v := ?_) rfl rfl (by kernel_rfl) (by kernel_rfl) (by kernel_rfl) (fun _ _ _ _ => NormalOnly.any) rfl ?hy80 HS ?rest80
                            case hy80 => intro w' hSw; (try dsimp only at hSw); go_simp; try (with_reducible rfl)
                            try simp only [List.setIfInBounds_toArray, List.set_cons_zero, List.set_cons_succ]
                            refine take_at (i := 17) (d := 76) (v := ?_) rfl rfl (by kernel_rfl) (by kernel_rfl) (by kernel_rfl) (fun _ _ _ _ => NormalOnly.any) rfl ?hy81 HS ?rest81
                            case hy81 => intro w' hSw; (try dsimp only at hSw); go_simp; try (with_reducible rfl)
                            try simp only [List.setIfInBounds_toArray, List.set_cons_zero, List.set_cons_succ]
                            refine take_at (i := 18) (d := 77) (v := ?_) rfl rfl (by kernel_rfl) (by kernel_rfl) (by kernel_rfl) (fun _ _ _ _ => NormalOnly.any) rfl ?hy82 HS ?rest82
                            case hy82 => intro w' hSw; (try dsimp only at hSw); go_simp; try (with_reducible rfl)
                            try simp only [List.setIfInBounds_toArray, List.set_cons_zero, List.set_cons_succ]
                            refine wpAnyH_ready (rs := [19]) (by kernel_rfl) (by simp) ?_
                            refine AllReadyH.cons rfl (fun K hK => ?_) AllReadyH.nil
                            go_simp
                            go_wp2_with (go_at_call_of 54 (Value.int IntKind.i64 ((u : Nat) : Int)); refine (HNu.out _ HS.2.2).mono ?_; rintro e w' ⟨rfl, N9⟩)
                            have HS := HAll.out _ N9
                            clear N9
                            refine hK.out _ _ HS (fun _ => ?_)
                            clear hK
                            refine take_at (i := 20) (d := 79) (v := ?_) rfl rfl (by kernel_rfl) (by kernel_rfl) (by kernel_rfl) (fun _ _ _ _ => NormalOnly.any) rfl ?hy83 HS ?rest83
                            case hy83 => intro w' hSw; (try dsimp only at hSw); go_simp; try (with_reducible rfl)
                            try simp only [List.setIfInBounds_toArray, List.set_cons_zero, List.set_cons_succ]
                            refine take_at (i := 21) (d := 80) (v := ?_) rfl rfl (by kernel_rfl) (by kernel_rfl) (by kernel_rfl) (fun _ _ _ _ => NormalOnly.any) rfl ?hy84 HS ?rest84
                            case hy84 => intro w' hSw; (try dsimp only at hSw); go_simp; try (with_reducible rfl)
                            try simp only [List.setIfInBounds_toArray, List.set_cons_zero, List.set_cons_succ]
                            refine take_at (i := 22) (d := 81) (v := ?_) rfl rfl (by kernel_rfl) (by kernel_rfl) (by kernel_rfl) (fun _ _ _ _ => NormalOnly.any) rfl ?hy85 HS ?rest85
                            case hy85 => intro w' hSw; (try dsimp only at hSw); go_simp; try (with_reducible rfl)
                            try simp only [List.setIfInBounds_toArray, List.set_cons_zero, List.set_cons_succ]
                            refine take_at (i := 23) (d := 82) (v := ?_) rfl rfl (by kernel_rfl) (by kernel_rfl) (by kernel_rfl) (fun _ _ _ _ => NormalOnly.any) rfl ?hy86 HS ?rest86
                            case hy86 => intro w' hSw; (try dsimp only at hSw); go_simp; try (with_reducible rfl)
                            try simp only [List.setIfInBounds_toArray, List.set_cons_zero, List.set_cons_succ]
                            refine take_at (i := 24) (d := 83) (v := ?_) rfl rfl (by kernel_rfl) (by kernel_rfl) (by kernel_rfl) (fun _ _ _ _ => NormalOnly.any) rfl ?hy87 HS ?rest87
                            case hy87 => intro w' hSw; (try dsimp only at hSw); go_simp; try (with_reducible rfl)
                            try simp only [List.setIfInBounds_toArray, List.set_cons_zero, List.set_cons_succ]
                            refine wpAnyH_ready (rs := [25]) (by kernel_rfl) (by simp) ?_
                            refine AllReadyH.cons rfl (fun K hK => ?_) AllReadyH.nil
                            go_simp
                            go_wp2_with (go_at_call_of 53 (Value.int IntKind.i64 ((v : Nat) : Int)); refine (HTv.out _ HS.2.2).mono ?_; rintro e w' ⟨rfl, rfl⟩)
                            refine hK.out _ _ HS (fun _ => ?_)
                            clear hK
                            refine take_at (i := 26) (d := 85) (v := ?_) rfl rfl (by kernel_rfl) (by kernel_rfl) (by kernel_rfl) (fun _ _ _ _ => NormalOnly.any) rfl ?hy88 HS ?rest88
                            case hy88 => intro w' hSw; (try dsimp only at hSw); go_simp; try (with_reducible rfl)
                            try simp only [List.setIfInBounds_toArray, List.set_cons_zero, List.set_cons_succ]
                            refine take_at (i := 27) (d := 86) (v := ?_) rfl rfl (by kernel_rfl) (by kernel_rfl) (by kernel_rfl) (fun _ _ _ _ => NormalOnly.any) rfl ?hy89 HS ?rest89
                            case hy89 => intro w' hSw; (try dsimp only at hSw); go_simp; try (with_reducible rfl)
                            try simp only [List.setIfInBounds_toArray, List.set_cons_zero, List.set_cons_succ]
                            refine take_at (i := 28) (d := 87) (v := ?_) rfl rfl (by kernel_rfl) (by kernel_rfl) (by kernel_rfl) (fun _ _ _ _ => NormalOnly.any) rfl ?hy90 HS ?rest90
                            case hy90 => intro w' hSw; (try dsimp only at hSw); go_simp; try (with_reducible rfl)
                            try simp only [List.setIfInBounds_toArray, List.set_cons_zero, List.set_cons_succ]
                            refine take_at (i := 29) (d := 88) (v := ?_) rfl rfl (by kernel_rfl) (by kernel_rfl) (by kernel_rfl) (fun _ _ _ _ => NormalOnly.any) rfl ?hy91 HS ?rest91
                            case hy91 => intro w' hSw; (try dsimp only at hSw); go_simp; try (with_reducible rfl)
                            try simp only [List.setIfInBounds_toArray, List.set_cons_zero, List.set_cons_succ]
                            refine take_at (i := 30) (d := 89) (v := ?_) rfl rfl (by kernel_rfl) (by kernel_rfl) (by kernel_rfl) (fun _ _ _ _ => NormalOnly.any) rfl ?hy92 HS ?rest92
                            case hy92 => intro w' hSw; (try dsimp only at hSw); go_simp; try (with_reducible rfl)
                            try simp only [List.setIfInBounds_toArray, List.set_cons_zero, List.set_cons_succ]
                            refine wpAnyH_ready (rs := [31]) (by kernel_rfl) (by simp) ?_
                            refine AllReadyH.cons rfl (fun K hK => ?_) AllReadyH.nil
                            go_simp
                            go_wp2_with (go_at_call_of 54 (Value.int IntKind.i64 ((v : Nat) : Int)); refine (HNv.out _ HS.2.2).mono ?_; rintro e w' ⟨rfl, N9⟩)
                            have HS := HAll.out _ N9
                            clear N9
                            refine hK.out _ _ HS (fun _ => ?_)
                            clear hK
                            refine take_at (i := 32) (d := 91) (v := ?_) rfl rfl (by kernel_rfl) (by kernel_rfl) (by kernel_rfl) (fun _ _ _ _ => NormalOnly.any) rfl ?hy93 HS ?rest93
                            case hy93 => intro w' hSw; (try dsimp only at hSw); go_simp; try (with_reducible rfl)
                            try simp only [List.setIfInBounds_toArray, List.set_cons_zero, List.set_cons_succ]
                            refine take_at (i := 33) (d := 92) (v := ?_) rfl rfl (by kernel_rfl) (by kernel_rfl) (by kernel_rfl) (fun _ _ _ _ => NormalOnly.any) rfl ?hy94 HS ?rest94
                            case hy94 => intro w' hSw; (try dsimp only at hSw); go_simp; try (with_reducible rfl)
                            try simp only [List.setIfInBounds_toArray, List.set_cons_zero, List.set_cons_succ]
                            refine take_at (i := 34) (d := 93) (v := ?_) rfl rfl (by kernel_rfl) (by kernel_rfl) (by kernel_rfl) (fun _ _ _ _ => NormalOnly.any) rfl ?hy95 HS ?rest95
                            case hy95 => intro w' hSw; (try dsimp only at hSw); go_simp; try (with_reducible rfl)
                            try simp only [List.setIfInBounds_toArray, List.set_cons_zero, List.set_cons_succ]
                            refine wpAnyH_done (by kernel_rfl) ⟨rfl, ?_⟩ _
                            go_wp2_with fail
                            go_meet
                            exact ⟨by rw [HZ.out], HS.2.2⟩
                        | false =>
                          rw [hiv] at HTv hnd
                          have HZ : Hid (decide (ne = true ∧ p ≠ q) = false) := Lib.hid (by rw [hnd]; simp [hpq])
                          clear hnd hpq HSx HK2 HB1 HR1
                          have HS := HAll.out w1.drew (Below.refl _ _).drew
                          refine region_plain (fun W => W.cell? ⟨w.heap.size, a, none⟩ = some (.int .i64 (p : Nat)) ∧ W.cell? ⟨w.heap.size, c, none⟩ = some (.int .i64 (q : Nat)) ∧ Below w1.heap.size w1 W) (by kernel_rfl) ?_
                          refine take_at (i := 0) (d := 59) (v := ?_) rfl rfl (by kernel_rfl) (by kernel_rfl) (by kernel_rfl) (fun _ _ _ _ => NormalOnly.any) rfl ?hy96 HS ?rest96
                          case hy96 => intro w' hSw; (try dsimp only at hSw); go_simp; try (with_reducible rfl)
                          try simp only [List.setIfInBounds_toArray, List.set_cons_zero, List.set_cons_succ]
                          refine take_at (i := 1) (d := 60) (v := ?_) rfl rfl (by kernel_rfl) (by kernel_rfl) (by kernel_rfl) (fun _ _ _ _ => NormalOnly.any) rfl ?hy97 HS ?rest97
                          case hy97 => intro w' hSw; (try dsimp only at hSw); go_simp; try (with_reducible rfl)
                          try simp only [List.setIfInBounds_toArray, List.set_cons_zero, List.set_cons_succ]
                          refine take_at (i := 2) (d := 61) (v := ?_) rfl rfl (by kernel_rfl) (by kernel_rfl) (by kernel_rfl) (fun _ _ _ _ => NormalOnly.any) rfl ?hy98 HS ?rest98
                          case hy98 => intro w' hSw; (try dsimp only at hSw); go_simp; try (with_reducible rfl)
                          try simp only [List.setIfInBounds_toArray, List.set_cons_zero, List.set_cons_succ]
                          refine take_at (i := 3) (d := 62) (v := ?_) rfl rfl (by kernel_rfl) (by kernel_rfl) (by kernel_rfl) (fun _ _ _ _ => NormalOnly.any) rfl ?hy99 HS ?rest99
                          case hy99 => intro w' hSw; (try dsimp only at hSw); go_simp; try (with_reducible rfl)
                          try simp only [List.setIfInBounds_toArray, List.set_cons_zero, List.set_cons_succ]
                          refine take_at (i := 4) (d := 63) (v := ?_) rfl rfl (by kernel_rfl) (by kernel_rfl) (by kernel_rfl) (fun _ _ _ _ => NormalOnly.any) rfl ?hy100 HS ?rest100
                          case hy100 => intro w' hSw; (try dsimp only at hSw); go_simp; try (with_reducible rfl)
                          try simp only [List.setIfInBounds_toArray, List.set_cons_zero, List.set_cons_succ]
                          refine take_at (i := 5) (d := 64) (v := ?_) rfl rfl (by kernel_rfl) (by kernel_rfl) (by kernel_rfl) (fun _ _ _ _ => NormalOnly.any) rfl ?hy101 HS ?rest101
                          case hy101 => intro w' hSw; (try dsimp only at hSw); go_simp; try (with_reducible rfl)
                          try simp only [List.setIfInBounds_toArray, List.set_cons_zero, List.set_cons_succ]
                          refine take_at (i := 6) (d := 65) (v := ?_) rfl rfl (by kernel_rfl) (by kernel_rfl) (by kernel_rfl) (fun _ _ _ _ => NormalOnly.any) rfl ?hy102 HS ?rest102
                          case hy102 => intro w' hSw; (try dsimp only at hSw); go_simp; try (with_reducible rfl)
                          try simp only [List.setIfInBounds_toArray, List.set_cons_zero, List.set_cons_succ]
                          refine take_at (i := 7) (d := 66) (v := ?_) rfl rfl (by kernel_rfl) (by kernel_rfl) (by kernel_rfl) (fun _ _ _ _ => NormalOnly.any) rfl ?hy103 HS ?rest103
                          case hy103 => intro w' hSw; (try dsimp only at hSw); go_simp; try (with_reducible rfl)
                          try simp only [List.setIfInBounds_toArray, List.set_cons_zero, List.set_cons_succ]
                          refine take_at (i := 8) (d := 67) (v := ?_) rfl rfl (by kernel_rfl) (by kernel_rfl) (by kernel_rfl) (fun _ _ _ _ => NormalOnly.any) rfl ?hy104 HS ?rest104
                          case hy104 => intro w' hSw; (try dsimp only at hSw); go_simp; try (with_reducible rfl)
                          try simp only [List.setIfInBounds_toArray, List.set_cons_zero, List.set_cons_succ]
                          refine take_at (i := 9) (d := 68) (v := ?_) rfl rfl (by kernel_rfl) (by kernel_rfl) (by kernel_rfl) (fun _ _ _ _ => NormalOnly.any) rfl ?hy105 HS ?rest105
                          case hy105 => intro w' hSw; (try dsimp only at hSw); go_simp; try (with_reducible rfl)
                          try simp only [List.setIfInBounds_toArray, List.set_cons_zero, List.set_cons_succ]
                          refine take_at (i := 10) (d := 69) (v := ?_) rfl rfl (by kernel_rfl) (by kernel_rfl) (by kernel_rfl) (fun _ _ _ _ => NormalOnly.any) rfl ?hy106 HS ?rest106
                          case hy106 => intro w' hSw; (try dsimp only at hSw); go_simp; try (with_reducible rfl)
                          try simp only [List.setIfInBounds_toArray, List.set_cons_zero, List.set_cons_succ]
                          refine take_at (i := 11) (d := 70) (v := ?_) rfl rfl (by kernel_rfl) (by kernel_rfl) (by kernel_rfl) (fun _ _ _ _ => NormalOnly.any) rfl ?hy107 HS ?rest107
                          case hy107 => intro w' hSw; (try dsimp only at hSw); go_simp; try (with_reducible rfl)
                          try simp only [List.setIfInBounds_toArray, List.set_cons_zero, List.set_cons_succ]
                          refine take_at (i := 12) (d := 71) (v := ?_) rfl rfl (by kernel_rfl) (by kernel_rfl) (by kernel_rfl) (fun _ _ _ _ => NormalOnly.any) rfl ?hy108 HS ?rest108
                          case hy108 => intro w' hSw; (try dsimp only at hSw); go_simp; try (with_reducible rfl)
                          try simp only [List.setIfInBounds_toArray, List.set_cons_zero, List.set_cons_succ]
                          refine wpAnyH_ready (rs := [13]) (by kernel_rfl) (by simp) ?_
                          refine AllReadyH.cons rfl (fun K hK => ?_) AllReadyH.nil
                          go_simp
                          go_wp2_with (go_at_call_of 53 (Value.int IntKind.i64 ((u : Nat) : Int)); refine (HTu.out _ HS.2.2).mono ?_; rintro e w' ⟨rfl, rfl⟩)
                          refine hK.out _ _ HS (fun _ => ?_)
                          clear hK
                          refine take_at (i := 14) (d := 73) (v := ?_) rfl rfl (by kernel_rfl) (by kernel_rfl) (by kernel_rfl) (fun _ _ _ _ => NormalOnly.any) rfl ?hy109 HS ?rest109
                          case hy109 => intro w' hSw; (try dsimp only at hSw); go_simp; try (with_reducible rfl)
                          try simp only [List.setIfInBounds_toArray, List.set_cons_zero, List.set_cons_succ]
                          refine take_at (i := 15) (d := 74) (v := ?_) rfl rfl (by kernel_rfl) (by kernel_rfl) (by kernel_rfl) (fun _ _ _ _ => NormalOnly.any) rfl ?hy110 HS ?rest110
                          case hy110 => intro w' hSw; (try dsimp only at hSw); go_simp; try (with_reducible rfl)
                          try simp only [List.setIfInBounds_toArray, List.set_cons_zero, List.set_cons_succ]
                          refine take_at (i := 16) (d := 75) (v := ?_) rfl rfl (by kernel_rfl) (by kernel_rfl) (by kernel_rfl) (fun _ _ _ _ => NormalOnly.any) rfl ?hy111 HS ?rest111
                          case hy111 => intro w' hSw; (try dsimp only at hSw); go_simp; try (with_reducible rfl)
                          try simp only [List.setIfInBounds_toArray, List.set_cons_zero, List.set_cons_succ]
                          refine take_at (i := 17) (d := 76) (v := ?_) rfl rfl (by kernel_rfl) (by kernel_rfl) (by kernel_rfl) (fun _ _ _ _ => NormalOnly.any) rfl ?hy112 HS ?rest112
                          case hy112 => intro w' hSw; (try dsimp only at hSw); go_simp; try (with_reducible rfl)
                          try simp only [List.setIfInBounds_toArray, List.set_cons_zero, List.set_cons_succ]
                          refine take_at (i := 18) (d := 77) (v := ?_) rfl rfl (by kernel_rfl) (by kernel_rfl) (by kernel_rfl) (fun _ _ _ _ => NormalOnly.any) rfl ?hy113 HS ?rest113
                          case hy113 => intro w' hSw; (try dsimp only at hSw); go_simp; try (with_reducible rfl)
                          try simp only [List.setIfInBounds_toArray, List.set_cons_zero, List.set_cons_succ]
                          refine wpAnyH_ready (rs := [19]) (by kernel_rfl) (by simp) ?_
                          refine AllReadyH.cons rfl (fun K hK => ?_) AllReadyH.nil
                          go_simp
                          go_wp2_with (go_at_call_of 54 (Value.int IntKind.i64 ((u : Nat) : Int)); refine (HNu.out _ HS.2.2).mono ?_; rintro e w' ⟨rfl, N9⟩)
                          have HS := HAll.out _ N9
                          clear N9
                          refine hK.out _ _ HS (fun _ => ?_)
                          clear hK
                          refine take_at (i := 20) (d := 79) (v := ?_) rfl rfl (by kernel_rfl) (by kernel_rfl) (by kernel_rfl) (fun _ _ _ _ => NormalOnly.any) rfl ?hy114 HS ?rest114
                          case hy114 => intro w' hSw; (try dsimp only at hSw); go_simp; try (with_reducible rfl)
                          try simp only [List.setIfInBounds_toArray, List.set_cons_zero, List.set_cons_succ]
                          refine take_at (i := 21) (d := 80) (v := ?_) rfl rfl (by kernel_rfl) (by kernel_rfl) (by kernel_rfl) (fun _ _ _ _ => NormalOnly.any) rfl ?hy115 HS ?rest115
                          case hy115 => intro w' hSw; (try dsimp only at hSw); go_simp; try (with_reducible rfl)
                          try simp only [List.setIfInBounds_toArray, List.set_cons_zero, List.set_cons_succ]
                          refine take_at (i := 22) (d := 81) (v := ?_) rfl rfl (by kernel_rfl) (by kernel_rfl) (by kernel_rfl) (fun _ _ _ _ => NormalOnly.any) rfl ?hy116 HS ?rest116
                          case hy116 => intro w' hSw; (try dsimp only at hSw); go_simp; try (with_reducible rfl)
                          try simp only [List.setIfInBounds_toArray, List.set_cons_zero, List.set_cons_succ]
                          refine take_at (i := 23) (d := 82) (v := ?_) rfl rfl (by kernel_rfl) (by kernel_rfl) (by kernel_rfl) (fun _ _ _ _ => NormalOnly.any) rfl ?hy117 HS ?rest117
                          case hy117 => intro w' hSw; (try dsimp only at hSw); go_simp; try (with_reducible rfl)
                          try simp only [List.setIfInBounds_toArray, List.set_cons_zero, List.set_cons_succ]
                          refine take_at (i := 24) (d := 83) (v := ?_) rfl rfl (by kernel_rfl) (by kernel_rfl) (by kernel_rfl) (fun _ _ _ _ => NormalOnly.any) rfl ?hy118 HS ?rest118
                          case hy118 => intro w' hSw; (try dsimp only at hSw); go_simp; try (with_reducible rfl)
                          try simp only [List.setIfInBounds_toArray, List.set_cons_zero, List.set_cons_succ]
                          refine wpAnyH_ready (rs := [25]) (by kernel_rfl) (by simp) ?_
                          refine AllReadyH.cons rfl (fun K hK => ?_) AllReadyH.nil
                          go_simp
                          go_wp2_with (go_at_call_of 53 (Value.int IntKind.i64 ((v : Nat) : Int)); refine (HTv.out _ HS.2.2).mono ?_; rintro e w' ⟨rfl, rfl⟩)
                          refine hK.out _ _ HS (fun _ => ?_)
                          clear hK
                          refine take_at (i := 26) (d := 85) (v := ?_) rfl rfl (by kernel_rfl) (by kernel_rfl) (by kernel_rfl) (fun _ _ _ _ => NormalOnly.any) rfl ?hy119 HS ?rest119
                          case hy119 => intro w' hSw; (try dsimp only at hSw); go_simp; try (with_reducible rfl)
                          try simp only [List.setIfInBounds_toArray, List.set_cons_zero, List.set_cons_succ]
                          refine skip_at (i := 27) (d := 86) rfl rfl (by kernel_rfl) (by kernel_rfl) (by kernel_rfl) (fun _ _ _ _ => NormalOnly.any) rfl HS ?_
                          try simp only [List.setIfInBounds_toArray, List.set_cons_zero, List.set_cons_succ]
                          refine skip_at (i := 28) (d := 87) rfl rfl (by kernel_rfl) (by kernel_rfl) (by kernel_rfl) (fun _ _ _ _ => NormalOnly.any) rfl HS ?_
                          try simp only [List.setIfInBounds_toArray, List.set_cons_zero, List.set_cons_succ]
                          refine skip_at (i := 29) (d := 88) rfl rfl (by kernel_rfl) (by kernel_rfl) (by kernel_rfl) (fun _ _ _ _ => NormalOnly.any) rfl HS ?_
                          try simp only [List.setIfInBounds_toArray, List.set_cons_zero, List.set_cons_succ]
                          refine skip_at (i := 30) (d := 89) rfl rfl (by kernel_rfl) (by kernel_rfl) (by kernel_rfl) (fun _ _ _ _ => NormalOnly.any) rfl HS ?_
                          try simp only [List.setIfInBounds_toArray, List.set_cons_zero, List.set_cons_succ]
                          refine skip_at (i := 31) (d := 90) rfl rfl (by kernel_rfl) (by kernel_rfl) (by kernel_rfl) (fun _ _ _ _ => NormalOnly.any) rfl HS ?_
                          try simp only [List.setIfInBounds_toArray, List.set_cons_zero, List.set_cons_succ]
                          refine take_at (i := 32) (d := 91) (v := ?_) rfl rfl (by kernel_rfl) (by kernel_rfl) (by kernel_rfl) (fun _ _ _ _ => NormalOnly.any) rfl ?hy120 HS ?rest120
                          case hy120 => intro w' hSw; (try dsimp only at hSw); go_simp; try (with_reducible rfl)
                          try simp only [List.setIfInBounds_toArray, List.set_cons_zero, List.set_cons_succ]
                          refine take_at (i := 33) (d := 92) (v := ?_) rfl rfl (by kernel_rfl) (by kernel_rfl) (by kernel_rfl) (fun _ _ _ _ => NormalOnly.any) rfl ?hy121 HS ?rest121
                          case hy121 => intro w' hSw; (try dsimp only at hSw); go_simp; try (with_reducible rfl)
                          try simp only [List.setIfInBounds_toArray, List.set_cons_zero, List.set_cons_succ]
                          refine take_at (i := 34) (d := 93) (v := ?_) rfl rfl (by kernel_rfl) (by kernel_rfl) (by kernel_rfl) (fun _ _ _ _ => NormalOnly.any) rfl ?hy122 HS ?rest122
                          case hy122 => intro w' hSw; (try dsimp only at hSw); go_simp; try (with_reducible rfl)
                          try simp only [List.setIfInBounds_toArray, List.set_cons_zero, List.set_cons_succ]
                          refine wpAnyH_done (by kernel_rfl) ⟨rfl, ?_⟩ _
                          go_wp2_with fail
                          go_meet
                          exact ⟨by rw [HZ.out], HS.2.2⟩
                    | false =>
                      rw [hiu] at HTu hnd
                      cases hiv : inc E v c with
                      | true =>
                        rw [hiv] at HTv hnd
                        have HNv := Lib.hid (show ∀ W, Below w1.heap.size w1 W → Calls Try.prog 54 #[.pointer (some ⟨b, 0, none⟩), .int .i64 (a : Nat), .int .i64 (c : Nat), .int .i64 (v : Nat)] W fun e w' => e = .returned (.bool (nearB E a c v)) ∧ Below w1.heap.size w1 w' from fun W hb => (rnear_any w1.heap.size b n a c v E W (HR1.out.below hb) hb.size haE hcE HInc.out.2 hiv).mono fun e w' h => ⟨h.1, hb.trans (h.2.mono hb.size)⟩)
                        cases hnv : nearB E a c v with
                        | true =>
                          rw [hnv] at HNv hnd
                          have HZ : Hid (decide (ne = true ∧ p ≠ q) = true) := Lib.hid (by rw [hnd]; simp [hpq])
                          clear hnd hpq HSx HK2 HB1 HR1
                          have HS := HAll.out w1.drew (Below.refl _ _).drew
                          refine region_plain (fun W => W.cell? ⟨w.heap.size, a, none⟩ = some (.int .i64 (p : Nat)) ∧ W.cell? ⟨w.heap.size, c, none⟩ = some (.int .i64 (q : Nat)) ∧ Below w1.heap.size w1 W) (by kernel_rfl) ?_
                          refine take_at (i := 0) (d := 59) (v := ?_) rfl rfl (by kernel_rfl) (by kernel_rfl) (by kernel_rfl) (fun _ _ _ _ => NormalOnly.any) rfl ?hy123 HS ?rest123
                          case hy123 => intro w' hSw; (try dsimp only at hSw); go_simp; try (with_reducible rfl)
                          try simp only [List.setIfInBounds_toArray, List.set_cons_zero, List.set_cons_succ]
                          refine take_at (i := 1) (d := 60) (v := ?_) rfl rfl (by kernel_rfl) (by kernel_rfl) (by kernel_rfl) (fun _ _ _ _ => NormalOnly.any) rfl ?hy124 HS ?rest124
                          case hy124 => intro w' hSw; (try dsimp only at hSw); go_simp; try (with_reducible rfl)
                          try simp only [List.setIfInBounds_toArray, List.set_cons_zero, List.set_cons_succ]
                          refine take_at (i := 2) (d := 61) (v := ?_) rfl rfl (by kernel_rfl) (by kernel_rfl) (by kernel_rfl) (fun _ _ _ _ => NormalOnly.any) rfl ?hy125 HS ?rest125
                          case hy125 => intro w' hSw; (try dsimp only at hSw); go_simp; try (with_reducible rfl)
                          try simp only [List.setIfInBounds_toArray, List.set_cons_zero, List.set_cons_succ]
                          refine take_at (i := 3) (d := 62) (v := ?_) rfl rfl (by kernel_rfl) (by kernel_rfl) (by kernel_rfl) (fun _ _ _ _ => NormalOnly.any) rfl ?hy126 HS ?rest126
                          case hy126 => intro w' hSw; (try dsimp only at hSw); go_simp; try (with_reducible rfl)
                          try simp only [List.setIfInBounds_toArray, List.set_cons_zero, List.set_cons_succ]
                          refine take_at (i := 4) (d := 63) (v := ?_) rfl rfl (by kernel_rfl) (by kernel_rfl) (by kernel_rfl) (fun _ _ _ _ => NormalOnly.any) rfl ?hy127 HS ?rest127
                          case hy127 => intro w' hSw; (try dsimp only at hSw); go_simp; try (with_reducible rfl)
                          try simp only [List.setIfInBounds_toArray, List.set_cons_zero, List.set_cons_succ]
                          refine take_at (i := 5) (d := 64) (v := ?_) rfl rfl (by kernel_rfl) (by kernel_rfl) (by kernel_rfl) (fun _ _ _ _ => NormalOnly.any) rfl ?hy128 HS ?rest128
                          case hy128 => intro w' hSw; (try dsimp only at hSw); go_simp; try (with_reducible rfl)
                          try simp only [List.setIfInBounds_toArray, List.set_cons_zero, List.set_cons_succ]
                          refine take_at (i := 6) (d := 65) (v := ?_) rfl rfl (by kernel_rfl) (by kernel_rfl) (by kernel_rfl) (fun _ _ _ _ => NormalOnly.any) rfl ?hy129 HS ?rest129
                          case hy129 => intro w' hSw; (try dsimp only at hSw); go_simp; try (with_reducible rfl)
                          try simp only [List.setIfInBounds_toArray, List.set_cons_zero, List.set_cons_succ]
                          refine take_at (i := 7) (d := 66) (v := ?_) rfl rfl (by kernel_rfl) (by kernel_rfl) (by kernel_rfl) (fun _ _ _ _ => NormalOnly.any) rfl ?hy130 HS ?rest130
                          case hy130 => intro w' hSw; (try dsimp only at hSw); go_simp; try (with_reducible rfl)
                          try simp only [List.setIfInBounds_toArray, List.set_cons_zero, List.set_cons_succ]
                          refine take_at (i := 8) (d := 67) (v := ?_) rfl rfl (by kernel_rfl) (by kernel_rfl) (by kernel_rfl) (fun _ _ _ _ => NormalOnly.any) rfl ?hy131 HS ?rest131
                          case hy131 => intro w' hSw; (try dsimp only at hSw); go_simp; try (with_reducible rfl)
                          try simp only [List.setIfInBounds_toArray, List.set_cons_zero, List.set_cons_succ]
                          refine take_at (i := 9) (d := 68) (v := ?_) rfl rfl (by kernel_rfl) (by kernel_rfl) (by kernel_rfl) (fun _ _ _ _ => NormalOnly.any) rfl ?hy132 HS ?rest132
                          case hy132 => intro w' hSw; (try dsimp only at hSw); go_simp; try (with_reducible rfl)
                          try simp only [List.setIfInBounds_toArray, List.set_cons_zero, List.set_cons_succ]
                          refine take_at (i := 10) (d := 69) (v := ?_) rfl rfl (by kernel_rfl) (by kernel_rfl) (by kernel_rfl) (fun _ _ _ _ => NormalOnly.any) rfl ?hy133 HS ?rest133
                          case hy133 => intro w' hSw; (try dsimp only at hSw); go_simp; try (with_reducible rfl)
                          try simp only [List.setIfInBounds_toArray, List.set_cons_zero, List.set_cons_succ]
                          refine take_at (i := 11) (d := 70) (v := ?_) rfl rfl (by kernel_rfl) (by kernel_rfl) (by kernel_rfl) (fun _ _ _ _ => NormalOnly.any) rfl ?hy134 HS ?rest134
                          case hy134 => intro w' hSw; (try dsimp only at hSw); go_simp; try (with_reducible rfl)
                          try simp only [List.setIfInBounds_toArray, List.set_cons_zero, List.set_cons_succ]
                          refine take_at (i := 12) (d := 71) (v := ?_) rfl rfl (by kernel_rfl) (by kernel_rfl) (by kernel_rfl) (fun _ _ _ _ => NormalOnly.any) rfl ?hy135 HS ?rest135
                          case hy135 => intro w' hSw; (try dsimp only at hSw); go_simp; try (with_reducible rfl)
                          try simp only [List.setIfInBounds_toArray, List.set_cons_zero, List.set_cons_succ]
                          refine wpAnyH_ready (rs := [13]) (by kernel_rfl) (by simp) ?_
                          refine AllReadyH.cons rfl (fun K hK => ?_) AllReadyH.nil
                          go_simp
                          go_wp2_with (go_at_call_of 53 (Value.int IntKind.i64 ((u : Nat) : Int)); refine (HTu.out _ HS.2.2).mono ?_; rintro e w' ⟨rfl, rfl⟩)
                          refine hK.out _ _ HS (fun _ => ?_)
                          clear hK
                          refine take_at (i := 14) (d := 73) (v := ?_) rfl rfl (by kernel_rfl) (by kernel_rfl) (by kernel_rfl) (fun _ _ _ _ => NormalOnly.any) rfl ?hy136 HS ?rest136
                          case hy136 => intro w' hSw; (try dsimp only at hSw); go_simp; try (with_reducible rfl)
                          try simp only [List.setIfInBounds_toArray, List.set_cons_zero, List.set_cons_succ]
                          refine skip_at (i := 15) (d := 74) rfl rfl (by kernel_rfl) (by kernel_rfl) (by kernel_rfl) (fun _ _ _ _ => NormalOnly.any) rfl HS ?_
                          try simp only [List.setIfInBounds_toArray, List.set_cons_zero, List.set_cons_succ]
                          refine skip_at (i := 16) (d := 75) rfl rfl (by kernel_rfl) (by kernel_rfl) (by kernel_rfl) (fun _ _ _ _ => NormalOnly.any) rfl HS ?_
                          try simp only [List.setIfInBounds_toArray, List.set_cons_zero, List.set_cons_succ]
                          refine skip_at (i := 17) (d := 76) rfl rfl (by kernel_rfl) (by kernel_rfl) (by kernel_rfl) (fun _ _ _ _ => NormalOnly.any) rfl HS ?_
                          try simp only [List.setIfInBounds_toArray, List.set_cons_zero, List.set_cons_succ]
                          refine skip_at (i := 18) (d := 77) rfl rfl (by kernel_rfl) (by kernel_rfl) (by kernel_rfl) (fun _ _ _ _ => NormalOnly.any) rfl HS ?_
                          try simp only [List.setIfInBounds_toArray, List.set_cons_zero, List.set_cons_succ]
                          refine skip_at (i := 19) (d := 78) rfl rfl (by kernel_rfl) (by kernel_rfl) (by kernel_rfl) (fun _ _ _ _ => NormalOnly.any) rfl HS ?_
                          try simp only [List.setIfInBounds_toArray, List.set_cons_zero, List.set_cons_succ]
                          refine take_at (i := 20) (d := 79) (v := ?_) rfl rfl (by kernel_rfl) (by kernel_rfl) (by kernel_rfl) (fun _ _ _ _ => NormalOnly.any) rfl ?hy137 HS ?rest137
                          case hy137 => intro w' hSw; (try dsimp only at hSw); go_simp; try (with_reducible rfl)
                          try simp only [List.setIfInBounds_toArray, List.set_cons_zero, List.set_cons_succ]
                          refine take_at (i := 21) (d := 80) (v := ?_) rfl rfl (by kernel_rfl) (by kernel_rfl) (by kernel_rfl) (fun _ _ _ _ => NormalOnly.any) rfl ?hy138 HS ?rest138
                          case hy138 => intro w' hSw; (try dsimp only at hSw); go_simp; try (with_reducible rfl)
                          try simp only [List.setIfInBounds_toArray, List.set_cons_zero, List.set_cons_succ]
                          refine take_at (i := 22) (d := 81) (v := ?_) rfl rfl (by kernel_rfl) (by kernel_rfl) (by kernel_rfl) (fun _ _ _ _ => NormalOnly.any) rfl ?hy139 HS ?rest139
                          case hy139 => intro w' hSw; (try dsimp only at hSw); go_simp; try (with_reducible rfl)
                          try simp only [List.setIfInBounds_toArray, List.set_cons_zero, List.set_cons_succ]
                          refine take_at (i := 23) (d := 82) (v := ?_) rfl rfl (by kernel_rfl) (by kernel_rfl) (by kernel_rfl) (fun _ _ _ _ => NormalOnly.any) rfl ?hy140 HS ?rest140
                          case hy140 => intro w' hSw; (try dsimp only at hSw); go_simp; try (with_reducible rfl)
                          try simp only [List.setIfInBounds_toArray, List.set_cons_zero, List.set_cons_succ]
                          refine take_at (i := 24) (d := 83) (v := ?_) rfl rfl (by kernel_rfl) (by kernel_rfl) (by kernel_rfl) (fun _ _ _ _ => NormalOnly.any) rfl ?hy141 HS ?rest141
                          case hy141 => intro w' hSw; (try dsimp only at hSw); go_simp; try (with_reducible rfl)
                          try simp only [List.setIfInBounds_toArray, List.set_cons_zero, List.set_cons_succ]
                          refine wpAnyH_ready (rs := [25]) (by kernel_rfl) (by simp) ?_
                          refine AllReadyH.cons rfl (fun K hK => ?_) AllReadyH.nil
                          go_simp
                          go_wp2_with (go_at_call_of 53 (Value.int IntKind.i64 ((v : Nat) : Int)); refine (HTv.out _ HS.2.2).mono ?_; rintro e w' ⟨rfl, rfl⟩)
                          refine hK.out _ _ HS (fun _ => ?_)
                          clear hK
                          refine take_at (i := 26) (d := 85) (v := ?_) rfl rfl (by kernel_rfl) (by kernel_rfl) (by kernel_rfl) (fun _ _ _ _ => NormalOnly.any) rfl ?hy142 HS ?rest142
                          case hy142 => intro w' hSw; (try dsimp only at hSw); go_simp; try (with_reducible rfl)
                          try simp only [List.setIfInBounds_toArray, List.set_cons_zero, List.set_cons_succ]
                          refine take_at (i := 27) (d := 86) (v := ?_) rfl rfl (by kernel_rfl) (by kernel_rfl) (by kernel_rfl) (fun _ _ _ _ => NormalOnly.any) rfl ?hy143 HS ?rest143
                          case hy143 => intro w' hSw; (try dsimp only at hSw); go_simp; try (with_reducible rfl)
                          try simp only [List.setIfInBounds_toArray, List.set_cons_zero, List.set_cons_succ]
                          refine take_at (i := 28) (d := 87) (v := ?_) rfl rfl (by kernel_rfl) (by kernel_rfl) (by kernel_rfl) (fun _ _ _ _ => NormalOnly.any) rfl ?hy144 HS ?rest144
                          case hy144 => intro w' hSw; (try dsimp only at hSw); go_simp; try (with_reducible rfl)
                          try simp only [List.setIfInBounds_toArray, List.set_cons_zero, List.set_cons_succ]
                          refine take_at (i := 29) (d := 88) (v := ?_) rfl rfl (by kernel_rfl) (by kernel_rfl) (by kernel_rfl) (fun _ _ _ _ => NormalOnly.any) rfl ?hy145 HS ?rest145
                          case hy145 => intro w' hSw; (try dsimp only at hSw); go_simp; try (with_reducible rfl)
                          try simp only [List.setIfInBounds_toArray, List.set_cons_zero, List.set_cons_succ]
                          refine take_at (i := 30) (d := 89) (v := ?_) rfl rfl (by kernel_rfl) (by kernel_rfl) (by kernel_rfl) (fun _ _ _ _ => NormalOnly.any) rfl ?hy146 HS ?rest146
                          case hy146 => intro w' hSw; (try dsimp only at hSw); go_simp; try (with_reducible rfl)
                          try simp only [List.setIfInBounds_toArray, List.set_cons_zero, List.set_cons_succ]
                          refine wpAnyH_ready (rs := [31]) (by kernel_rfl) (by simp) ?_
                          refine AllReadyH.cons rfl (fun K hK => ?_) AllReadyH.nil
                          go_simp
                          go_wp2_with (go_at_call_of 54 (Value.int IntKind.i64 ((v : Nat) : Int)); refine (HNv.out _ HS.2.2).mono ?_; rintro e w' ⟨rfl, N9⟩)
                          have HS := HAll.out _ N9
                          clear N9
                          refine hK.out _ _ HS (fun _ => ?_)
                          clear hK
                          refine take_at (i := 32) (d := 91) (v := ?_) rfl rfl (by kernel_rfl) (by kernel_rfl) (by kernel_rfl) (fun _ _ _ _ => NormalOnly.any) rfl ?hy147 HS ?rest147
                          case hy147 => intro w' hSw; (try dsimp only at hSw); go_simp; try (with_reducible rfl)
                          try simp only [List.setIfInBounds_toArray, List.set_cons_zero, List.set_cons_succ]
                          refine take_at (i := 33) (d := 92) (v := ?_) rfl rfl (by kernel_rfl) (by kernel_rfl) (by kernel_rfl) (fun _ _ _ _ => NormalOnly.any) rfl ?hy148 HS ?rest148
                          case hy148 => intro w' hSw; (try dsimp only at hSw); go_simp; try (with_reducible rfl)
                          try simp only [List.setIfInBounds_toArray, List.set_cons_zero, List.set_cons_succ]
                          refine take_at (i := 34) (d := 93) (v := ?_) rfl rfl (by kernel_rfl) (by kernel_rfl) (by kernel_rfl) (fun _ _ _ _ => NormalOnly.any) rfl ?hy149 HS ?rest149
                          case hy149 => intro w' hSw; (try dsimp only at hSw); go_simp; try (with_reducible rfl)
                          try simp only [List.setIfInBounds_toArray, List.set_cons_zero, List.set_cons_succ]
                          refine wpAnyH_done (by kernel_rfl) ⟨rfl, ?_⟩ _
                          go_wp2_with fail
                          go_meet
                          exact ⟨by rw [HZ.out], HS.2.2⟩
                        | false =>
                          rw [hnv] at HNv hnd
                          have HZ : Hid (decide (ne = true ∧ p ≠ q) = false) := Lib.hid (by rw [hnd]; simp [hpq])
                          clear hnd hpq HSx HK2 HB1 HR1
                          have HS := HAll.out w1.drew (Below.refl _ _).drew
                          refine region_plain (fun W => W.cell? ⟨w.heap.size, a, none⟩ = some (.int .i64 (p : Nat)) ∧ W.cell? ⟨w.heap.size, c, none⟩ = some (.int .i64 (q : Nat)) ∧ Below w1.heap.size w1 W) (by kernel_rfl) ?_
                          refine take_at (i := 0) (d := 59) (v := ?_) rfl rfl (by kernel_rfl) (by kernel_rfl) (by kernel_rfl) (fun _ _ _ _ => NormalOnly.any) rfl ?hy150 HS ?rest150
                          case hy150 => intro w' hSw; (try dsimp only at hSw); go_simp; try (with_reducible rfl)
                          try simp only [List.setIfInBounds_toArray, List.set_cons_zero, List.set_cons_succ]
                          refine take_at (i := 1) (d := 60) (v := ?_) rfl rfl (by kernel_rfl) (by kernel_rfl) (by kernel_rfl) (fun _ _ _ _ => NormalOnly.any) rfl ?hy151 HS ?rest151
                          case hy151 => intro w' hSw; (try dsimp only at hSw); go_simp; try (with_reducible rfl)
                          try simp only [List.setIfInBounds_toArray, List.set_cons_zero, List.set_cons_succ]
                          refine take_at (i := 2) (d := 61) (v := ?_) rfl rfl (by kernel_rfl) (by kernel_rfl) (by kernel_rfl) (fun _ _ _ _ => NormalOnly.any) rfl ?hy152 HS ?rest152
                          case hy152 => intro w' hSw; (try dsimp only at hSw); go_simp; try (with_reducible rfl)
                          try simp only [List.setIfInBounds_toArray, List.set_cons_zero, List.set_cons_succ]
                          refine take_at (i := 3) (d := 62) (v := ?_) rfl rfl (by kernel_rfl) (by kernel_rfl) (by kernel_rfl) (fun _ _ _ _ => NormalOnly.any) rfl ?hy153 HS ?rest153
                          case hy153 => intro w' hSw; (try dsimp only at hSw); go_simp; try (with_reducible rfl)
                          try simp only [List.setIfInBounds_toArray, List.set_cons_zero, List.set_cons_succ]
                          refine take_at (i := 4) (d := 63) (v := ?_) rfl rfl (by kernel_rfl) (by kernel_rfl) (by kernel_rfl) (fun _ _ _ _ => NormalOnly.any) rfl ?hy154 HS ?rest154
                          case hy154 => intro w' hSw; (try dsimp only at hSw); go_simp; try (with_reducible rfl)
                          try simp only [List.setIfInBounds_toArray, List.set_cons_zero, List.set_cons_succ]
                          refine take_at (i := 5) (d := 64) (v := ?_) rfl rfl (by kernel_rfl) (by kernel_rfl) (by kernel_rfl) (fun _ _ _ _ => NormalOnly.any) rfl ?hy155 HS ?rest155
                          case hy155 => intro w' hSw; (try dsimp only at hSw); go_simp; try (with_reducible rfl)
                          try simp only [List.setIfInBounds_toArray, List.set_cons_zero, List.set_cons_succ]
                          refine take_at (i := 6) (d := 65) (v := ?_) rfl rfl (by kernel_rfl) (by kernel_rfl) (by kernel_rfl) (fun _ _ _ _ => NormalOnly.any) rfl ?hy156 HS ?rest156
                          case hy156 => intro w' hSw; (try dsimp only at hSw); go_simp; try (with_reducible rfl)
                          try simp only [List.setIfInBounds_toArray, List.set_cons_zero, List.set_cons_succ]
                          refine take_at (i := 7) (d := 66) (v := ?_) rfl rfl (by kernel_rfl) (by kernel_rfl) (by kernel_rfl) (fun _ _ _ _ => NormalOnly.any) rfl ?hy157 HS ?rest157
                          case hy157 => intro w' hSw; (try dsimp only at hSw); go_simp; try (with_reducible rfl)
                          try simp only [List.setIfInBounds_toArray, List.set_cons_zero, List.set_cons_succ]
                          refine take_at (i := 8) (d := 67) (v := ?_) rfl rfl (by kernel_rfl) (by kernel_rfl) (by kernel_rfl) (fun _ _ _ _ => NormalOnly.any) rfl ?hy158 HS ?rest158
                          case hy158 => intro w' hSw; (try dsimp only at hSw); go_simp; try (with_reducible rfl)
                          try simp only [List.setIfInBounds_toArray, List.set_cons_zero, List.set_cons_succ]
                          refine take_at (i := 9) (d := 68) (v := ?_) rfl rfl (by kernel_rfl) (by kernel_rfl) (by kernel_rfl) (fun _ _ _ _ => NormalOnly.any) rfl ?hy159 HS ?rest159
                          case hy159 => intro w' hSw; (try dsimp only at hSw); go_simp; try (with_reducible rfl)
                          try simp only [List.setIfInBounds_toArray, List.set_cons_zero, List.set_cons_succ]
                          refine take_at (i := 10) (d := 69) (v := ?_) rfl rfl (by kernel_rfl) (by kernel_rfl) (by kernel_rfl) (fun _ _ _ _ => NormalOnly.any) rfl ?hy160 HS ?rest160
                          case hy160 => intro w' hSw; (try dsimp only at hSw); go_simp; try (with_reducible rfl)
                          try simp only [List.setIfInBounds_toArray, List.set_cons_zero, List.set_cons_succ]
                          refine take_at (i := 11) (d := 70) (v := ?_) rfl rfl (by kernel_rfl) (by kernel_rfl) (by kernel_rfl) (fun _ _ _ _ => NormalOnly.any) rfl ?hy161 HS ?rest161
                          case hy161 => intro w' hSw; (try dsimp only at hSw); go_simp; try (with_reducible rfl)
                          try simp only [List.setIfInBounds_toArray, List.set_cons_zero, List.set_cons_succ]
                          refine take_at (i := 12) (d := 71) (v := ?_) rfl rfl (by kernel_rfl) (by kernel_rfl) (by kernel_rfl) (fun _ _ _ _ => NormalOnly.any) rfl ?hy162 HS ?rest162
                          case hy162 => intro w' hSw; (try dsimp only at hSw); go_simp; try (with_reducible rfl)
                          try simp only [List.setIfInBounds_toArray, List.set_cons_zero, List.set_cons_succ]
                          refine wpAnyH_ready (rs := [13]) (by kernel_rfl) (by simp) ?_
                          refine AllReadyH.cons rfl (fun K hK => ?_) AllReadyH.nil
                          go_simp
                          go_wp2_with (go_at_call_of 53 (Value.int IntKind.i64 ((u : Nat) : Int)); refine (HTu.out _ HS.2.2).mono ?_; rintro e w' ⟨rfl, rfl⟩)
                          refine hK.out _ _ HS (fun _ => ?_)
                          clear hK
                          refine take_at (i := 14) (d := 73) (v := ?_) rfl rfl (by kernel_rfl) (by kernel_rfl) (by kernel_rfl) (fun _ _ _ _ => NormalOnly.any) rfl ?hy163 HS ?rest163
                          case hy163 => intro w' hSw; (try dsimp only at hSw); go_simp; try (with_reducible rfl)
                          try simp only [List.setIfInBounds_toArray, List.set_cons_zero, List.set_cons_succ]
                          refine skip_at (i := 15) (d := 74) rfl rfl (by kernel_rfl) (by kernel_rfl) (by kernel_rfl) (fun _ _ _ _ => NormalOnly.any) rfl HS ?_
                          try simp only [List.setIfInBounds_toArray, List.set_cons_zero, List.set_cons_succ]
                          refine skip_at (i := 16) (d := 75) rfl rfl (by kernel_rfl) (by kernel_rfl) (by kernel_rfl) (fun _ _ _ _ => NormalOnly.any) rfl HS ?_
                          try simp only [List.setIfInBounds_toArray, List.set_cons_zero, List.set_cons_succ]
                          refine skip_at (i := 17) (d := 76) rfl rfl (by kernel_rfl) (by kernel_rfl) (by kernel_rfl) (fun _ _ _ _ => NormalOnly.any) rfl HS ?_
                          try simp only [List.setIfInBounds_toArray, List.set_cons_zero, List.set_cons_succ]
                          refine skip_at (i := 18) (d := 77) rfl rfl (by kernel_rfl) (by kernel_rfl) (by kernel_rfl) (fun _ _ _ _ => NormalOnly.any) rfl HS ?_
                          try simp only [List.setIfInBounds_toArray, List.set_cons_zero, List.set_cons_succ]
                          refine skip_at (i := 19) (d := 78) rfl rfl (by kernel_rfl) (by kernel_rfl) (by kernel_rfl) (fun _ _ _ _ => NormalOnly.any) rfl HS ?_
                          try simp only [List.setIfInBounds_toArray, List.set_cons_zero, List.set_cons_succ]
                          refine take_at (i := 20) (d := 79) (v := ?_) rfl rfl (by kernel_rfl) (by kernel_rfl) (by kernel_rfl) (fun _ _ _ _ => NormalOnly.any) rfl ?hy164 HS ?rest164
                          case hy164 => intro w' hSw; (try dsimp only at hSw); go_simp; try (with_reducible rfl)
                          try simp only [List.setIfInBounds_toArray, List.set_cons_zero, List.set_cons_succ]
                          refine take_at (i := 21) (d := 80) (v := ?_) rfl rfl (by kernel_rfl) (by kernel_rfl) (by kernel_rfl) (fun _ _ _ _ => NormalOnly.any) rfl ?hy165 HS ?rest165
                          case hy165 => intro w' hSw; (try dsimp only at hSw); go_simp; try (with_reducible rfl)
                          try simp only [List.setIfInBounds_toArray, List.set_cons_zero, List.set_cons_succ]
                          refine take_at (i := 22) (d := 81) (v := ?_) rfl rfl (by kernel_rfl) (by kernel_rfl) (by kernel_rfl) (fun _ _ _ _ => NormalOnly.any) rfl ?hy166 HS ?rest166
                          case hy166 => intro w' hSw; (try dsimp only at hSw); go_simp; try (with_reducible rfl)
                          try simp only [List.setIfInBounds_toArray, List.set_cons_zero, List.set_cons_succ]
                          refine take_at (i := 23) (d := 82) (v := ?_) rfl rfl (by kernel_rfl) (by kernel_rfl) (by kernel_rfl) (fun _ _ _ _ => NormalOnly.any) rfl ?hy167 HS ?rest167
                          case hy167 => intro w' hSw; (try dsimp only at hSw); go_simp; try (with_reducible rfl)
                          try simp only [List.setIfInBounds_toArray, List.set_cons_zero, List.set_cons_succ]
                          refine take_at (i := 24) (d := 83) (v := ?_) rfl rfl (by kernel_rfl) (by kernel_rfl) (by kernel_rfl) (fun _ _ _ _ => NormalOnly.any) rfl ?hy168 HS ?rest168
                          case hy168 => intro w' hSw; (try dsimp only at hSw); go_simp; try (with_reducible rfl)
                          try simp only [List.setIfInBounds_toArray, List.set_cons_zero, List.set_cons_succ]
                          refine wpAnyH_ready (rs := [25]) (by kernel_rfl) (by simp) ?_
                          refine AllReadyH.cons rfl (fun K hK => ?_) AllReadyH.nil
                          go_simp
                          go_wp2_with (go_at_call_of 53 (Value.int IntKind.i64 ((v : Nat) : Int)); refine (HTv.out _ HS.2.2).mono ?_; rintro e w' ⟨rfl, rfl⟩)
                          refine hK.out _ _ HS (fun _ => ?_)
                          clear hK
                          refine take_at (i := 26) (d := 85) (v := ?_) rfl rfl (by kernel_rfl) (by kernel_rfl) (by kernel_rfl) (fun _ _ _ _ => NormalOnly.any) rfl ?hy169 HS ?rest169
                          case hy169 => intro w' hSw; (try dsimp only at hSw); go_simp; try (with_reducible rfl)
                          try simp only [List.setIfInBounds_toArray, List.set_cons_zero, List.set_cons_succ]
                          refine take_at (i := 27) (d := 86) (v := ?_) rfl rfl (by kernel_rfl) (by kernel_rfl) (by kernel_rfl) (fun _ _ _ _ => NormalOnly.any) rfl ?hy170 HS ?rest170
                          case hy170 => intro w' hSw; (try dsimp only at hSw); go_simp; try (with_reducible rfl)
                          try simp only [List.setIfInBounds_toArray, List.set_cons_zero, List.set_cons_succ]
                          refine take_at (i := 28) (d := 87) (v := ?_) rfl rfl (by kernel_rfl) (by kernel_rfl) (by kernel_rfl) (fun _ _ _ _ => NormalOnly.any) rfl ?hy171 HS ?rest171
                          case hy171 => intro w' hSw; (try dsimp only at hSw); go_simp; try (with_reducible rfl)
                          try simp only [List.setIfInBounds_toArray, List.set_cons_zero, List.set_cons_succ]
                          refine take_at (i := 29) (d := 88) (v := ?_) rfl rfl (by kernel_rfl) (by kernel_rfl) (by kernel_rfl) (fun _ _ _ _ => NormalOnly.any) rfl ?hy172 HS ?rest172
                          case hy172 => intro w' hSw; (try dsimp only at hSw); go_simp; try (with_reducible rfl)
                          try simp only [List.setIfInBounds_toArray, List.set_cons_zero, List.set_cons_succ]
                          refine take_at (i := 30) (d := 89) (v := ?_) rfl rfl (by kernel_rfl) (by kernel_rfl) (by kernel_rfl) (fun _ _ _ _ => NormalOnly.any) rfl ?hy173 HS ?rest173
                          case hy173 => intro w' hSw; (try dsimp only at hSw); go_simp; try (with_reducible rfl)
                          try simp only [List.setIfInBounds_toArray, List.set_cons_zero, List.set_cons_succ]
                          refine wpAnyH_ready (rs := [31]) (by kernel_rfl) (by simp) ?_
                          refine AllReadyH.cons rfl (fun K hK => ?_) AllReadyH.nil
                          go_simp
                          go_wp2_with (go_at_call_of 54 (Value.int IntKind.i64 ((v : Nat) : Int)); refine (HNv.out _ HS.2.2).mono ?_; rintro e w' ⟨rfl, N9⟩)
                          have HS := HAll.out _ N9
                          clear N9
                          refine hK.out _ _ HS (fun _ => ?_)
                          clear hK
                          refine take_at (i := 32) (d := 91) (v := ?_) rfl rfl (by kernel_rfl) (by kernel_rfl) (by kernel_rfl) (fun _ _ _ _ => NormalOnly.any) rfl ?hy174 HS ?rest174
                          case hy174 => intro w' hSw; (try dsimp only at hSw); go_simp; try (with_reducible rfl)
                          try simp only [List.setIfInBounds_toArray, List.set_cons_zero, List.set_cons_succ]
                          refine take_at (i := 33) (d := 92) (v := ?_) rfl rfl (by kernel_rfl) (by kernel_rfl) (by kernel_rfl) (fun _ _ _ _ => NormalOnly.any) rfl ?hy175 HS ?rest175
                          case hy175 => intro w' hSw; (try dsimp only at hSw); go_simp; try (with_reducible rfl)
                          try simp only [List.setIfInBounds_toArray, List.set_cons_zero, List.set_cons_succ]
                          refine take_at (i := 34) (d := 93) (v := ?_) rfl rfl (by kernel_rfl) (by kernel_rfl) (by kernel_rfl) (fun _ _ _ _ => NormalOnly.any) rfl ?hy176 HS ?rest176
                          case hy176 => intro w' hSw; (try dsimp only at hSw); go_simp; try (with_reducible rfl)
                          try simp only [List.setIfInBounds_toArray, List.set_cons_zero, List.set_cons_succ]
                          refine wpAnyH_done (by kernel_rfl) ⟨rfl, ?_⟩ _
                          go_wp2_with fail
                          go_meet
                          exact ⟨by rw [HZ.out], HS.2.2⟩
                      | false =>
                        rw [hiv] at HTv hnd
                        have HZ : Hid (decide (ne = true ∧ p ≠ q) = false) := Lib.hid (by rw [hnd]; simp [hpq])
                        clear hnd hpq HSx HK2 HB1 HR1
                        have HS := HAll.out w1.drew (Below.refl _ _).drew
                        refine region_plain (fun W => W.cell? ⟨w.heap.size, a, none⟩ = some (.int .i64 (p : Nat)) ∧ W.cell? ⟨w.heap.size, c, none⟩ = some (.int .i64 (q : Nat)) ∧ Below w1.heap.size w1 W) (by kernel_rfl) ?_
                        refine take_at (i := 0) (d := 59) (v := ?_) rfl rfl (by kernel_rfl) (by kernel_rfl) (by kernel_rfl) (fun _ _ _ _ => NormalOnly.any) rfl ?hy177 HS ?rest177
                        case hy177 => intro w' hSw; (try dsimp only at hSw); go_simp; try (with_reducible rfl)
                        try simp only [List.setIfInBounds_toArray, List.set_cons_zero, List.set_cons_succ]
                        refine take_at (i := 1) (d := 60) (v := ?_) rfl rfl (by kernel_rfl) (by kernel_rfl) (by kernel_rfl) (fun _ _ _ _ => NormalOnly.any) rfl ?hy178 HS ?rest178
                        case hy178 => intro w' hSw; (try dsimp only at hSw); go_simp; try (with_reducible rfl)
                        try simp only [List.setIfInBounds_toArray, List.set_cons_zero, List.set_cons_succ]
                        refine take_at (i := 2) (d := 61) (v := ?_) rfl rfl (by kernel_rfl) (by kernel_rfl) (by kernel_rfl) (fun _ _ _ _ => NormalOnly.any) rfl ?hy179 HS ?rest179
                        case hy179 => intro w' hSw; (try dsimp only at hSw); go_simp; try (with_reducible rfl)
                        try simp only [List.setIfInBounds_toArray, List.set_cons_zero, List.set_cons_succ]
                        refine take_at (i := 3) (d := 62) (v := ?_) rfl rfl (by kernel_rfl) (by kernel_rfl) (by kernel_rfl) (fun _ _ _ _ => NormalOnly.any) rfl ?hy180 HS ?rest180
                        case hy180 => intro w' hSw; (try dsimp only at hSw); go_simp; try (with_reducible rfl)
                        try simp only [List.setIfInBounds_toArray, List.set_cons_zero, List.set_cons_succ]
                        refine take_at (i := 4) (d := 63) (v := ?_) rfl rfl (by kernel_rfl) (by kernel_rfl) (by kernel_rfl) (fun _ _ _ _ => NormalOnly.any) rfl ?hy181 HS ?rest181
                        case hy181 => intro w' hSw; (try dsimp only at hSw); go_simp; try (with_reducible rfl)
                        try simp only [List.setIfInBounds_toArray, List.set_cons_zero, List.set_cons_succ]
                        refine take_at (i := 5) (d := 64) (v := ?_) rfl rfl (by kernel_rfl) (by kernel_rfl) (by kernel_rfl) (fun _ _ _ _ => NormalOnly.any) rfl ?hy182 HS ?rest182
                        case hy182 => intro w' hSw; (try dsimp only at hSw); go_simp; try (with_reducible rfl)
                        try simp only [List.setIfInBounds_toArray, List.set_cons_zero, List.set_cons_succ]
                        refine take_at (i := 6) (d := 65) (v := ?_) rfl rfl (by kernel_rfl) (by kernel_rfl) (by kernel_rfl) (fun _ _ _ _ => NormalOnly.any) rfl ?hy183 HS ?rest183
                        case hy183 => intro w' hSw; (try dsimp only at hSw); go_simp; try (with_reducible rfl)
                        try simp only [List.setIfInBounds_toArray, List.set_cons_zero, List.set_cons_succ]
                        refine take_at (i := 7) (d := 66) (v := ?_) rfl rfl (by kernel_rfl) (by kernel_rfl) (by kernel_rfl) (fun _ _ _ _ => NormalOnly.any) rfl ?hy184 HS ?rest184
                        case hy184 => intro w' hSw; (try dsimp only at hSw); go_simp; try (with_reducible rfl)
                        try simp only [List.setIfInBounds_toArray, List.set_cons_zero, List.set_cons_succ]
                        refine take_at (i := 8) (d := 67) (v := ?_) rfl rfl (by kernel_rfl) (by kernel_rfl) (by kernel_rfl) (fun _ _ _ _ => NormalOnly.any) rfl ?hy185 HS ?rest185
                        case hy185 => intro w' hSw; (try dsimp only at hSw); go_simp; try (with_reducible rfl)
                        try simp only [List.setIfInBounds_toArray, List.set_cons_zero, List.set_cons_succ]
                        refine take_at (i := 9) (d := 68) (v := ?_) rfl rfl (by kernel_rfl) (by kernel_rfl) (by kernel_rfl) (fun _ _ _ _ => NormalOnly.any) rfl ?hy186 HS ?rest186
                        case hy186 => intro w' hSw; (try dsimp only at hSw); go_simp; try (with_reducible rfl)
                        try simp only [List.setIfInBounds_toArray, List.set_cons_zero, List.set_cons_succ]
                        refine take_at (i := 10) (d := 69) (v := ?_) rfl rfl (by kernel_rfl) (by kernel_rfl) (by kernel_rfl) (fun _ _ _ _ => NormalOnly.any) rfl ?hy187 HS ?rest187
                        case hy187 => intro w' hSw; (try dsimp only at hSw); go_simp; try (with_reducible rfl)
                        try simp only [List.setIfInBounds_toArray, List.set_cons_zero, List.set_cons_succ]
                        refine take_at (i := 11) (d := 70) (v := ?_) rfl rfl (by kernel_rfl) (by kernel_rfl) (by kernel_rfl) (fun _ _ _ _ => NormalOnly.any) rfl ?hy188 HS ?rest188
                        case hy188 => intro w' hSw; (try dsimp only at hSw); go_simp; try (with_reducible rfl)
                        try simp only [List.setIfInBounds_toArray, List.set_cons_zero, List.set_cons_succ]
                        refine take_at (i := 12) (d := 71) (v := ?_) rfl rfl (by kernel_rfl) (by kernel_rfl) (by kernel_rfl) (fun _ _ _ _ => NormalOnly.any) rfl ?hy189 HS ?rest189
                        case hy189 => intro w' hSw; (try dsimp only at hSw); go_simp; try (with_reducible rfl)
                        try simp only [List.setIfInBounds_toArray, List.set_cons_zero, List.set_cons_succ]
                        refine wpAnyH_ready (rs := [13]) (by kernel_rfl) (by simp) ?_
                        refine AllReadyH.cons rfl (fun K hK => ?_) AllReadyH.nil
                        go_simp
                        go_wp2_with (go_at_call_of 53 (Value.int IntKind.i64 ((u : Nat) : Int)); refine (HTu.out _ HS.2.2).mono ?_; rintro e w' ⟨rfl, rfl⟩)
                        refine hK.out _ _ HS (fun _ => ?_)
                        clear hK
                        refine take_at (i := 14) (d := 73) (v := ?_) rfl rfl (by kernel_rfl) (by kernel_rfl) (by kernel_rfl) (fun _ _ _ _ => NormalOnly.any) rfl ?hy190 HS ?rest190
                        case hy190 => intro w' hSw; (try dsimp only at hSw); go_simp; try (with_reducible rfl)
                        try simp only [List.setIfInBounds_toArray, List.set_cons_zero, List.set_cons_succ]
                        refine skip_at (i := 15) (d := 74) rfl rfl (by kernel_rfl) (by kernel_rfl) (by kernel_rfl) (fun _ _ _ _ => NormalOnly.any) rfl HS ?_
                        try simp only [List.setIfInBounds_toArray, List.set_cons_zero, List.set_cons_succ]
                        refine skip_at (i := 16) (d := 75) rfl rfl (by kernel_rfl) (by kernel_rfl) (by kernel_rfl) (fun _ _ _ _ => NormalOnly.any) rfl HS ?_
                        try simp only [List.setIfInBounds_toArray, List.set_cons_zero, List.set_cons_succ]
                        refine skip_at (i := 17) (d := 76) rfl rfl (by kernel_rfl) (by kernel_rfl) (by kernel_rfl) (fun _ _ _ _ => NormalOnly.any) rfl HS ?_
                        try simp only [List.setIfInBounds_toArray, List.set_cons_zero, List.set_cons_succ]
                        refine skip_at (i := 18) (d := 77) rfl rfl (by kernel_rfl) (by kernel_rfl) (by kernel_rfl) (fun _ _ _ _ => NormalOnly.any) rfl HS ?_
                        try simp only [List.setIfInBounds_toArray, List.set_cons_zero, List.set_cons_succ]
                        refine skip_at (i := 19) (d := 78) rfl rfl (by kernel_rfl) (by kernel_rfl) (by kernel_rfl) (fun _ _ _ _ => NormalOnly.any) rfl HS ?_
                        try simp only [List.setIfInBounds_toArray, List.set_cons_zero, List.set_cons_succ]
                        refine take_at (i := 20) (d := 79) (v := ?_) rfl rfl (by kernel_rfl) (by kernel_rfl) (by kernel_rfl) (fun _ _ _ _ => NormalOnly.any) rfl ?hy191 HS ?rest191
                        case hy191 => intro w' hSw; (try dsimp only at hSw); go_simp; try (with_reducible rfl)
                        try simp only [List.setIfInBounds_toArray, List.set_cons_zero, List.set_cons_succ]
                        refine take_at (i := 21) (d := 80) (v := ?_) rfl rfl (by kernel_rfl) (by kernel_rfl) (by kernel_rfl) (fun _ _ _ _ => NormalOnly.any) rfl ?hy192 HS ?rest192
                        case hy192 => intro w' hSw; (try dsimp only at hSw); go_simp; try (with_reducible rfl)
                        try simp only [List.setIfInBounds_toArray, List.set_cons_zero, List.set_cons_succ]
                        refine take_at (i := 22) (d := 81) (v := ?_) rfl rfl (by kernel_rfl) (by kernel_rfl) (by kernel_rfl) (fun _ _ _ _ => NormalOnly.any) rfl ?hy193 HS ?rest193
                        case hy193 => intro w' hSw; (try dsimp only at hSw); go_simp; try (with_reducible rfl)
                        try simp only [List.setIfInBounds_toArray, List.set_cons_zero, List.set_cons_succ]
                        refine take_at (i := 23) (d := 82) (v := ?_) rfl rfl (by kernel_rfl) (by kernel_rfl) (by kernel_rfl) (fun _ _ _ _ => NormalOnly.any) rfl ?hy194 HS ?rest194
                        case hy194 => intro w' hSw; (try dsimp only at hSw); go_simp; try (with_reducible rfl)
                        try simp only [List.setIfInBounds_toArray, List.set_cons_zero, List.set_cons_succ]
                        refine take_at (i := 24) (d := 83) (v := ?_) rfl rfl (by kernel_rfl) (by kernel_rfl) (by kernel_rfl) (fun _ _ _ _ => NormalOnly.any) rfl ?hy195 HS ?rest195
                        case hy195 => intro w' hSw; (try dsimp only at hSw); go_simp; try (with_reducible rfl)
                        try simp only [List.setIfInBounds_toArray, List.set_cons_zero, List.set_cons_succ]
                        refine wpAnyH_ready (rs := [25]) (by kernel_rfl) (by simp) ?_
                        refine AllReadyH.cons rfl (fun K hK => ?_) AllReadyH.nil
                        go_simp
                        go_wp2_with (go_at_call_of 53 (Value.int IntKind.i64 ((v : Nat) : Int)); refine (HTv.out _ HS.2.2).mono ?_; rintro e w' ⟨rfl, rfl⟩)
                        refine hK.out _ _ HS (fun _ => ?_)
                        clear hK
                        refine take_at (i := 26) (d := 85) (v := ?_) rfl rfl (by kernel_rfl) (by kernel_rfl) (by kernel_rfl) (fun _ _ _ _ => NormalOnly.any) rfl ?hy196 HS ?rest196
                        case hy196 => intro w' hSw; (try dsimp only at hSw); go_simp; try (with_reducible rfl)
                        try simp only [List.setIfInBounds_toArray, List.set_cons_zero, List.set_cons_succ]
                        refine skip_at (i := 27) (d := 86) rfl rfl (by kernel_rfl) (by kernel_rfl) (by kernel_rfl) (fun _ _ _ _ => NormalOnly.any) rfl HS ?_
                        try simp only [List.setIfInBounds_toArray, List.set_cons_zero, List.set_cons_succ]
                        refine skip_at (i := 28) (d := 87) rfl rfl (by kernel_rfl) (by kernel_rfl) (by kernel_rfl) (fun _ _ _ _ => NormalOnly.any) rfl HS ?_
                        try simp only [List.setIfInBounds_toArray, List.set_cons_zero, List.set_cons_succ]
                        refine skip_at (i := 29) (d := 88) rfl rfl (by kernel_rfl) (by kernel_rfl) (by kernel_rfl) (fun _ _ _ _ => NormalOnly.any) rfl HS ?_
                        try simp only [List.setIfInBounds_toArray, List.set_cons_zero, List.set_cons_succ]
                        refine skip_at (i := 30) (d := 89) rfl rfl (by kernel_rfl) (by kernel_rfl) (by kernel_rfl) (fun _ _ _ _ => NormalOnly.any) rfl HS ?_
                        try simp only [List.setIfInBounds_toArray, List.set_cons_zero, List.set_cons_succ]
                        refine skip_at (i := 31) (d := 90) rfl rfl (by kernel_rfl) (by kernel_rfl) (by kernel_rfl) (fun _ _ _ _ => NormalOnly.any) rfl HS ?_
                        try simp only [List.setIfInBounds_toArray, List.set_cons_zero, List.set_cons_succ]
                        refine take_at (i := 32) (d := 91) (v := ?_) rfl rfl (by kernel_rfl) (by kernel_rfl) (by kernel_rfl) (fun _ _ _ _ => NormalOnly.any) rfl ?hy197 HS ?rest197
                        case hy197 => intro w' hSw; (try dsimp only at hSw); go_simp; try (with_reducible rfl)
                        try simp only [List.setIfInBounds_toArray, List.set_cons_zero, List.set_cons_succ]
                        refine take_at (i := 33) (d := 92) (v := ?_) rfl rfl (by kernel_rfl) (by kernel_rfl) (by kernel_rfl) (fun _ _ _ _ => NormalOnly.any) rfl ?hy198 HS ?rest198
                        case hy198 => intro w' hSw; (try dsimp only at hSw); go_simp; try (with_reducible rfl)
                        try simp only [List.setIfInBounds_toArray, List.set_cons_zero, List.set_cons_succ]
                        refine take_at (i := 34) (d := 93) (v := ?_) rfl rfl (by kernel_rfl) (by kernel_rfl) (by kernel_rfl) (fun _ _ _ _ => NormalOnly.any) rfl ?hy199 HS ?rest199
                        case hy199 => intro w' hSw; (try dsimp only at hSw); go_simp; try (with_reducible rfl)
                        try simp only [List.setIfInBounds_toArray, List.set_cons_zero, List.set_cons_succ]
                        refine wpAnyH_done (by kernel_rfl) ⟨rfl, ?_⟩ _
                        go_wp2_with fail
                        go_meet
                        exact ⟨by rw [HZ.out], HS.2.2⟩
              case rest =>
                obtain ⟨rfl, hwx⟩ := hcut
                have HB3 := Lib.hid (HB1.out.trans (hwx.mono HB1.out.size))
                have HK3 := Lib.hid (HK2.out.below hwx hlo1)
                have ca3 : wc.drew.cell? ⟨w.heap.size, a, none⟩ = some (.int .i64 (p : Nat)) := (hwx.cell hlo1).trans ca1
                have cc3 : wc.drew.cell? ⟨w.heap.size, c, none⟩ = some (.int .i64 (q : Nat)) := (hwx.cell hlo1).trans cc1
                clear HB1 HK2 hwx HTu HTv HAll HR1 hlo1 ca1 cc1 hnd
                obtain ⟨z, hz⟩ : ∃ z, decide (ne = true ∧ p ≠ q) = z := ⟨_, rfl⟩
                rw [hz]
                cases z with
                | true =>
                  have HSy := Lib.hid (HSx.out.trans (if_pos (of_decide_eq_true hz)))
                  have HJ := Lib.hid (rjoin_any w.heap.size i p q F wc.drew HK3.out.drew (by omega))
                  clear HSx hz HK3
                  go_wp2_with fail
                  go_region_with (go_at_call_of 55 (Value.int IntKind.i64 ((p : Nat) : Int)); refine HJ.out.mono ?_; rintro e w5 ⟨⟨r, rfl⟩, hr5, hb5, hs5⟩)
                  all_goals (
                    go_wp2_with fail
                    go_roundw
                    case rel => exact ⟨c + 1, by omega, by go_num, Lib.hid (hr5.congr fun j _ => by rw [HSy.out]), Lib.hid (HB3.out.drew.trans hb5)⟩
                    case measure => simp only [intOf]; omega)
                | false =>
                  have HSy := Lib.hid (HSx.out.trans (if_neg (of_decide_eq_false hz)))
                  clear HSx hz
                  go_wp2_with fail
                  go_roundw
                  case rel => exact ⟨c + 1, by omega, by go_num, Lib.hid (HK3.out.congr fun j _ => by rw [HSy.out]), HB3⟩
                  case measure => simp only [intOf]; omega
            · obtain rfl : c = a := by omega
              go_wp2_with fail
              go_roundw
              case rel => exact ⟨c + 1, by omega, by go_num, Lib.hid (HK.out.congr fun j _ => by unfold bkF; rw [bkT_next]), HB⟩
              case measure => simp only [intOf]; omega
        · obtain rfl : a = i := by omega
          have HKe := Lib.hid (HK.out.congr (f' := fun j => .int .i64 ((labL (bkP E) j : Nat) : Int)) fun j _ => by unfold bkF; rw [← HM.out, bkT_end])
          have hsz0 := HK.out.lt
          clear HK
          have hEl := HM.out
          go_wp2_with fail
          go_loopw [9, 10] (fun ov kv wo => ∃ (k : Nat) (Vs : List Value), k ≤ a ∧ kv = .int .i64 (k : Nat) ∧ Hid (Row wo w.heap.size a (fun j => .int .i64 ((bkK E j : Nat) : Int))) ∧ Hid (BOut (w.heap.size + 1) (bkR E k) ov Vs wo) ∧ Hid (Below w.heap.size w wo)) (fun _ kv _ => a - (intOf kv).toNat)
          case atStart => exact ⟨0, [], Nat.zero_le _, rfl, HKe, Lib.hid (BOut.nil _ _), HB⟩
          case round =>
            clear HKe HB hsz0
            obtain ⟨k, Vs, hk, rfl, HK, HO, HB⟩ := hrel
            generalize wr = wo at *
            have hwk : IntKind.i64.wrap ((k : Int) + 1) = (k : Int) + 1 := IntWalk.i64_in _ (by omega)
            by_cases hlt : k < a
            · have ck := HK.out.cell hlt
              have hki : (0 : Int) ≤ k ∧ (k : Int) < a := by omega
              have hln := bkR_len E k
              by_cases hx : bkK E k = k
              · rw [hx] at ck
                have HY := Lib.hid (bkR_yes hx)
                clear hx
                go_wp2_with fail
                go_loopw [11, 12] (fun lv jv wi => ∃ j : Nat, k ≤ j ∧ j ≤ a ∧ jv = .int .i64 (j : Nat) ∧ Hid (OwnI wo.heap.size lv (bkC E k j) wi) ∧ Hid (Below wo.heap.size wo wi)) (fun _ jv _ => a - (intOf jv).toNat)
                case atStart => exact ⟨k, Nat.le_refl _, by omega, rfl, Lib.hid (by rw [bkC_zero]; exact World.ownsRow_nil _ _ _ _), Lib.hid (Below.refl _ _)⟩
                case round =>
                  obtain ⟨j, hkj, hj, rfl, HI, HW⟩ := hrel
                  generalize wr = wi at *
                  have hwj : IntKind.i64.wrap ((j : Int) + 1) = (j : Int) + 1 := IntWalk.i64_in _ (by omega)
                  by_cases hjl : j < a
                  · have cj := (HK.out.below HW.out HK.out.lt).cell hjl
                    have hji : (0 : Int) ≤ j ∧ (j : Int) < a := by omega
                    have hlc := bkC_len E k j
                    clear ck
                    by_cases hy : bkK E j = k
                    · rw [hy] at cj
                      have HC := Lib.hid (bkC_yes hy)
                      have hown := HI.out
                      have hsz := HW.out.size
                      unfold OwnI at hown
                      clear hy HI
                      generalize bkC E k j = T at *
                      go_wp2_with (at_builtin; refine push etI rfl _ _ rfl wo.heap.size _ _ _ hown rfl #[.int .i64 (j : Nat)] _ rfl rfl rfl (by simp [Value.oneCell']) (by omega) (by omega) hsz ?_; intro g cp w5 hown5 hg5 hv5)
                      have hb5 := Lib.hid (HW.out.grown hg5 hsz (fun j e => (hown.lt j e).1))
                      go_roundw
                      case rel => exact ⟨j + 1, by omega, by omega, by go_num, by rw [HC.out]; exact Lib.hid (by unfold OwnI; rw [intsN_snoc, List.map_append, List.length_append]; exact hown5), hb5⟩
                      case measure => simp only [intOf]; omega
                    · have HC := Lib.hid (bkC_no hy)
                      obtain ⟨y, hy2⟩ : ∃ y, bkK E j = y := ⟨_, rfl⟩
                      rw [hy2] at cj hy
                      have t1 : ((y : Int) == (k : Int)) = false := by simp; omega
                      clear hy2
                      go_wp2_with fail
                      go_roundw
                      case rel => exact ⟨j + 1, by omega, by omega, by go_num, by rw [HC.out]; exact HI, HW⟩
                      case measure => simp only [intOf]; omega
                  · obtain rfl : j = a := by omega
                    have hl5 : bkC E k j = bkC E k E.length := by rw [hEl]
                    rw [hl5] at HI
                    obtain ⟨la, lc, rfl, hlc⟩ := ownI_view HI.out
                    have hOB := HO.out.below HW.out
                    have hsz := HB.out.size
                    have hwz := HW.out.size
                    have hkl := HK.out.lt
                    have hLI := ownI_lower HI.out (show w.heap.size + 1 ≤ wo.heap.size by omega)
                    have hrw := hOB.row
                    have HK4 := Lib.hid (HK.out.below HW.out HK.out.lt)
                    have HB4 := Lib.hid (HB.out.trans (HW.out.mono hsz))
                    have hbs : w.heap.size + 1 ≤ wi.heap.size := by omega
                    have HOB := Lib.hid hOB
                    have HLI := Lib.hid hLI
                    have hlc2 := bkC_len E k E.length
                    clear hOB hLI HI HW HK HB ck hl5
                    generalize bkC E k E.length = T at *
                    go_wp2_with (at_builtin; refine push etRw rfl _ _ rfl (w.heap.size + 1) _ _ _ hrw rfl #[.slice la T.length lc] _ rfl rfl rfl (by simp [Value.oneCell']) (by omega) (by omega) hbs ?_; intro g5 cp5 w5 hown5 hg5 hv5)
                    have hb5 : Below (w.heap.size + 1) wi w5 := (Below.refl _ _).grown hg5 hbs (fun j e => (hrw.lt j e).1)
                    have HOn := Lib.hid (HOB.out.push HLI.out ⟨la, lc, rfl, hlc⟩ hown5 hg5)
                    go_roundw
                    case rel => exact ⟨k + 1, _, by omega, by go_num, Lib.hid (HK4.out.below hb5 (by omega)), by rw [HY.out]; exact HOn, Lib.hid (HB4.out.trans (hb5.mono (by omega)))⟩
                    case measure => simp only [intOf]; omega
              · have HN := Lib.hid (bkR_no hx)
                obtain ⟨x, hx2⟩ : ∃ x, bkK E k = x := ⟨_, rfl⟩
                rw [hx2] at ck hx
                have t1 : ((x : Int) != (k : Int)) = true := by simp; omega
                clear hx2
                go_wp2_with fail
                go_roundw
                case rel => exact ⟨k + 1, Vs, by omega, by go_num, HK, by rw [HN.out]; exact HO, HB⟩
                case measure => simp only [intOf]; omega
            · obtain rfl : k = a := by omega
              have HX := Lib.hid (show bkR E k = bkL E by rw [← hEl]; exact bkR_end E)
              clear HK
              go_wp2_with fail
              go_ret
              exact ⟨_, rfl, by rw [← HX.out]; exact HO.out.mem, HB.out⟩
end Go.Proofs.Ytcpikabhcjkkmaa
