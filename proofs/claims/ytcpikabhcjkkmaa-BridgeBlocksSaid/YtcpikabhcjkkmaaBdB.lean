/- The document's bridges and labels. Conditions: the graph is made. -/
import Derived.Test.YtcpikabhcjkkmaaBdL
import Derived.Test.YtcpikabhcjkkmaaMe
namespace Go.Proofs.Ytcpikabhcjkkmaa
open Go.RowKit

theorem Try.infoBl0 : (Try.prog.info? 4).map (fun i => (i.zero, i.size, i.bytes)) = some (some (.bool false), 1, 1) := by kernel_rfl
set_option maxRecDepth 100000 in
theorem rval_any (B b n : Nat) (E : List Ed) (w : World) (h : RAt w B b n E) :
    Calls Try.prog 40 #[.pointer (some ⟨b, 0, none⟩)] w fun e w' => e = .returned (.bool true) ∧ w = w' := by
  have c0 := h.made
  clear h
  go_enter Try.func40, Try.ntmps40
  go_wp2_with fail
  go_ret
  exact ⟨rfl, rfl⟩
set_option maxRecDepth 100000 in
set_option maxHeartbeats 1000000 in
theorem rbri_any (B b n i : Nat) (E : List Ed) (w : World) (hR : RAt w B b n E) (hB : B ≤ w.heap.size) (hi : i < E.length) :
    Calls Try.prog 41 #[.pointer (some ⟨b, 0, none⟩), .int .i64 (i : Nat)] w fun e w' => e = .returned (.bool (briB E i)) ∧ Below w.heap.size w w' := by
  have hml := hR.ok.m_le
  obtain ⟨ea, ec, EA, hce, hES⟩ := hR.edges
  obtain ⟨u, v, hu, hv, hun, hvn, huv⟩ := hR.ok.nats hi
  have hep : edP E i = (u, v) := by unfold edP; rw [hu, hv]; rfl
  have hmk : ∀ w, (Instr.makeSlice 56 (.int .i64 (E.length : Nat)) (.int .i64 (E.length : Nat))).run Try.prog w = .ok (.slice (some ⟨w.heap.size, 0, none⟩) E.length E.length) (w.alloc (.cells (madeCells #[.bool false] E.length) 4)) := fun w =>
    run_make_row' (P := Try.prog) 56 4 (.bool false) 1 Try.underlying56 Try.infoBl0 rfl .i64 .i64 E.length (by omega) (by omega) w
  have hrow := Row.made w (.bool false) E.length 4
  have ci := hrow.cell hi
  have fi := hrow.frozen i
  have hr2 := (hrow.set i (.bool true)).congr (f' := fun j => .bool (decide (j = i))) fun j _ => by by_cases c : j = i <;> simp [c]
  have hb2 : Below w.heap.size w ((w.alloc (.cells (madeCells #[.bool false] E.length) 4)).setCell ⟨w.heap.size, i, none⟩ (.bool true)) := ((Below.refl _ w).alloc (Nat.le_refl _) _).setCell (p := ⟨w.heap.size, i, none⟩) (Nat.le_refl _) _
  have hsz : w.heap.size < ((w.alloc (.cells (madeCells #[.bool false] E.length) 4)).setCell ⟨w.heap.size, i, none⟩ (.bool true)).heap.size := by simp [World.setCell]
  have hset : (w.alloc (.cells (madeCells #[.bool false] E.length) 4)).setCell ⟨w.heap.size, i, none⟩ (.bool true) = w.alloc (.cells ((madeCells #[.bool false] E.length).setIfInBounds i (.bool true)) 4) := World.setCell_alloc_at _ _ _ _ _ rfl
  rw [hset] at hr2 hb2 hsz
  have HC := Lib.hid (rlab0_any B b n w.heap.size E (fun j => decide (j = i)) (-1) _ (hR.below (hb2.mono hB)) (by omega) hr2 hsz)
  have HR := Lib.hid hR
  have HUv := Lib.hid (And.intro hu (And.intro hv hep))
  have HB2 := Lib.hid hb2
  have hin : (0 : Int) ≤ i ∧ (i : Int) < E.length := by omega
  have hbB := hR.lt
  clear hR hES hrow hr2 hb2 hu hv hep hset
  go_enter Try.func41, Try.ntmps41
  go_wp2_with fail
  refine HC.out.mono ?_
  clear HC
  rintro e w2 ⟨rfl, hrow, b2⟩
  simp only [World.size_alloc] at hrow ⊢
  have B2 := HB2.out.trans (b2.mono (by omega))
  have hR2 := HR.out.below (B2.mono hB)
  obtain ⟨ea2, ec2, EA2, hce2, hES2⟩ := hR2.edges
  have ix := hES2.ix i hi
  have e0 := ES.u hES2 hi
  have e1 := ES.v hES2 hi
  rw [HUv.out.1] at e0; rw [HUv.out.2.1] at e1
  have cu := hrow.cell hun
  have cv := hrow.cell hvn
  rw [okL_one] at cu cv
  have hne : (((labO E (ocE E i) u : Nat) : Int) != ((labO E (ocE E i) v : Nat) : Int)) = briB E i := by
    unfold briB
    rw [HUv.out.2.2, Bool.eq_iff_iff, decide_eq_true_eq]
    simp; omega
  have huu : (0 : Int) ≤ u ∧ (u : Int) < n := by omega
  have hvv : (0 : Int) ≤ v ∧ (v : Int) < n := by omega
  have HBB := Lib.hid B2
  obtain ⟨p, hp⟩ : ∃ p, labO E (ocE E i) u = p := ⟨_, rfl⟩
  obtain ⟨r, hr⟩ : ∃ r, labO E (ocE E i) v = r := ⟨_, rfl⟩
  rw [hp] at cu hne; rw [hr] at cv hne
  obtain ⟨bb, hbb⟩ : ∃ x, briB E i = x := ⟨_, rfl⟩
  rw [hbb] at hne
  have HBv := Lib.hid hbb
  clear hbb
  clear hrow b2 B2 hR2 hES2 hp hr ci fi hce
  go_wp2_with fail
  go_quiet (fail)
  go_wp2_with fail
  go_ret
  exact ⟨by rw [HBv.out]; rfl, below_drewN HBB.out _⟩
theorem briT_succ (E : List Ed) (k : Nat) : (List.range (k + 1)).filter (briB E) = if briB E k then (List.range k).filter (briB E) ++ [k] else (List.range k).filter (briB E) := by
  rw [List.range_succ, List.filter_append]
  by_cases c : briB E k = true
  · rw [if_pos c]; simp [c]
  · rw [if_neg c]; simp [c]
theorem filR_len {p : Nat → Bool} (k : Nat) : ((List.range k).filter p).length ≤ k := by
  have := List.length_filter_le p (List.range k)
  simpa using this
/-- a list of indexes that the call owns -/
def OIRes (l : List Nat) (w : World) (e : Ending) (w' : World) : Prop := ∃ v, e = .returned v ∧ OwnI w.heap.size v l w' ∧ Below w.heap.size w w'
set_option maxRecDepth 100000 in
set_option maxHeartbeats 1000000 in
theorem rbridges_any (B b n : Nat) (E : List Ed) (w : World) (hR : RAt w B b n E) (hB : B ≤ w.heap.size) :
    Calls Try.prog 17 #[.pointer (some ⟨b, 0, none⟩)] w (OIRes (briL E) w) := by
  have hml := hR.ok.m_le
  have HR := Lib.hid hR
  clear hR
  go_enter Try.func17, Try.ntmps17
  go_wp2_with fail
  go_loopw [3, 4] (fun v iv wr => ∃ i : Nat, i ≤ E.length ∧ iv = .int .i64 (i : Nat) ∧ Hid (OwnI w.heap.size v ((List.range i).filter (briB E)) wr) ∧ Hid (Below w.heap.size w wr)) (fun _ iv _ => E.length - (intOf iv).toNat)
  case atStart => exact ⟨0, Nat.zero_le _, rfl, Lib.hid (World.ownsRow_nil _ _ _ _), Lib.hid (Below.refl _ _)⟩
  case round =>
    obtain ⟨i, hi, rfl, HO, HB⟩ := hrel
    have hRr := HR.out.below (HB.out.mono hB)
    have HV := Lib.hid (rval_any B b n E wr hRr)
    obtain ⟨ea, ec, EA, hce, -⟩ := hRr.edges
    have hwi : IntKind.i64.wrap ((i : Int) + 1) = (i : Int) + 1 := IntWalk.i64_in _ (by omega)
    by_cases hlt : i < E.length
    · have HC := Lib.hid (rbri_any B b n i E wr hRr (by have := HB.out.size; omega) hlt)
      have HS := Lib.hid (briT_succ E i)
      have d1 : decide ((i : Int) < (E.length : Int)) = true := decide_eq_true (by omega)
      have d2 : decide (i < E.length) = true := decide_eq_true hlt
      clear hRr
      go_wp2_with fail
      refine HV.out.mono ?_
      rintro e wz ⟨rfl, rfl⟩
      clear HV
      go_wp2_with fail
      refine HC.out.mono ?_
      clear HC
      rintro e w2 ⟨rfl, b2⟩
      have HB2 := Lib.hid (HB.out.trans (b2.mono HB.out.size))
      have HO2 := Lib.hid (ownI_below HO.out b2)
      clear b2 HB HO hce
      obtain ⟨c, hc⟩ : ∃ c, briB E i = c := ⟨_, rfl⟩
      rw [hc] at HS ⊢
      clear hc
      cases c with
      | true =>
        have hT : (List.range (i + 1)).filter (briB E) = (List.range i).filter (briB E) ++ [i] := HS.out
        have HT := Lib.hid hT
        have hown := HO2.out
        have hsz := HB2.out.size
        have hln := filR_len (p := briB E) i
        unfold OwnI at hown
        clear hT HS HO2
        generalize (List.range i).filter (briB E) = T at *
        go_wp2_with (at_builtin; refine push etI rfl _ _ rfl w.heap.size _ _ _ hown rfl #[.int .i64 (i : Nat)] _ rfl rfl rfl (by simp [Value.oneCell']) (by omega) (by omega) hsz ?_; intro g cp w5 hown5 hg5 hv5)
        have hb5 := Lib.hid (HB2.out.grown hg5 hsz (fun j e => (hown.lt j e).1))
        go_roundw
        case rel => exact ⟨i + 1, by omega, by go_num, by rw [HT.out]; exact Lib.hid (by unfold OwnI; rw [intsN_snoc, List.map_append, List.length_append]; exact hown5), hb5⟩
        case measure => simp only [intOf]; omega
      | false =>
        have HT := Lib.hid (show (List.range (i + 1)).filter (briB E) = (List.range i).filter (briB E) from HS.out)
        clear HS
        go_wp2_with fail
        go_roundw
        case rel => exact ⟨i + 1, by omega, by go_num, by rw [HT.out]; exact HO2, HB2⟩
        case measure => simp only [intOf]; omega
    · obtain rfl : i = E.length := by omega
      have HF : Hid (OwnI w.heap.size u3 (briL E) wr) := Lib.hid HO.out
      clear hRr HO
      go_wp2_with fail
      refine HV.out.mono ?_
      rintro e wz ⟨rfl, rfl⟩
      clear HV
      go_wp2_with fail
      go_ret
      exact ⟨_, rfl, HF.out, HB.out⟩
end Go.Proofs.Ytcpikabhcjkkmaa
