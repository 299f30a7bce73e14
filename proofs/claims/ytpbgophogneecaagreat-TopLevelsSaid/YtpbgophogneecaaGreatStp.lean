/- The walk of steps of package sweep: an iterator that unites sets between two rounds. Conditions: the tally was made by Even; the order's indexes are in range. -/
import Derived.Test.YtpbgophogneecaaGreatTwa
import Derived.Test.YtpbgophogneecaaGreatGraph
import Derived.RangeFuncBound
import Derived.RangeFuncCalls
import Derived.RangeFuncLeaves
import Derived.RangeFuncBox
import Derived.Shelf.Abstract
import Derived.Shelf.RegionOpen
import Derived.OwnWalkIn
import Derived.TacticsInMore
import Derived.LoopNIn
import Derived.LoopIn
import Derived.BigRegionIn
namespace Go.Proofs.YtpbgophogneecaaGreat
open Go.RowKit Go.Shelf

/-- the blocks that steps reads -/
def StpK (B Bt Be Bo go j : Nat) : Prop := j < B ∨ j = Bt ∨ j = Be ∨ j = Bo ∨ j = go
/-- what lies in memory when so many elements have been handed on -/
structure StpT (B Bt Be Bo go base tb n : Nat) (E : List Ed) (o : List Nat) (ea oa : Option Addr) (ec oc : Nat) (A Ao : Nat → Addr) (S : Nat → Prop) (ys : List Nat) (W : World) : Prop where
  tal : TalS S W base tb n (labO E (o.take (ys.length - 1)))
  bt : W.cell? ⟨Bt, 0, none⟩ = some (.pointer (some ⟨tb, 0, none⟩))
  be : W.cell? ⟨Be, 0, none⟩ = some (.slice ea E.length ec)
  bo : W.cell? ⟨Bo, 0, none⟩ = some (.slice oa o.length oc)
  es : ES W B (.slice ea E.length ec) E A
  oix : ∀ i : Nat, i < o.length → ∀ w' : World, (Instr.indexAt 46 (.slice oa o.length oc) (.int .i64 i)).run Tryz.prog w' = .ok (.pointer (some (Ao i))) w'
  ord : ∀ i : Nat, i < o.length → (Ao i).block = go ∧ W.cell? (Ao i) = some (.int .i64 (o.getD i 0 : Nat))
  lt : ∀ j, StpK B Bt Be Bo go j → j < W.heap.size
  ap : ∀ j, StpK B Bt Be Bo go j → ¬ S j
  rg : ys = List.range ys.length ∧ ys.length ≤ o.length + 1
section
variable {B Bt Be Bo go base tb n : Nat} {E : List Ed} {o : List Nat} {ea oa : Option Addr} {ec oc : Nat} {A Ao : Nat → Addr}
/-- what steps reads stays where its blocks stay -/
theorem StpT.on {S S' : Nat → Prop} {ys ys' : List Nat} {W W' : World} (h : StpT B Bt Be Bo go base tb n E o ea oa ec oc A Ao S ys W) (hs : W.heap.size ≤ W'.heap.size) (hb : ∀ j, StpK B Bt Be Bo go j → W'.heap[j]? = W.heap[j]?)
    (ht : TalS S' W' base tb n (labO E (o.take (ys'.length - 1)))) (ha : ∀ j, StpK B Bt Be Bo go j → ¬ S' j) (hr : ys' = List.range ys'.length ∧ ys'.length ≤ o.length + 1) : StpT B Bt Be Bo go base tb n E o ea oa ec oc A Ao S' ys' W' :=
  ⟨ht, (World.cell?_of_block (w := W) (hb Bt (.inr (.inl rfl)))).trans h.bt, (World.cell?_of_block (w := W) (hb Be (.inr (.inr (.inl rfl))))).trans h.be, (World.cell?_of_block (w := W) (hb Bo (.inr (.inr (.inr (.inl rfl)))))).trans h.bo,
    ⟨h.es.ix, h.es.lt, fun i hi j hj => (World.cell?_of_block (w := W) (hb _ (.inl (by rw [add_block]; exact h.es.lt i hi)))).trans (h.es.cell i hi j hj)⟩, h.oix,
    fun i hi => ⟨(h.ord i hi).1, (World.cell?_of_block (w := W) (hb _ (.inr (.inr (.inr (.inr (h.ord i hi).1)))))).trans (h.ord i hi).2⟩, fun j hj => Nat.lt_of_lt_of_le (h.lt j hj) hs, ha, hr⟩
theorem StpT.keep {S : Nat → Prop} {ys : List Nat} {W W' : World} (h : StpT B Bt Be Bo go base tb n E o ea oa ec oc A Ao S ys W) (k : KpS S (StpK B Bt Be Bo go) W W') : StpT B Bt Be Bo go base tb n E o ea oa ec oc A Ao S ys W' :=
  h.on k.size (fun j hj => k.same j (.inr hj)) (h.tal.keep k.size fun j hj => k.same j (.inl hj)) h.ap h.rg
theorem StpT.first {S : Nat → Prop} {W : World} (h : StpT B Bt Be Bo go base tb n E o ea oa ec oc A Ao S [] W) : StpT B Bt Be Bo go base tb n E o ea oa ec oc A Ao S [0] W :=
  h.on (Nat.le_refl _) (fun _ _ => rfl) h.tal h.ap ⟨rfl, by simp⟩
theorem StS.drew {S : Nat → Prop} (W : World) : StS S W S W.drew := ⟨rfl, rfl, rfl, Nat.le_refl _, fun _ _ _ => rfl, fun _ h => .inl h⟩
theorem StpT.drew {S : Nat → Prop} {ys : List Nat} {W : World} (h : StpT B Bt Be Bo go base tb n E o ea oa ec oc A Ao S ys W) : StpT B Bt Be Bo go base tb n E o ea oa ec oc A Ao S ys W.drew := h.keep ⟨Nat.le_refl _, fun _ _ => rfl⟩
set_option maxRecDepth 100000 in
set_option maxHeartbeats 8000000 in
theorem steps_stops (q : Nat) (hq : 1 ≤ q) (G : GOk n E) (ho : ∀ i, i < o.length → o.getD i 0 < E.length) (hol : o.length ≤ 1000000) (S0 : Nat → Prop) (w : World) :
    SeqW Fence.wide q Tryz.prog 33 #[.pointer (some ⟨Bo, 0, none⟩), .pointer (some ⟨Bt, 0, none⟩), .pointer (some ⟨Be, 0, none⟩)] (fun x : Nat => #[.int .i64 (x : Nat)]) (StpT B Bt Be Bo go base tb n E o ea oa ec oc A Ao) (StpK B Bt Be Bo go) (fun ys => ys = List.range (o.length + 1)) S0 w := fun l J Jx W _ hT hJs hY h0 => by
  obtain ⟨fn, tmps, assign, body, hy0, hR⟩ := hY S0 [] 0 W h0 hT.first
  have hy : (Instr.yield l #[.int .i64 0]).run Tryz.prog W = .ok (.round l fn tmps assign body) W := hy0
  clear hy0
  have HY := Lib.hid hY; have HJs := Lib.hid hJs
  have HT := Lib.hid hT
  have hnm := G.n_le
  have HG := Lib.hid G; have HO := Lib.hid ho
  clear hY hJs h0 hT G ho
  refine callsIn_of_wp Tryz.func33 rfl trivial ?_ rfl
  simp only [Tryz.ntmps33, List.size_toArray, List.length_cons, List.length_nil, Nat.reduceAdd, Nat.reduceSub, Array.replicate_succ, Array.replicate_zero, List.push_toArray, List.append_toArray, List.nil_append, List.cons_append]
  gi_wp2
  refine hR.mono ?_
  rintro e W1 (⟨rfl, hJ1, hk1⟩ | ⟨rfl, hJx1⟩)
  · have HT1 := Lib.hid (HT.out.first.keep hk1)
    have HJ1 := Lib.hid hJ1
    have bo := HT1.out.bo
    clear hJ1 hk1 hR hy
    gi_wp2
    clear bo
    gi_loopw [12] (fun p wr => ∃ (k : Nat) (S : Nat → Prop) (ys : List Nat), k ≤ o.length ∧ p = .int .i64 (k : Nat) ∧ Hid (ys = List.range (k + 1)) ∧ Hid (J S ys wr) ∧ Hid (StpT B Bt Be Bo go base tb n E o ea oa ec oc A Ao S ys wr)) (fun p _ => o.length - (intOf p).toNat)
    case atStart => exact ⟨0, S0, [0], Nat.zero_le _, rfl, Lib.hid rfl, HJ1, HT1⟩
    case round =>
      clear HT1 HJ1
      obtain ⟨k, S, ys, hk, rfl, HYs, HJ, HTr⟩ := hrel
      by_cases hlt : k < o.length
      · have oix := HTr.out.oix k hlt
        have oc9 := (HTr.out.ord k hlt).2
        have hil := HO.out k hlt
        obtain ⟨i, hi⟩ : ∃ i, o.getD k 0 = i := ⟨_, rfl⟩
        have HI := Lib.hid hi
        rw [hi] at oc9 hil
        clear hi
        gi_wp2
        have HT2 := Lib.hid HTr.out.drew
        have HJ2 := Lib.hid (HJs.out _ _ _ _ _ HJ.out (StS.drew wr))
        obtain ⟨g1, g2, g3, g4, g5⟩ := HG.out.ends i hil
        obtain ⟨u, hu⟩ : ∃ u : Nat, (eAt E i).u = u := ⟨(eAt E i).u.toNat, by omega⟩
        obtain ⟨v, hv⟩ : ∃ v : Nat, (eAt E i).v = v := ⟨(eAt E i).v.toNat, by omega⟩
        have HUV := Lib.hid (show edP E i = (u, v) by unfold edP; rw [hu, hv]; rfl)
        have hun : u < n := by omega
        have hvn : v < n := by omega
        have ix := HT2.out.es.ix i hil
        have eu := ES.u HT2.out.es hil
        have ev := ES.v HT2.out.es hil
        rw [hu] at eu; rw [hv] at ev
        clear g1 g2 g3 g4 g5 hu hv oix oc9 HTr HJ
        have HU := Lib.hid (talunion_any base tb n u v _ wr.drew S HT2.out.tal hun hvn hnm)
        have HS : wr.drew.cell? ⟨Bt, 0, none⟩ = some (.pointer (some ⟨tb, 0, none⟩)) ∧ wr.drew.cell? ⟨Be, 0, none⟩ = some (.slice ea E.length ec) ∧ wr.drew.cell? (A i) = some (.int .i64 (u : Nat)) ∧ wr.drew.cell? ⟨(A i).block, (A i).off + 1, none⟩ = some (.int .i64 (v : Nat)) := ⟨HT2.out.bt, HT2.out.be, eu, ev⟩
        clear eu ev
        refine region_wide (fun w' => w'.cell? ⟨Bt, 0, none⟩ = some (.pointer (some ⟨tb, 0, none⟩)) ∧ w'.cell? ⟨Be, 0, none⟩ = some (.slice ea E.length ec) ∧ w'.cell? (A i) = some (.int .i64 (u : Nat)) ∧ w'.cell? ⟨(A i).block, (A i).off + 1, none⟩ = some (.int .i64 (v : Nat))) (by kernel_rfl) ?_
        refine take_at (i := 0) (d := 17) (v := ?_) rfl rfl (by kernel_rfl) (by kernel_rfl) (by kernel_rfl) (fun _ _ _ _ => NormalOnly.any) rfl ?hy1 HS ?rest1
        case hy1 => intro w' hSw; (try dsimp only at hSw); go_simp; try (with_reducible rfl)
        try simp only [List.setIfInBounds_toArray, List.set_cons_zero, List.set_cons_succ]
        refine take_at (i := 1) (d := 18) (v := ?_) rfl rfl (by kernel_rfl) (by kernel_rfl) (by kernel_rfl) (fun _ _ _ _ => NormalOnly.any) rfl ?hy2 HS ?rest2
        case hy2 => intro w' hSw; (try dsimp only at hSw); go_simp; try (with_reducible rfl)
        try simp only [List.setIfInBounds_toArray, List.set_cons_zero, List.set_cons_succ]
        refine take_at (i := 2) (d := 19) (v := ?_) rfl rfl (by kernel_rfl) (by kernel_rfl) (by kernel_rfl) (fun _ _ _ _ => NormalOnly.any) rfl ?hy3 HS ?rest3
        case hy3 => intro w' hSw; (try dsimp only at hSw); go_simp; try (with_reducible rfl)
        try simp only [List.setIfInBounds_toArray, List.set_cons_zero, List.set_cons_succ]
        refine take_at (i := 3) (d := 20) (v := ?_) rfl rfl (by kernel_rfl) (by kernel_rfl) (by kernel_rfl) (fun _ _ _ _ => NormalOnly.any) rfl ?hy4 HS ?rest4
        case hy4 => intro w' hSw; (try dsimp only at hSw); go_simp; try (with_reducible rfl)
        try simp only [List.setIfInBounds_toArray, List.set_cons_zero, List.set_cons_succ]
        refine take_at (i := 4) (d := 21) (v := ?_) rfl rfl (by kernel_rfl) (by kernel_rfl) (by kernel_rfl) (fun _ _ _ _ => NormalOnly.any) rfl ?hy5 HS ?rest5
        case hy5 => intro w' hSw; (try dsimp only at hSw); go_simp; try (with_reducible rfl)
        try simp only [List.setIfInBounds_toArray, List.set_cons_zero, List.set_cons_succ]
        refine take_at (i := 5) (d := 22) (v := ?_) rfl rfl (by kernel_rfl) (by kernel_rfl) (by kernel_rfl) (fun _ _ _ _ => NormalOnly.any) rfl ?hy6 HS ?rest6
        case hy6 => intro w' hSw; (try dsimp only at hSw); go_simp; try (with_reducible rfl)
        try simp only [List.setIfInBounds_toArray, List.set_cons_zero, List.set_cons_succ]
        refine take_at (i := 6) (d := 23) (v := ?_) rfl rfl (by kernel_rfl) (by kernel_rfl) (by kernel_rfl) (fun _ _ _ _ => NormalOnly.any) rfl ?hy7 HS ?rest7
        case hy7 => intro w' hSw; (try dsimp only at hSw); go_simp; try (with_reducible rfl)
        try simp only [List.setIfInBounds_toArray, List.set_cons_zero, List.set_cons_succ]
        refine take_at (i := 7) (d := 24) (v := ?_) rfl rfl (by kernel_rfl) (by kernel_rfl) (by kernel_rfl) (fun _ _ _ _ => NormalOnly.any) rfl ?hy8 HS ?rest8
        case hy8 => intro w' hSw; (try dsimp only at hSw); go_simp; try (with_reducible rfl)
        try simp only [List.setIfInBounds_toArray, List.set_cons_zero, List.set_cons_succ]
        refine take_at (i := 8) (d := 25) (v := ?_) rfl rfl (by kernel_rfl) (by kernel_rfl) (by kernel_rfl) (fun _ _ _ _ => NormalOnly.any) rfl ?hy9 HS ?rest9
        case hy9 => intro w' hSw; (try dsimp only at hSw); go_simp; try (with_reducible rfl)
        try simp only [List.setIfInBounds_toArray, List.set_cons_zero, List.set_cons_succ]
        refine take_at (i := 9) (d := 26) (v := ?_) rfl rfl (by kernel_rfl) (by kernel_rfl) (by kernel_rfl) (fun _ _ _ _ => NormalOnly.any) rfl ?hy10 HS ?rest10
        case hy10 => intro w' hSw; (try dsimp only at hSw); go_simp; try (with_reducible rfl)
        try simp only [List.setIfInBounds_toArray, List.set_cons_zero, List.set_cons_succ]
        refine take_at (i := 10) (d := 27) (v := ?_) rfl rfl (by kernel_rfl) (by kernel_rfl) (by kernel_rfl) (fun _ _ _ _ => NormalOnly.any) rfl ?hy11 HS ?rest11
        case hy11 => intro w' hSw; (try dsimp only at hSw); go_simp; try (with_reducible rfl)
        try simp only [List.setIfInBounds_toArray, List.set_cons_zero, List.set_cons_succ]
        refine wpAnyH_ready (rs := [11]) (by kernel_rfl) (by simp) ?_
        refine AllReadyH.cons rfl (fun K hK => ?_) AllReadyH.nil
        go_simp
        refine HU.out.mono ?_
        rintro e w2 ⟨⟨rv, rfl⟩, S', hts, hst⟩
        have hap : ∀ j, StpK B Bt Be Bo go j → ¬ S' j := fun j hj c => (hst.sub j c).elim (HT2.out.ap j hj) fun d => by have := HT2.out.lt j hj; omega
        have htk : labO E (o.take (k + 1)) = joinF (labO E (o.take k)) u v := by
          rw [take_snocN hlt, HI.out, labO_snoc, HUV.out]
        have hyl : ys.length = k + 1 := by rw [HYs.out, List.length_range]
        rw [show ys.length - 1 = k by omega, ← htk] at hts
        have HT3 := Lib.hid (HT2.out.on (ys' := ys ++ [k + 1]) hst.size (fun j hj => hst.block j (HT2.out.lt j hj) (HT2.out.ap j hj)) (by rw [List.length_append, List.length_singleton, show ys.length + 1 - 1 = k + 1 by omega]; exact hts) hap ⟨by rw [List.length_append, List.length_singleton, hyl, HYs.out]; exact List.range_succ.symm, by rw [List.length_append, List.length_singleton]; omega⟩)
        have HJ3 := Lib.hid (HJs.out _ _ _ _ _ HJ2.out hst)
        have HS : w2.cell? ⟨Bt, 0, none⟩ = some (.pointer (some ⟨tb, 0, none⟩)) ∧ w2.cell? ⟨Be, 0, none⟩ = some (.slice ea E.length ec) ∧ w2.cell? (A i) = some (.int .i64 (u : Nat)) ∧ w2.cell? ⟨(A i).block, (A i).off + 1, none⟩ = some (.int .i64 (v : Nat)) := by
          have h9 := HT3.out.es
          have eu := ES.u h9 hil
          have ev := ES.v h9 hil
          have hp := HUV.out
          have g := HG.out.ends i hil
          unfold edP at hp
          have hp1 : (eAt E i).u.toNat = u := congrArg Prod.fst hp
          have hp2 : (eAt E i).v.toNat = v := congrArg Prod.snd hp
          rw [show (eAt E i).u = (u : Nat) by omega] at eu
          rw [show (eAt E i).v = (v : Nat) by omega] at ev
          exact ⟨HT3.out.bt, HT3.out.be, eu, ev⟩
        refine hK.out _ _ HS (fun _ => ?_)
        clear hK HU hts hst hap htk HT2 HJ2 ix HS
        refine wpAnyH_done (by kernel_rfl) ⟨rfl, ?_⟩ _
        obtain ⟨fn, tmps, assign, body, hy0, hR⟩ := HY.out S' ys (k + 1) w2 HJ3.out HT3.out
        have hy : (Instr.yield l #[.int .i64 ((k : Int) + 1)]).run Tryz.prog w2 = .ok (.round l fn tmps assign body) w2 := hy0
        have HY2 := Lib.hid (show ys ++ [k + 1] = List.range (k + 1 + 1) by rw [HYs.out]; exact List.range_succ.symm)
        clear hy0 hyl HYs
        gi_wp2
        refine hR.mono ?_
        rintro e w3 (⟨rfl, hJ4, hk4⟩ | ⟨rfl, hJx4⟩)
        · have HT4 := Lib.hid (HT3.out.keep hk4)
          have HJ4 := Lib.hid hJ4
          clear hJ4 hk4 hR hy HT3 HJ3
          gi_wp2
          go_roundw
          case rel => exact ⟨k + 1, S', ys ++ [k + 1], by omega, by go_num, HY2, HJ4, HT4⟩
          case measure => simp only [intOf]; omega
        · gi_wp2
          refine bodyPost_ret (results_none rfl _ _ _) rfl ?_
          exact ⟨⟨_, rfl⟩, .inr ⟨_, hJx4⟩⟩
      · have hko : k = o.length := by omega
        subst hko
        gi_wp2
        go_end0
        exact ⟨⟨_, rfl⟩, .inl ⟨ys, S, HYs.out, HTr.out, HJ.out⟩⟩
  · gi_wp2
    refine bodyPost_ret (results_none rfl _ _ _) rfl ?_
    exact ⟨⟨_, rfl⟩, .inr ⟨_, hJx1⟩⟩
end
end Go.Proofs.YtpbgophogneecaaGreat
