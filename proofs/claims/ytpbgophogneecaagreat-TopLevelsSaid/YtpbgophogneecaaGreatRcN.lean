/- The iterator down of package recon: it hands on the nodes with their parents, the last one first; and Least. Conditions: the tree was made by Build. -/
import Derived.Test.YtpbgophogneecaaGreatRcL
import Derived.Test.YtpbgophogneecaaGreatSeq
import Derived.RangeFuncBound
import Derived.RangeFuncCalls
import Derived.RangeFuncLeaves
import Derived.RangeFuncBox
import Derived.Shelf.Abstract
import Derived.Shelf.RegionOpen
import Derived.OwnWalkIn
import Derived.TacticsInMore
import Derived.LoopNIn
import Derived.LoopIn
import Derived.BigRegionIn
namespace Go.Proofs.YtpbgophogneecaaGreat
open Go.RowKit Go.Shelf

set_option maxRecDepth 100000 in
set_option maxHeartbeats 1000000 in
theorem least_any (B n z : Nat) (b : Blk) (E : List Ed) (o : List Nat) (w : World) (h : TrAt w B n z b E (frs E o)) (ho : OrdOf E o) (hB : B ≤ w.heap.size) :
    Calls Tryz.prog 17 #[.agg (trV n z b)] w fun e w' => ∃ g, e = .returned (.slice (some ⟨g, 0, none⟩) z z) ∧ Row w' g z (natC (lst E (frs E o) n)) ∧ w.heap.size ≤ g ∧ Below w.heap.size w w' := by
  have hA : Below w.heap.size w (w.alloc (.cells (trV n z b) 57)) := (Below.refl _ _).alloc (Nat.le_refl _) _
  have hT : TrBox (w.alloc (.cells (trV n z b) 57)) w.heap.size n z b := tr_row w n z b _
  have h1 := (h.mono hB).below hA
  have HL := Lib.hid (leasts_any w.heap.size n z b E o _ h1 ho hA.size)
  have HL2 := HL
  unfold trV at HL2
  obtain ⟨tv, htv⟩ : ∃ x, trV n z b = x := ⟨_, rfl⟩
  have HA := Lib.hid hA
  rw [htv] at HA hT HL ⊢
  have htv2 := htv
  unfold trV at htv2
  rw [htv2] at HL2
  clear h h1 hA HL htv
  have c0 := hT.c0
  have c1 := hT.c1
  have c2 := hT.c2
  have c3 := hT.c3
  have c4 := hT.c4
  have c5 := hT.c5
  have Htv := Lib.hid htv2
  clear hT htv2
  go_enter Tryz.func17, Tryz.ntmps17
  go_upto_region 1 with (fail)
  generalize w.alloc (.cells tv 57) = wa at *
  go_wp2_with fail
  rw [Htv.out]
  refine HL2.out.mono ?_
  rintro e w1 ⟨g, rfl, hr, hg, hb⟩
  have HR := Lib.hid (And.intro hr (And.intro (Nat.le_trans HA.out.size hg) (HA.out.trans (hb.mono HA.out.size))))
  clear hr hg hb
  go_wp2_with fail
  go_ret
  exact ⟨g, rfl, HR.out⟩

/-- what a round leaves as it was -/
def KeepT (n₀ bt : Nat) (W W' : World) : Prop := Below n₀ W W' ∧ W'.heap[bt]? = W.heap[bt]?
theorem keepT_t {n₀ bt : Nat} {A B C : World} (h : KeepT n₀ bt A B) (k : KeepT n₀ bt B C) : KeepT n₀ bt A C := ⟨h.1.trans k.1, k.2.trans h.2⟩
theorem keepT_b {n₀ bt : Nat} {w : World} (h0 : n₀ ≤ w.heap.size) (hg : bt < w.heap.size) (W : World) (l : Nat) (o o' : Obj) (hl : w.heap.size ≤ l) (ho : W.heap[l]? = some o) (hc : o.isCells = false) (hw : o.isWalk = false) : KeepT n₀ bt W (W.putObj l o') :=
  ⟨belowK_b h0 W l o o' hl ho hc hw, World.putObj_heap_other (by omega)⟩
/-- what down hands on -/
def dnV (E : List Ed) (f : List Nat) (n x : Nat) : Array Value := #[.int .i64 (x : Nat), .int .i64 (stP E f n f.length x)]
set_option maxRecDepth 20000 in
set_option maxHeartbeats 1000000 in
theorem down_stops (m : Nat) (hm : 1 ≤ m) (bt n₀ n z : Nat) (b : Blk) (E : List Ed) (f : List Nat) (w : World) (hT : TrBox w bt n z b) (h : TrAt w n₀ n z b E f) (hn0 : n₀ ≤ w.heap.size) :
    SeqR Fence.wide m Tryz.prog 114 #[.pointer (some ⟨bt, 0, none⟩)] (dnV E f n) (KeepT n₀ bt) (fun pre x => x + pre.length + 1 = z) (fun xs => xs.length = z) w := fun l J Jx W hW hJ hJx hY h0 => by
  have hz8 := h.z_le
  have HT := Lib.hid (show TrBox W bt n z b from Row.below hT hW (Row.lt hT))
  have HTr := Lib.hid (show TrAt W n₀ n z b E f from h.below (hW.mono hn0))
  have hbt := Row.lt hT
  have hsz := hW.size
  clear hT h hW hJx
  have c3 := HT.out.c3
  have hdz : IntKind.i64.wrap ((z : Int) - 1) = (z : Int) - 1 := IntWalk.i64_in _ (by omega)
  refine callsIn_of_wp Tryz.func114 rfl trivial ?_ rfl
  simp only [Tryz.ntmps114, List.size_toArray, List.length_cons, List.length_nil, Nat.reduceAdd, Nat.reduceSub, Array.replicate_succ, Array.replicate_zero, List.push_toArray, List.append_toArray, List.nil_append, List.cons_append]
  gi_wp2
  clear c3 hdz
  have HJ0 := Lib.hid h0
  clear h0
  gi_loopw [3] (fun p wr => ∃ (c : Nat) (pre : List Nat) (y : Int), Hid (c ≤ z ∧ pre.length + c = z ∧ y = (c : Int) - 1) ∧ p = .int .i64 y ∧ Hid (J pre wr) ∧ Hid (KeepT n₀ bt W wr)) (fun p _ => (intOf p + 1).toNat)
  case atStart => exact ⟨z, [], (z : Int) - 1, Lib.hid ⟨Nat.le_refl _, by simp, rfl⟩, rfl, HJ0, Lib.hid ⟨Below.refl _ _, rfl⟩⟩
  case round =>
    clear HJ0
    obtain ⟨c, pre, y, HC, rfl, HJ, HK⟩ := hrel
    obtain ⟨hc1, hc2, hc3⟩ := HC.out
    cases c with
    | zero =>
      obtain rfl : y = -1 := by omega
      clear hc3
      gi_wp2
      go_end0
      exact ⟨⟨_, rfl⟩, .inl ⟨pre, by omega, HJ.out⟩⟩
    | succ x =>
      obtain rfl : y = (x : Int) := by omega
      have hxz : x < z := by omega
      have hxi : (0 : Int) ≤ x ∧ (x : Int) < z := by omega
      obtain ⟨fn, tmps, assign, body, hy, hR⟩ := hY pre x wr HJ.out (by omega)
      have hTr := HTr.out.below HK.out.1
      have hTb : TrBox wr bt n z b := Row.of_block HT.out HK.out.2
      have c3 := hTb.c3
      have r3 : wr.cell? ⟨b.p, x, none⟩ = some (.int .i64 (stP E f n f.length x)) := hTr.rp.cell hxz
      unfold dnV at hy
      obtain ⟨pv, hpv⟩ : ∃ p, stP E f n f.length x = p := ⟨_, rfl⟩
      rw [hpv] at hy r3
      have hdx : IntKind.i64.wrap ((x : Int) - 1) = (x : Int) - 1 := IntWalk.i64_in _ (by omega)
      have HCx := Lib.hid (And.intro hc1 hc2)
      clear hTr hTb hpv hc1 hc2 hc3 HC
      gi_wp2
      refine hR.mono ?_
      rintro e W3 (⟨rfl, hJ3, hk3⟩ | ⟨rfl, hJx3⟩)
      · have HJ3 := Lib.hid hJ3
        have HK3 := Lib.hid (keepT_t HK.out hk3)
        clear hJ3 hk3
        gi_wp2
        go_roundw
        case rel => exact ⟨x, pre ++ [x], (x : Int) - 1, Lib.hid ⟨by have := HCx.out; omega, by have := HCx.out; simp; omega, rfl⟩, rfl, HJ3, HK3⟩
        case measure => simp only [intOf]; omega
      · gi_wp2
        refine bodyPost_ret (results_none rfl _ _ _) rfl ?_
        exact ⟨⟨_, rfl⟩, .inr ⟨_, hJx3⟩⟩
theorem down_call (n z : Nat) (b : Blk) (w : World) :
    Calls Tryz.prog 101 #[.agg (trV n z b)] w fun e w' => e = .returned (.func (.func 114) #[] #[.pointer (some ⟨w.heap.size, 0, none⟩)]) ∧ w.alloc (.cells (trV n z b) 57) = w' := by
  go_enter Tryz.func101, Tryz.ntmps101
  go_wp2
  go_ret
  exact ⟨rfl, rfl⟩
end Go.Proofs.YtpbgophogneecaaGreat
