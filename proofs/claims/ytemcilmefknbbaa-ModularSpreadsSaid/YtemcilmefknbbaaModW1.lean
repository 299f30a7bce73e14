/- The walks of Degree, Edges of package graph, of valid and Inside of package modular. Conditions: the graph was made by New, or it is nil or zero; labels are given as cells. -/
import Derived.Test.YtemcilmefknbbaaModM
import Derived.Deep.QuietTactic
namespace Go.Proofs.Ytemcilmefknbbaa
open Go.RowKit Go.Shelf Go.Maps

theorem stepB0 {w w1 w2 : World} (h : Below w.heap.size w w1) (h2 : Below w1.heap.size w1 w2) : Below w.heap.size w w2 := h.trans (h2.mono h.size)
theorem GV.ptr {w : World} {B : Nat} {v : Value} {o : Option (Nat × List Ed)} (h : GV w B v o) : ∃ p, v = .pointer p := by
  cases o with
  | some x => obtain ⟨b, rfl, _⟩ := h; exact ⟨_, rfl⟩
  | none => rcases h with rfl | ⟨b, rfl, _⟩ <;> exact ⟨_, rfl⟩
set_option maxRecDepth 100000 in
set_option maxHeartbeats 1000000 in
theorem strength_out (B : Nat) (v : Value) (o : Option (Nat × List Ed)) (u : Int) (w : World) (h : GV w B v o) (hu : gHas o u = false) :
    Calls Try.prog 58 #[v, .int .i64 u] w fun e w' => e = .returned (.tuple #[.int .i64 0, .int .i64 (if o.isSome then 3 else 1)]) ∧ w = w' := by
  have hv := valid_any B v o w h
  have hh := has_is hu h
  obtain ⟨p, rfl⟩ : ∃ p, v = .pointer p := by
    cases o with
    | some x => obtain ⟨b, rfl, _⟩ := h; exact ⟨_, rfl⟩
    | none => rcases h with rfl | ⟨b, rfl, _⟩ <;> exact ⟨_, rfl⟩
  clear h hu
  cases o with
  | some x =>
    go_enter Try.func58, Try.ntmps58
    go_wp2_with fail
    refine hv.mono ?_
    rintro e w' ⟨rfl, rfl⟩
    simp only [Option.isSome_some]
    go_wp2_with fail
    refine hh.mono ?_
    rintro e w' ⟨rfl, rfl⟩
    go_wp2_with fail
    go_ret2
    exact ⟨rfl, rfl⟩
  | none =>
    go_enter Try.func58, Try.ntmps58
    go_wp2_with fail
    refine hv.mono ?_
    rintro e w' ⟨rfl, rfl⟩
    simp only [Option.isSome_none]
    go_wp2_with fail
    go_ret2
    exact ⟨rfl, rfl⟩


set_option maxHeartbeats 400000 in
theorem degree_any (B : Nat) (v : Value) (o : Option (Nat × List Ed)) (u : Int) (w : World) (h : GV w B v o) :
    Calls Try.prog 29 #[v, .int .i64 u] w fun e w' => e = .returned (.int .i64 (gAdj o u).length) ∧ ∃ q, w' = w.drewN q := by
  have H := Lib.hid (at_any B v o u w h)
  have hl := gAdj_len h u
  obtain ⟨p, rfl⟩ := h.ptr
  clear h
  go_enter Try.func29, Try.ntmps29
  go_wp2_with fail
  refine H.out.mono ?_
  rintro e w' ⟨a, cap, A, rfl, -, q, rfl⟩
  go_wp2_with fail
  go_ret
  exact ⟨rfl, q, rfl⟩

/-- a copy of the edges -/
def GEdges (o : Option (Nat × List Ed)) (w : World) (e : Ending) (w' : World) : Prop :=
  ∃ a cap A, e = .returned (.slice a (gE o).length cap) ∧ ES w' w'.heap.size (.slice a (gE o).length cap) (gE o) A ∧ Below w.heap.size w w'
set_option maxHeartbeats 400000 in
theorem edges_any (B : Nat) (v : Value) (o : Option (Nat × List Ed)) (w : World) (h : GV w B v o) (hB : B ≤ w.heap.size) :
    Calls Try.prog 38 #[v] w (GEdges o w) := by
  cases o with
  | none =>
    have hv := Lib.hid (valid_is (x := false) rfl h)
    obtain ⟨p, rfl⟩ := h.ptr
    clear h
    go_enter Try.func38, Try.ntmps38
    go_wp2_with fail
    refine hv.out.mono ?_
    rintro e w' ⟨rfl, rfl⟩
    go_wp2_with fail
    go_ret
    exact ⟨none, 0, fun _ => ⟨0, 0, none⟩, rfl, Rd.nil _, Below.refl _ _⟩
  | some x =>
    have hv := Lib.hid (valid_is (x := true) rfl h)
    obtain ⟨b, rfl, h2⟩ := h
    obtain ⟨sb, lb, a, cap, f, A, -, -, h3, -, -, -, hS⟩ := h2.mem
    have c1 : w.cell? ⟨b, 1, none⟩ = some (.slice a x.2.length cap) := h3.cell (by omega)
    have hml := h2.ok.m_le
    have HC := Lib.hid (cloneE B a cap x.2.length A (edC x.2) w hS hB (fun i _ j _ => edC_one x.2 i j) (by omega))
    clear h2 h3 hS
    go_enter Try.func38, Try.ntmps38
    go_wp2_with fail
    refine hv.out.mono ?_
    rintro e w' ⟨rfl, rfl⟩
    go_wp2_with fail
    refine HC.out.mono ?_
    rintro e w2 ⟨a2, cap2, A2, rfl, S2, b2, -⟩
    go_wp2_with fail
    go_ret
    exact ⟨a2, cap2, A2, rfl, S2, b2⟩

/-- why labels do not fit a graph -/
def mErr (o : Option (Nat × List Ed)) (k : Nat) : Int := if o.isSome then (if k = gN o then 0 else 2) else 1
set_option maxHeartbeats 400000 in
theorem mvalid_any (B : Nat) (v : Value) (o : Option (Nat × List Ed)) (a : Option Addr) (k cap : Nat) (w : World) (h : GV w B v o) :
    Calls Try.prog 37 #[v, .slice a k cap] w fun e w' => e = .returned (.int .i64 (mErr o k)) ∧ w = w' := by
  have HS := Lib.hid (strength_out B v o (-1) w h (gHas_no (by omega)))
  have HN := Lib.hid (n_any B v o w h)
  obtain ⟨p, rfl⟩ := h.ptr
  clear h
  cases o with
  | none =>
    simp only [Option.isSome_none, Bool.false_eq_true, if_false] at HS
    go_enter Try.func37, Try.ntmps37
    go_wp2_with fail
    refine HS.out.mono ?_
    rintro e w' ⟨rfl, rfl⟩
    go_wp2_with fail
    go_ret
    exact ⟨rfl, rfl⟩
  | some x =>
    simp only [Option.isSome_some, if_true] at HS
    by_cases hq : k = gN (some x)
    · have hE := Lib.hid (show mErr (some x) k = 0 by rw [mErr, Option.isSome_some, if_pos rfl, if_pos hq])
      have hb : ((k : Int) != (gN (some x) : Int)) = false := by simp [hq]
      clear hq
      go_enter Try.func37, Try.ntmps37
      go_wp2_with fail
      refine HS.out.mono ?_
      rintro e w' ⟨rfl, rfl⟩
      go_wp2_with fail
      refine HN.out.mono ?_
      rintro e w' ⟨rfl, rfl⟩
      go_wp2_with fail
      go_ret
      exact ⟨by rw [hE.out]; rfl, rfl⟩
    · have hE := Lib.hid (show mErr (some x) k = 2 by rw [mErr, Option.isSome_some, if_pos rfl, if_neg hq])
      have hb : ((k : Int) != (gN (some x) : Int)) = true := by simp; omega
      clear hq
      go_enter Try.func37, Try.ntmps37
      go_wp2_with fail
      refine HS.out.mono ?_
      rintro e w' ⟨rfl, rfl⟩
      go_wp2_with fail
      refine HN.out.mono ?_
      rintro e w' ⟨rfl, rfl⟩
      go_wp2_with fail
      go_ret
      exact ⟨by rw [hE.out]; rfl, rfl⟩
theorem mvalid_is {B : Nat} {v : Value} {o : Option (Nat × List Ed)} {a : Option Addr} {k cap : Nat} {w : World} {x : Int} (hx : mErr o k = x) (h : GV w B v o) :
    Calls Try.prog 37 #[v, .slice a k cap] w fun e w' => e = .returned (.int .i64 x) ∧ w = w' := by
  subst hx; exact mvalid_any B v o a k cap w h
theorem mErr_zero {o : Option (Nat × List Ed)} {k : Nat} (h : mErr o k = 0) : ∃ x, o = some x ∧ k = x.1 := by
  cases o with
  | none => cases h
  | some x =>
    refine ⟨x, rfl, ?_⟩
    unfold mErr at h
    rw [Option.isSome_some, if_pos rfl] at h
    split at h
    · assumption
    · cases h
theorem mErr_cases (o : Option (Nat × List Ed)) (k : Nat) : mErr o k = 0 ∨ mErr o k = 1 ∨ mErr o k = 2 := by
  unfold mErr
  split
  · split <;> simp
  · simp
theorem inTo_succ (E : List Ed) (L : List Int) (k : Nat) : inTo E L (k + 1) = inTo E L k + (inB E L k).toNat := filt_succ _ _
theorem inTo_le (E : List Ed) (L : List Int) (k : Nat) : inTo E L k ≤ k := Nat.le_trans (List.length_filter_le _ _) (by simp)
/-- what Inside answers -/
def insN (o : Option (Nat × List Ed)) (L : List Int) : Int := if mErr o L.length = 0 then (inN (gE o) L : Int) else 0

set_option maxRecDepth 100000 in
set_option maxHeartbeats 1000000 in
theorem inside_any (B : Nat) (v : Value) (o : Option (Nat × List Ed)) (la : Option Addr) (lc : Nat) (LA : Nat → Addr) (L : List Int) (w : World) (h : GV w B v o) (hL : Sl 23 .i64 w B (.slice la L.length lc) L LA) (hB : B ≤ w.heap.size) :
    Calls Try.prog 18 #[v, .slice la L.length lc] w fun e w' => e = .returned (.tuple #[.int .i64 (insN o L), .int .i64 (mErr o L.length)]) ∧ Below w.heap.size w w' := by
  rcases mErr_cases o L.length with hz | hz
  · have hg := h.good
    have HE := Lib.hid (fun W (hW : Below w.heap.size w W) => edges_any B v o W (h.below (hW.mono hB)) (Nat.le_trans hB hW.size))
    have HV := Lib.hid (mvalid_is (a := la) (cap := lc) hz h)
    obtain ⟨p, rfl⟩ := h.ptr
    obtain ⟨⟨n, E⟩, rfl, hn⟩ := mErr_zero hz
    have HZ := Lib.hid hz
    have HI := Lib.hid (show insN (some (n, E)) L = (inN E L : Int) by rw [insN, if_pos hz]; rfl)
    have G : GOk n E := hg
    have hml := G.m_le
    have HL := Lib.hid hL
    have hn1 : L.length ≤ n ∧ n ≤ L.length := ⟨Nat.le_of_eq hn, Nat.le_of_eq hn.symm⟩
    clear h hL hz hg hn
    go_enter Try.func18, Try.ntmps18
    go_wp2_with fail
    refine HV.out.mono ?_
    rintro e w' ⟨rfl, rfl⟩
    go_wp2_with fail
    refine (HE.out _ (Below.refl _ _)).mono ?_
    rintro e w2 ⟨a2, cap2, A2, rfl, hS, hb2⟩
    have HS := Lib.hid hS
    have HL2 := Lib.hid ((HL.out.below (hb2.mono hB)).mono (Nat.le_trans hB hb2.size))
    simp only [gE] at HS ⊢
    clear hS HL
    go_wp2_with fail
    go_loopw [7, 19] (fun s i wr => ∃ k : Nat, k ≤ E.length ∧ i = .int .i64 k ∧ s = .int .i64 (inTo E L k : Nat) ∧ Below w2.heap.size w2 wr) (fun _ i _ => E.length - (intOf i).toNat)
    case atStart => exact ⟨0, Nat.zero_le _, rfl, rfl, Below.refl _ _⟩
    case round =>
      obtain ⟨k, hk2, rfl, rfl, bel⟩ := hrel
      have hle := inTo_le E L k
      by_cases hlt : k < E.length
      · obtain ⟨x, y, hx, hy, hxn, hyn, -⟩ := G.nats hlt
        have h1 := HS.out.below bel
        have ix := h1.ix k hlt
        have e0 := ES.u h1 hlt
        have e1 := ES.v h1 hlt
        have e2 := ES.w h1 hlt
        rw [hx] at e0; rw [hy] at e1
        have hb3 : Below wr.heap.size wr (wr.alloc (.cells #[.int .i64 x, .int .i64 y, .int .i64 (eAt E k).w] 56)) := (Below.refl _ _).alloc (Nat.le_refl _) _
        have bel3 := bel.trans (hb3.mono bel.size)
        have hL3 := HL2.out.below bel3
        have d0 : (wr.alloc (.cells #[.int .i64 x, .int .i64 y, .int .i64 (eAt E k).w] 56)).cell? ⟨wr.heap.size, 0, none⟩ = some (.int .i64 x) := by go_simp
        have d1 : (wr.alloc (.cells #[.int .i64 x, .int .i64 y, .int .i64 (eAt E k).w] 56)).cell? ⟨wr.heap.size, 1, none⟩ = some (.int .i64 y) := by go_simp
        have hsc := inTo_succ E L k
        unfold inB at hsc
        rw [hx, hy, Int.toNat_natCast, Int.toNat_natCast] at hsc
        go_upto_region 8 with fail
        clear ix e0 e1 e2 h1 hb3
        generalize wr.alloc (.cells #[.int .i64 x, .int .i64 y, .int .i64 (eAt E k).w] 56) = W3 at *
        have hxl : x < L.length := by omega
        have hyl : y < L.length := by omega
        have i0 := hL3.ix x hxl
        have i1 := hL3.ix y hyl
        have l0 := Sl.at hL3 hxl
        have l1 := Sl.at hL3 hyl
        clear hL3 hx hy
        cases hq : (nth L x == nth L y) with
        | true =>
          rw [hq] at hsc
          have HC := Lib.hid (show inTo E L (k + 1) = inTo E L k + 1 from hsc)
          clear hsc
          go_quiet (fail)
          go_wp2_with fail
          go_roundw
          case rel => exact ⟨k + 1, by omega, by go_num, by rw [HC.out]; go_num, below_drewN bel3 _⟩
          case measure => simp only [intOf]; omega
        | false =>
          rw [hq] at hsc
          have HC := Lib.hid (show inTo E L (k + 1) = inTo E L k from hsc)
          clear hsc
          go_quiet (fail)
          go_wp2_with fail
          go_roundw
          case rel => exact ⟨k + 1, by omega, by go_num, by rw [HC.out], below_drewN bel3 _⟩
          case measure => simp only [intOf]; omega
      · obtain rfl : k = E.length := by omega
        go_wp2_with fail
        go_ret2
        exact ⟨by rw [HI.out, HZ.out]; rfl, stepB0 hb2 bel⟩
  · have hzz : mErr o L.length ≠ 0 := by omega
    have HI := Lib.hid (show insN o L = 0 by rw [insN, if_neg hzz])
    have HV := Lib.hid (mvalid_any B v o la L.length lc w h)
    obtain ⟨p, rfl⟩ := h.ptr
    rw [HI.out]
    have hb : (mErr o L.length != 0) = true := by simpa using hzz
    generalize mErr o L.length = z at *
    clear h hL hz hzz
    go_enter Try.func18, Try.ntmps18
    go_wp2_with fail
    refine HV.out.mono ?_
    rintro e w' ⟨rfl, rfl⟩
    go_wp2_with fail
    go_ret2
    exact ⟨rfl, Below.refl _ _⟩
end Go.Proofs.Ytemcilmefknbbaa
