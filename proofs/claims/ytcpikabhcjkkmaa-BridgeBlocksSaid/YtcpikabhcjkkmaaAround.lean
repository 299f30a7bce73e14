/- The iterator Around of package graph: it hands on the edges of a vertex, with their other ends, in increasing order. Conditions: the graph was made by New, or it is nil or zero. -/
import Derived.Test.YtcpikabhcjkkmaaAt
import Derived.Test.YtcpikabhcjkkmaaMe
import Derived.RangeFuncBound
import Derived.RangeFuncCalls
import Derived.RangeFuncLeaves
import Derived.Shelf.Abstract
import Derived.Shelf.RegionOpen
import Derived.OwnWalkIn
import Derived.TacticsInMore
import Derived.LoopNIn
import Derived.LoopIn
namespace Go.Proofs.Ytcpikabhcjkkmaa
open Go.RowKit Go.Shelf

/-- the other end of an edge of v -/
def oth (E : List Ed) (v : Int) (i : Nat) : Int := if (eAt E i).v = v then (eAt E i).u else (eAt E i).v
/-- what Around hands on -/
def around (o : Option (Nat × List Ed)) (v : Int) : List (Nat × Int) := (gAdj o v).map fun i => (i, oth (gE o) v i)
/-- what a round leaves as it was -/
def KeepB (n₀ Bg Bv : Nat) (W W' : World) : Prop := Below n₀ W W' ∧ W'.heap[Bg]? = W.heap[Bg]? ∧ W'.heap[Bv]? = W.heap[Bv]?
theorem keepB_t {n₀ Bg Bv : Nat} {A B C : World} (h : KeepB n₀ Bg Bv A B) (k : KeepB n₀ Bg Bv B C) : KeepB n₀ Bg Bv A C := ⟨h.1.trans k.1, k.2.1.trans h.2.1, k.2.2.trans h.2.2⟩
theorem keepB_b {n₀ Bg Bv : Nat} {w : World} (h0 : n₀ ≤ w.heap.size) (hg : Bg < w.heap.size) (hv : Bv < w.heap.size) (W : World) (l : Nat) (o o' : Obj) (hl : w.heap.size ≤ l) (ho : W.heap[l]? = some o) (hc : o.isCells = false) (hw : o.isWalk = false) : KeepB n₀ Bg Bv W (W.putObj l o') :=
  ⟨belowK_b h0 W l o o' hl ho hc hw, World.putObj_heap_other (by omega), World.putObj_heap_other (by omega)⟩
theorem KeepB.alloc {n₀ Bg Bv : Nat} {W : World} (h0 : n₀ ≤ W.heap.size) (hg : Bg < W.heap.size) (hv : Bv < W.heap.size) (o : Obj) : KeepB n₀ Bg Bv W (W.alloc o) :=
  ⟨(Below.refl _ _).alloc h0 _, Below.heap_alloc _ _ _ hg, Below.heap_alloc _ _ _ hv⟩

set_option maxHeartbeats 400000 in
theorem around_call (g : Option Addr) (v : Int) (w : World) :
    Calls Try.prog 57 #[.pointer g, .int .i64 v] w fun e w' => e = .returned (.func (.func 75) #[] #[.pointer (some ⟨w.heap.size, 0, none⟩), .pointer (some ⟨w.heap.size + 1, 0, none⟩)]) ∧ (w.alloc (.cells #[.pointer g] 23)).alloc (.cells #[.int .i64 v] 3) = w' := by
  go_enter Try.func57, Try.ntmps57
  go_wp2
  go_ret
  exact ⟨rfl, rfl⟩

theorem gAdj_at {o : Option (Nat × List Ed)} {v : Int} {k : Nat} (h : k < (gAdj o v).length) : ∃ (y : Nat × List Ed) (x : Nat), o = some y ∧ v = x ∧ x < y.1 ∧ (gAdj o v)[k] < y.2.length ∧ inc y.2 x (gAdj o v)[k] = true := by
  by_cases hh : gHas o v = true
  · obtain ⟨x, rfl, hx⟩ := gHas_iff.1 hh
    cases o with
    | none => exact absurd hx (Nat.not_lt_zero _)
    | some y =>
      have hm : (gAdj (some y) (x : Int))[k] ∈ gAdj (some y) (x : Int) := List.getElem_mem h
      have e : gAdj (some y) (x : Int) = adj y.2 x := by rw [gAdj, if_pos hh]; rfl
      obtain ⟨h1, h2⟩ := mem_adj.1 (show (gAdj (some y) (x : Int))[k] ∈ adj y.2 x by rw [← e]; exact hm)
      exact ⟨y, x, rfl, rfl, hx, h1, h2⟩
  · have hh : gHas o v = false := by simpa using hh
    have e : gAdj o v = [] := by rw [gAdj, hh]; rfl
    rw [e] at h; exact absurd h (Nat.not_lt_zero _)
theorem gAdj_len {w : World} {B : Nat} {v : Value} {o : Option (Nat × List Ed)} (h : GV w B v o) (u : Int) : (gAdj o u).length ≤ 16384 := by
  unfold gAdj
  split
  · cases o with
    | none => simp [gE, adj, adjTo]
    | some y =>
      obtain ⟨b, _, h2⟩ := h
      have := deg_le y.2 u.toNat
      have := h2.ok.m_le
      show deg y.2 u.toNat ≤ 16384
      omega
  · simp
theorem take_pre {α : Type} {l : List α} {k : Nat} (h : k < l.length) : l.take k ++ [l[k]] <+: l := by
  rw [← List.take_succ_eq_append_getElem h]; exact List.take_prefix _ _

set_option maxRecDepth 20000 in
set_option maxHeartbeats 1000000 in
theorem around_stops (n : Nat) (hn : 1 ≤ n) (Bg Bv n₀ : Nat) (g : Option Addr) (v : Int) (o : Option (Nat × List Ed)) (w : World) (hg : GV w n₀ (.pointer g) o) (hBg : w.heap[Bg]? = some (.cells #[.pointer g] 23 (0, 0))) (hBv : w.heap[Bv]? = some (.cells #[.int .i64 v] 3 (0, 0))) (hn0 : n₀ ≤ w.heap.size) :
    SeqR Fence.wide n Try.prog 75 #[.pointer (some ⟨Bg, 0, none⟩), .pointer (some ⟨Bv, 0, none⟩)] (fun p : Nat × Int => #[.int .i64 (p.1 : Nat), .int .i64 p.2]) (KeepB n₀ Bg Bv) (fun pre x => pre ++ [x] <+: around o v) (fun xs => xs = around o v) w := fun l J Jx W hW hJ hJx hY h0 => by
  have hgl := (Array.getElem?_eq_some_iff.1 hBg).1
  have hvl := (Array.getElem?_eq_some_iff.1 hBv).1
  have hGW : GV W n₀ (.pointer g) o := hg.below (hW.mono hn0)
  have hbW : W.heap[Bg]? = some (.cells #[.pointer g] 23 (0, 0)) := (hW.block Bg hgl).trans hBg
  have hvW : W.heap[Bv]? = some (.cells #[.int .i64 v] 3 (0, 0)) := (hW.block Bv hvl).trans hBv
  have hsz := hW.size
  have hlen := gAdj_len hGW v
  clear hW hBg hBv hg hJx
  have cg : W.cell? ⟨Bg, 0, none⟩ = some (.pointer g) := by simp [World.cell?, hbW]
  have cv : W.cell? ⟨Bv, 0, none⟩ = some (.int .i64 v) := by simp [World.cell?, hvW]
  have HbW := Lib.hid hbW; have HvW := Lib.hid hvW
  clear hbW hvW
  refine callsIn_of_wp Try.func75 rfl trivial ?_ rfl
  simp only [Try.ntmps75, List.size_toArray, List.length_cons, List.length_nil, Nat.reduceAdd, Nat.reduceSub, Array.replicate_succ, Array.replicate_zero, List.push_toArray, List.append_toArray, List.nil_append, List.cons_append]
  gi_wp2_with (refine ⟨trivial, ?_⟩; gi_at_call 66; refine (callsIn_wide.2 (at_any n₀ (.pointer g) o v _ hGW)).mono ?_; rintro e w' ⟨a, cap, A, rfl, hS, q, rfl⟩)
  have hS0 : Rd 29 1 W n₀ (.slice a (gAdj o v).length cap) (gAdj o v).length (nums .i64 (ints (gAdj o v))) A := ⟨hS.ix, hS.lt, hS.cell⟩
  have hK0 : KeepB n₀ Bg Bv W (W.drewN q) := ⟨below_drewN (Below.refl _ _) q, rfl, rfl⟩
  have hJ0 : J [] (W.drewN q) := hJ [] W _ none h0 ⟨rfl, rfl, rfl, Nat.le_refl _, fun _ _ _ => rfl⟩ (fun r e => by cases e)
  clear hS h0 cg cv
  generalize W.drewN q = W1 at *
  have hal : (around o v).length = (gAdj o v).length := by simp [around]
  have Hal := Lib.hid hal
  clear hal
  gi_loopw [12] (fun p wr => ∃ k : Nat, k ≤ (gAdj o v).length ∧ p = .int .i64 k ∧ J ((around o v).take k) wr ∧ KeepB n₀ Bg Bv W wr) (fun p _ => (gAdj o v).length - (intOf p).toNat)
  case atStart => exact ⟨0, Nat.zero_le _, rfl, hJ0, hK0⟩
  case round =>
    obtain ⟨k, hk, rfl, hJr, hKr⟩ := hrel
    by_cases hlt : k < (gAdj o v).length
    · have e1 : (around o v)[k]'(by rw [Hal.out]; exact hlt) = ((gAdj o v)[k], oth (gE o) v (gAdj o v)[k]) := by simp [around]
      have hx : (around o v).take k ++ [((gAdj o v)[k], oth (gE o) v (gAdj o v)[k])] <+: around o v := by
        have := take_pre (l := around o v) (k := k) (by rw [Hal.out]; exact hlt)
        rwa [e1] at this
      have hx2 : (around o v).take (k + 1) = (around o v).take k ++ [((gAdj o v)[k], oth (gE o) v (gAdj o v)[k])] := by
        rw [List.take_succ_eq_append_getElem (by rw [Hal.out]; exact hlt), e1]
      have l1 := hS0.below hKr.1
      have l2 := l1.ix k hlt
      have l3 : wr.cell? (A k) = some (.int .i64 ((gAdj o v)[k] : Nat)) := by
        have := l1.cell k hlt 0 (by omega)
        rw [add_zero, nums, ints_at hlt] at this
        rw [this]; simp [List.getD, hlt]
      obtain ⟨y, x, rfl, rfl, hxn, hi1, hi2⟩ := gAdj_at hlt
      have hGr := hGW.below hKr.1
      obtain ⟨b, hgp, G⟩ := hGr
      cases hgp
      obtain ⟨sb, lb, a2, cap2, f, A2, -, -, h3, -, -, -, h7⟩ := G.mem
      generalize hi : (gAdj (some y) (x : Int))[k] = i at *
      have Hi := Lib.hid hi
      have Hx := Lib.hid hx2
      have Hi2 := Lib.hid hi2
      have c1 : wr.cell? ⟨b, 1, none⟩ = some (.slice a2 y.2.length cap2) := h3.cell (by omega)
      have cg : wr.cell? ⟨Bg, 0, none⟩ = some (.pointer (some ⟨b, 0, none⟩)) := by simp [World.cell?, hKr.2.1.trans HbW.out]
      have cv : wr.cell? ⟨Bv, 0, none⟩ = some (.int .i64 (x : Int)) := by simp [World.cell?, hKr.2.2.trans HvW.out]
      have ix := h7.ix i hi1
      have e0 := ES.u h7 hi1
      have e2 := ES.v h7 hi1
      have e3 := ES.w h7 hi1
      have hki : (0 : Int) ≤ i ∧ (i : Int) < y.2.length := by omega
      have hszr := hKr.1.size
      have q1 : Bv < wr.heap.size := by omega
      have q2 : Bg < wr.heap.size := by omega
      have hJa : J ((around (some y) (x : Int)).take k) (wr.alloc (.cells #[.int .i64 (eAt y.2 i).u, .int .i64 (eAt y.2 i).v, .int .i64 (eAt y.2 i).w] 48)) :=
        hJ _ wr _ none hJr (World.grownBy_alloc _ _ _) (fun r e => by cases e)
      have cvA : (wr.alloc (.cells #[.int .i64 (eAt y.2 i).u, .int .i64 (eAt y.2 i).v, .int .i64 (eAt y.2 i).w] 48)).cell? ⟨Bv, 0, none⟩ = some (.int .i64 (x : Int)) := by
        rw [World.cell?_of_block (Below.heap_alloc _ _ _ q1)]; exact cv
      obtain ⟨fn, tmps, assign, body, hy, hR⟩ := hY _ _ _ hJa hx
      have hKa : KeepB n₀ Bg Bv W (wr.alloc (.cells #[.int .i64 (eAt y.2 i).u, .int .i64 (eAt y.2 i).v, .int .i64 (eAt y.2 i).w] 48)) := keepB_t hKr (KeepB.alloc (by omega) q2 q1 _)
      clear hx hx2 hi hi2 hY hJr hKr h3 h7 G l1 e1 hJa
      by_cases hq : (eAt y.2 i).v = (x : Int)
      · have ho : oth (gE (some y)) (x : Int) i = (eAt y.2 i).u := if_pos hq
        have hqb : ((eAt y.2 i).v == (x : Int)) = true := beq_iff_eq.2 hq
        have Ho := Lib.hid ho
        rw [ho] at hy
        clear ho hq
        dsimp only at hy
        gi_wp2
        refine hR.mono ?_
        rintro e W3 (⟨rfl, hJ3, hk3⟩ | ⟨rfl, hJx3⟩)
        · gi_wp2
          go_roundw
          case rel => exact ⟨k + 1, by omega, by go_num, by rw [Hx.out]; exact hJ3, keepB_t hKa hk3⟩
          case measure => simp only [intOf]; omega
        · gi_wp2
          refine bodyPost_ret (results_none rfl _ _ _) rfl ?_
          exact ⟨⟨_, rfl⟩, .inr ⟨_, hJx3⟩⟩
      · have ho : oth (gE (some y)) (x : Int) i = (eAt y.2 i).v := if_neg hq
        have hqb : ((eAt y.2 i).v == (x : Int)) = false := beq_eq_false_iff_ne.2 hq
        have Ho := Lib.hid ho
        rw [ho] at hy
        clear ho hq
        dsimp only at hy
        gi_wp2
        refine hR.mono ?_
        rintro e W3 (⟨rfl, hJ3, hk3⟩ | ⟨rfl, hJx3⟩)
        · gi_wp2
          go_roundw
          case rel => exact ⟨k + 1, by omega, by go_num, by rw [Hx.out]; exact hJ3, keepB_t hKa hk3⟩
          case measure => simp only [intOf]; omega
        · gi_wp2
          refine bodyPost_ret (results_none rfl _ _ _) rfl ?_
          exact ⟨⟨_, rfl⟩, .inr ⟨_, hJx3⟩⟩
    · obtain rfl : k = (gAdj o v).length := by omega
      gi_wp2
      go_end0
      exact ⟨⟨_, rfl⟩, .inl ⟨_, rfl, by have := hJr; rw [← Hal.out, List.take_length] at this; exact this⟩⟩
end Go.Proofs.Ytcpikabhcjkkmaa
