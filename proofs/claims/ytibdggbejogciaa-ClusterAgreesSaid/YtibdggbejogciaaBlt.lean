/- The walk of Built of the statements about graphs: edges of links. Conditions: the links are in range; there is a vertex. -/
import Derived.Test.YtibdggbejogciaaMe
import Derived.BigQuiet
import Derived.IntWalk
namespace Go.Proofs.Ytibdggbejogciaa
open Go.RowKit

/-- a link -/
structure Lk where
  u : Int
  v : Int
  w : Int
def lAt (L : List Lk) (i : Nat) : Lk := L.getD i ⟨0, 0, 0⟩
theorem lAt_eq {L : List Lk} {i : Nat} (h : i < L.length) : lAt L i = L[i] := by simp [lAt, List.getD, h]
/-- the cells of the i-th link -/
def lkC (L : List Lk) (i : Nat) : Nat → Value
  | 0 => .int .u8 (lAt L i).u
  | 1 => .int .u8 (lAt L i).v
  | _ => .int .i8 (lAt L i).w
/-- links in memory -/
abbrev LS (w : World) (B : Nat) (v : Value) (L : List Lk) (A : Nat → Addr) : Prop := Rd 22 3 w B v L.length (lkC L) A
/-- links in range -/
def LkR (L : List Lk) : Prop := ∀ i, i < L.length → (0 ≤ (lAt L i).u ∧ (lAt L i).u ≤ 255) ∧ (0 ≤ (lAt L i).v ∧ (lAt L i).v ≤ 255) ∧ (-128 ≤ (lAt L i).w ∧ (lAt L i).w ≤ 127)
/-- the edge of a link -/
def lkE (n : Nat) (k : Lk) : Ed := ⟨k.u % n, k.v % n, k.w⟩
/-- the edges of links -/
def bltE (n : Nat) (L : List Lk) : List Ed := (L.map (lkE n)).filter fun e => decide (e.u ≠ e.v)
theorem bltE_len (n : Nat) (L : List Lk) : (bltE n L).length ≤ L.length := by
  have := List.length_filter_le (fun e : Ed => decide (e.u ≠ e.v)) (L.map (lkE n))
  unfold bltE; simpa using this
theorem bltE_take {n : Nat} {L : List Lk} {q : Nat} (h : q < L.length) : bltE n (L.take (q + 1)) = if (lAt L q).u % n ≠ (lAt L q).v % n then bltE n (L.take q) ++ [lkE n (lAt L q)] else bltE n (L.take q) := by
  unfold bltE
  rw [List.take_succ_eq_append_getElem h, List.map_append, List.filter_append, lAt_eq h]
  by_cases c : L[q].u % (n : Int) = L[q].v % (n : Int) <;> simp [c, lkE]
theorem bltE_ok {n : Nat} {L : List Lk} (hn : 0 < n) (hn2 : n ≤ 4096) (hl : L.length ≤ 16384) : GOk n (bltE n L) := by
  refine ⟨hn2, Nat.le_trans (bltE_len n L) hl, fun i hi => ?_⟩
  rw [eAt_eq hi]
  have hm := List.mem_filter.1 (List.getElem_mem hi)
  obtain ⟨k, _, hk⟩ := List.mem_map.1 hm.1
  have hne := of_decide_eq_true hm.2
  rw [← hk] at hne ⊢
  have h0 : (0 : Int) < n := by omega
  exact ⟨Int.emod_nonneg _ (by omega), Int.emod_lt_of_pos _ h0, Int.emod_nonneg _ (by omega), Int.emod_lt_of_pos _ h0, hne⟩
theorem bltE_w {n : Nat} {L : List Lk} (hr : LkR L) : ∀ i, i < (bltE n L).length → -128 ≤ (eAt (bltE n L) i).w ∧ (eAt (bltE n L) i).w ≤ 127 := by
  intro i hi
  rw [eAt_eq hi]
  have hm := List.mem_filter.1 (List.getElem_mem hi)
  obtain ⟨k, hk0, hk⟩ := List.mem_map.1 hm.1
  obtain ⟨j, hj, rfl⟩ := List.mem_iff_getElem.1 hk0
  have := (hr j hj).2.2
  rw [lAt_eq hj] at this
  rw [← hk]; exact this
/-- what Built answers -/
def BltRes (n : Nat) (L : List Lk) (w : World) (e : Ending) (w' : World) : Prop := ∃ v, e = .returned v ∧ OwnE w.heap.size v (bltE n L) w' ∧ Below w.heap.size w w'
set_option maxRecDepth 100000 in
set_option maxHeartbeats 2000000 in
theorem built_any (B : Nat) (a : Option Addr) (cap n : Nat) (A : Nat → Addr) (L : List Lk) (w : World) (hS : LS w B (.slice a L.length cap) L A) (hB : B ≤ w.heap.size) (hr : LkR L) (hl : L.length ≤ 16384) (hn : 0 < n) (hn2 : n ≤ 4096) :
    Calls Try.prog 11 #[.int .i64 (n : Nat), .slice a L.length cap] w (BltRes n L w) := by
  have HS := Lib.hid hS; have HR := Lib.hid hr
  have g1 : decide ((n : Int) > 0) = true := decide_eq_true (by omega)
  have g2 : decide (0 < n) = true := decide_eq_true hn
  have hni : (0 : Int) < n ∧ (n : Int) ≤ 4096 := by omega
  clear hS hr
  go_enter Try.func11, Try.ntmps11
  go_wp2_with fail
  go_loopw [5, 6] (fun v iv wr => ∃ q : Nat, q ≤ L.length ∧ iv = .int .i64 (q : Nat) ∧ Hid (OwnE w.heap.size v (bltE n (L.take q)) wr) ∧ Below w.heap.size w wr) (fun _ iv _ => L.length - (intOf iv).toNat)
  case atStart => exact ⟨0, Nat.zero_le _, rfl, Lib.hid (OwnE.nil _ _), Below.refl _ _⟩
  case round =>
    obtain ⟨q, hq, rfl, HO, bel⟩ := hrel
    by_cases hlt : q < L.length
    · have hLr := HS.out.below (bel.mono hB)
      have ix := hLr.ix q hlt
      have e0 := hLr.cell q hlt 0 (by omega)
      have e1 : wr.cell? ⟨(A q).block, (A q).off + 1, none⟩ = some (lkC L q 1) := hLr.cell q hlt 1 (by omega)
      have e2 : wr.cell? ⟨(A q).block, (A q).off + 2, none⟩ = some (lkC L q 2) := hLr.cell q hlt 2 (by omega)
      rw [add_zero] at e0
      unfold lkC at e0 e1 e2
      obtain ⟨hu, hv, hx⟩ := HR.out q hlt
      have HT := Lib.hid (bltE_take (n := n) hlt)
      obtain ⟨u, hue⟩ : ∃ z, (lAt L q).u = z := ⟨_, rfl⟩
      obtain ⟨v, hve⟩ : ∃ z, (lAt L q).v = z := ⟨_, rfl⟩
      obtain ⟨x, hxe⟩ : ∃ z, (lAt L q).w = z := ⟨_, rfl⟩
      have HEq := Lib.hid (show lkE n (lAt L q) = ⟨u % n, v % n, x⟩ by unfold lkE; rw [hue, hve, hxe])
      rw [hue] at e0 hu HT; rw [hve] at e1 hv HT; rw [hxe] at e2 hx
      have hm1 : (0 : Int) ≤ u % (n : Int) ∧ u % (n : Int) < n := ⟨Int.emod_nonneg _ (by omega), Int.emod_lt_of_pos _ (by omega)⟩
      have hm2 : (0 : Int) ≤ v % (n : Int) ∧ v % (n : Int) < n := ⟨Int.emod_nonneg _ (by omega), Int.emod_lt_of_pos _ (by omega)⟩
      have t1 : u.tmod (n : Int) = u % (n : Int) := Int.tmod_eq_emod_of_nonneg (by omega)
      have t2 : v.tmod (n : Int) = v % (n : Int) := Int.tmod_eq_emod_of_nonneg (by omega)
      have c1 : IntKind.i64.wrap u = u := IntWalk.i64_in _ (by omega)
      have c2 : IntKind.i64.wrap v = v := IntWalk.i64_in _ (by omega)
      have c3 : IntKind.i64.wrap x = x := IntWalk.i64_in _ (by omega)
      have n1 : ((n : Int) == 0) = false := by simp; omega
      have hqv : (0 : Int) ≤ q ∧ (q : Int) < L.length := by omega
      have hsz := bel.size
      have hln : (bltE n (L.take q)).length ≤ 16384 := by have := bltE_len n (L.take q); rw [List.length_take] at this; omega
      clear hLr hue hve hxe
      by_cases hc : u % (n : Int) = v % (n : Int)
      · have k1 : ((u % (n : Int)) != (v % (n : Int))) = false := by simp [hc]
        have HC := Lib.hid hc
        clear hc
        go_wp2_with fail
        go_quiet (fail)
        go_wp2_with fail
        go_roundw
        case rel =>
          refine ⟨q + 1, by omega, by go_num, Lib.hid ?_, below_drewN bel _⟩
          rw [HT.out, if_neg (fun c => c HC.out)]
          exact HO.out.below (below_drewN (Below.refl _ _) _)
        case measure => simp only [intOf]; omega
      · have k1 : ((u % (n : Int)) != (v % (n : Int))) = true := by simpa using hc
        have HC := Lib.hid hc
        have hown : ∀ m, (wr.drewN m).ownsRow w.heap.size 29 3 u5 (bltE n (L.take q)).length (flat (edC (bltE n (L.take q))) (bltE n (L.take q)).length 3) := fun m => HO.out.below (below_drewN (Below.refl _ _) m)
        have HOW := Lib.hid hown
        have HSz := Lib.hid (show ∀ m, w.heap.size ≤ (wr.drewN m).heap.size from fun m => hsz)
        clear hc hown
        go_wp2_with fail
        go_quiet (fail)
        go_wp2_with (at_builtin; refine push etE rfl _ _ rfl w.heap.size _ _ _ (HOW.out _) rfl #[.int .i64 (u % (n : Int)), .int .i64 (v % (n : Int)), .int .i64 x] _ rfl rfl rfl (by simp [Value.oneCell']) (by omega) (by omega) (HSz.out _) ?_; intro g cp w5 hown5 hg5 hv5)
        have hb5 : Below w.heap.size w w5 := (below_drewN bel _).grown hg5 hsz (fun j e => ((HOW.out 0).lt j e).1)
        go_roundw
        case rel =>
          refine ⟨q + 1, by omega, by go_num, Lib.hid ?_, hb5⟩
          rw [HT.out, if_pos HC.out, HEq.out]
          exact OwnE.snoc (x := ⟨u % (n : Int), v % (n : Int), x⟩) hown5
        case measure => simp only [intOf]; omega
    · obtain rfl : q = L.length := by omega
      have hO := HO.out
      rw [List.take_length] at hO
      have HO2 := Lib.hid hO
      clear hO HO
      go_wp2_with fail
      go_ret
      exact ⟨_, rfl, HO2.out, bel⟩
end Go.Proofs.Ytibdggbejogciaa
