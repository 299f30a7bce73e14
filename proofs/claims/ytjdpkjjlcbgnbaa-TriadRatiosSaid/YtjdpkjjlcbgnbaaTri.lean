/- The iterator triangles of package triad. Conditions: the graph was made by New, or it is nil or zero. -/
import Derived.Test.YtjdpkjjlcbgnbaaTriM
namespace Go.Proofs.Ytjdpkjjlcbgnbaa
open Go.RowKit Go.Shelf
attribute [local go_sem] Oper.semAt_some

set_option maxHeartbeats 400000 in
theorem tri_call (g : Option Addr) (w : World) :
    Calls Try.prog 30 #[.pointer g] w fun e w' => e = .returned (.func (.func 45) #[] #[.pointer (some ⟨w.heap.size, 0, none⟩)]) ∧ w.alloc (.cells #[.pointer g] 25) = w' := by
  go_enter Try.func30, Try.ntmps30
  go_wp2
  go_ret
  exact ⟨rfl, rfl⟩

theorem Try.infoSI : (Try.prog.info? 48).map (fun i => (i.zero, i.size, i.bytes)) = some (some (.slice none 0 0), 1, 24) := by kernel_rfl
/-- the rows of later neighbours -/
def LatRows (o : Option (Nat × List Ed)) (lb k : Nat) (w : World) : Prop := ∃ V : Nat → Value, w.rowIs lb 48 (gN o) (fun i => if i < k then V i else .slice none 0 0) ∧ ∀ i, i < k → RT w (V i) (lat o (i : Int))

section
variable {w w' : World} {o : Option (Nat × List Ed)} {lb k : Nat}
theorem LatRows.start (w : World) : LatRows o w.heap.size 0 (w.alloc (.cells (madeCells #[.slice none 0 0] (gN o)) 48)) :=
  ⟨fun _ => .slice none 0 0, (World.rowIs_made w (.slice none 0 0) (gN o) 48).congr fun i _ => by rw [if_neg (by omega)], fun i hi => by omega⟩
theorem LatRows.lt (h : LatRows o lb k w) : lb < w.heap.size := by obtain ⟨V, h1, _⟩ := h; exact h1.lt
theorem LatRows.below (h : LatRows o lb k w) (hb : Below w.heap.size w w') : LatRows o lb k w' := by
  obtain ⟨V, h1, h2⟩ := h
  exact ⟨V, h1.of_block (hb.block lb h1.lt), fun i hi => (h2 i hi).below hb⟩
theorem LatRows.keep {n₀ : Nat} (h : LatRows o lb k w) (hk : KT n₀ w w') : LatRows o lb k w' := by
  obtain ⟨V, h1, h2⟩ := h
  obtain ⟨c, hc, _⟩ := id h1
  exact ⟨V, h1.of_block (hk.rows lb c hc), fun i hi => (h2 i hi).keep hk.ints⟩
theorem LatRows.store (h : LatRows o lb k w) {v : Value} (hv : RT w v (lat o (k : Int))) : LatRows o lb (k + 1) (w.setCell ⟨lb, k, none⟩ v) := by
  obtain ⟨V, h1, h2⟩ := h
  obtain ⟨c, hc, _⟩ := id h1
  have hk : ∀ (b : Nat) (c : Array Value), w.heap[b]? = some (.cells c 3 (0, 0)) → (w.setCell ⟨lb, k, none⟩ v).heap[b]? = w.heap[b]? := fun b d hd =>
    Below.heap_setCell _ _ _ _ (fun e => by
      have e : b = lb := e
      subst e
      rw [hc] at hd
      simp at hd)
  refine ⟨fun i => if i = k then v else V i, (h1.set k v).congr fun i _ => ?_, fun i hi => ?_⟩
  · by_cases e : i = k
    · subst e; rw [if_pos rfl, if_pos (by omega)]; exact (if_pos rfl).symm
    · rw [if_neg e]
      by_cases e2 : i < k
      · rw [if_pos e2, if_pos (by omega)]; exact (if_neg e).symm
      · rw [if_neg e2, if_neg (by omega)]
  · by_cases e : i = k
    · subst e; simp only [if_true]; exact hv.keep hk
    · simp only [if_neg e]; exact (h2 i (by omega)).keep hk
theorem LatRows.at (h : LatRows o lb k w) {i : Nat} (hi : i < k) (hn : i < gN o) : ∃ v, w.cell? ⟨lb, i, none⟩ = some v ∧ RT w v (lat o (i : Int)) := by
  obtain ⟨V, h1, h2⟩ := h
  exact ⟨V i, by rw [h1.cell hn, if_pos hi], h2 i hi⟩
theorem LatRows.free (h : LatRows o lb k w) {i : Nat} (hi : k ≤ i) (hn : i < gN o) : w.cell? ⟨lb, i, none⟩ = some (.slice none 0 0) ∧ w.frozen? ⟨lb, i, none⟩ = false := by
  obtain ⟨V, h1, _⟩ := h
  exact ⟨by rw [h1.cell hn, if_neg (by omega)], h1.frozen i⟩
end

set_option maxRecDepth 100000 in
set_option maxHeartbeats 2000000 in
theorem tri_stops (n : Nat) (hn : 1 ≤ n) (Bg n₀ : Nat) (g : Option Addr) (o : Option (Nat × List Ed)) (w : World) (hg : GV w n₀ (.pointer g) o) (hBg : w.heap[Bg]? = some (.cells #[.pointer g] 25 (0, 0))) (hn0 : n₀ ≤ w.heap.size) :
    SeqR Fence.wide n Try.prog 45 #[.pointer (some ⟨Bg, 0, none⟩)] (fun t : Int × Int × Int => #[.agg #[.int .i64 t.1, .int .i64 t.2.1, .int .i64 t.2.2]]) (KT n₀) (fun pre x => pre ++ [x] <+: tri o) (fun xs => xs = tri o) w := fun l J Jx W hW hJ hJx hY h0 => by
  have hgl := (Array.getElem?_eq_some_iff.1 hBg).1
  have hG := hg.good
  have hgn := hG.n_le
  have hGW : GV W n₀ (.pointer g) o := hg.below (hW.mono hn0)
  have hbW : W.heap[Bg]? = some (.cells #[.pointer g] 25 (0, 0)) := (hW.block Bg hgl).trans hBg
  have hsz := hW.size
  have cg : W.cell? ⟨Bg, 0, none⟩ = some (.pointer g) := by simp [World.cell?, hbW]
  clear hW hBg hg hJx hbW
  have hmk : ∀ w, (Instr.makeSlice 83 (.int .i64 (gN o : Nat)) (.int .i64 (gN o : Nat))).run Try.prog w = .ok (.slice (some ⟨w.heap.size, 0, none⟩) (gN o) (gN o)) (w.alloc (.cells (madeCells #[.slice none 0 0] (gN o)) 48)) := fun w =>
    run_make_row' (P := Try.prog) 83 48 (.slice none 0 0) 24 Try.underlying83 Try.infoSI rfl .i64 .i64 (gN o) (by omega) (by omega) w
  refine callsIn_of_wp Try.func45 rfl trivial ?_ rfl
  simp only [Try.ntmps45, List.size_toArray, List.length_cons, List.length_nil, Nat.reduceAdd, Nat.reduceSub, Array.replicate_succ, Array.replicate_zero, List.push_toArray, List.append_toArray, List.nil_append, List.cons_append]
  gi_wp2_with fail
  refine ⟨trivial, ?_⟩
  refine (callsIn_wide.2 (n_any n₀ (.pointer g) o W hGW)).mono ?_
  rintro e w' ⟨rfl, rfl⟩
  gi_wp2_with fail
  have L0 : LatRows o W.heap.size 0 (W.alloc (.cells (madeCells #[.slice none 0 0] (gN o)) 48)) := LatRows.start W
  have B0 : Below W.heap.size W (W.alloc (.cells (madeCells #[.slice none 0 0] (gN o)) 48)) := (Below.refl _ _).alloc (Nat.le_refl _) _
  clear hmk
  gi_loopw [19] (fun p wr => ∃ k : Nat, k ≤ gN o ∧ p = .int .i64 k ∧ LatRows o W.heap.size k wr ∧ Below W.heap.size W wr) (fun p _ => gN o - (intOf p).toNat)
  case atStart => exact ⟨0, Nat.zero_le _, rfl, L0, B0⟩
  case round =>
    obtain ⟨k, hk, rfl, L, bel⟩ := hrel
    by_cases hlt : k < gN o
    · have cgr : wr.cell? ⟨Bg, 0, none⟩ = some (.pointer g) := (bel.cell (p := ⟨Bg, 0, none⟩) (by show Bg < _; omega)).trans cg
      have hGr := hGW.below (bel.mono (by omega))
      have hszr := bel.size
      gi_wp2_with fail
      refine ⟨trivial, ?_⟩
      refine (callsIn_wide.2 (nbr_any n₀ g o (k : Int) wr hGr (by omega))).mono ?_
      rintro e w2 ⟨x, rfl, hrow, -, hb2⟩
      have hx := RT.own hrow
      have L2 := L.below hb2
      have bel2 := bel.trans (hb2.mono hszr)
      obtain ⟨a, cap, hxe, -⟩ := hx.form
      subst hxe
      clear hrow L bel hb2 cgr hGr
      have HS := Lib.hid (search_any hx.rl (nbr_sorted o k) (by have := nbr_len o (k : Int); omega) (k : Int))
      obtain ⟨v2, hcut, hv2⟩ := hx.cut (lowB_le (nbr o k) k)
      have Hv2 := Lib.hid hv2
      have hlow := lowB_le (nbr o k) k
      have hnl := nbr_len o (k : Int)
      clear hx hv2
      gi_wp2_with fail
      refine ⟨trivial, ?_⟩
      refine (callsIn_wide.2 HS.out).mono ?_
      rintro e w3 ⟨rfl, q, rfl⟩
      clear HS
      have L3 := L2.below (below_drewN (Below.refl _ w2) q)
      have hv3 : RT (w2.drewN q) v2 (lat o (k : Int)) := Hv2.out.below (below_drewN (Below.refl _ w2) q)
      have bel3 := below_drewN bel2 q
      clear L2 Hv2 bel2
      generalize w2.drewN q = w4 at *
      obtain ⟨f1, f2⟩ := L3.free (Nat.le_refl k) hlt
      have Hv3 := Lib.hid hv3
      obtain ⟨a3, cap3, hv3e, -⟩ := hv3.form
      subst hv3e
      clear hv3
      gi_wp2_with fail
      go_roundw
      case rel => exact ⟨k + 1, by omega, by go_num, L3.store Hv3.out, bel3.setCell (p := ⟨W.heap.size, k, none⟩) (Nat.le_refl _) _⟩
      case measure => simp only [intOf]; omega
    · obtain rfl : k = gN o := by omega
      have hJ2 : J (triU o 0) wr := abides_below hJ h0 bel
      have hs2 : W.heap.size ≤ wr.heap.size ∧ n₀ ≤ wr.heap.size := by have := bel.size; omega
      clear h0 cg hGW
      gi_wp2_with fail
      obtain ⟨w2, rfl⟩ : ∃ w2 : World, w2 = wr := ⟨_, rfl⟩
      gi_loopw [40] (fun p wr => ∃ k : Nat, k ≤ gN o ∧ p = .int .i64 k ∧ J (triU o k) wr ∧ LatRows o W.heap.size (gN o) wr ∧ n₀ ≤ wr.heap.size) (fun p _ => gN o - (intOf p).toNat)
      case atStart => exact ⟨0, Nat.zero_le _, rfl, hJ2, L, hs2.2⟩
      case round =>
        clear L hJ2 bel
        obtain ⟨k, hk, rfl, hJr, L, hnr⟩ := hrel
        by_cases hlt : k < gN o
        · obtain ⟨v, cv, hv⟩ := L.at hlt hlt
          have Hv := Lib.hid hv
          obtain ⟨a, cap, hve, -⟩ := hv.form
          subst hve
          have hkl := lat_len o (k : Int)
          have hJ3 : J (triU o k ++ triV o (k : Int) 0) wr := by rw [triV_zero, List.append_nil]; exact hJr
          clear hv hJr
          gi_wp2_with fail
          obtain ⟨w3, rfl⟩ : ∃ w3 : World, w3 = wr := ⟨_, rfl⟩
          gi_loopw [47] (fun p wr => ∃ j : Nat, j ≤ (lat o (k : Int)).length ∧ p = .int .i64 j ∧ J (triU o k ++ triV o (k : Int) j) wr ∧ LatRows o W.heap.size (gN o) wr ∧ Hid (RT wr (.slice a (lat o (k : Int)).length cap) (lat o (k : Int))) ∧ n₀ ≤ wr.heap.size) (fun p _ => (lat o (k : Int)).length - (intOf p).toNat)
          case atStart => exact ⟨0, Nat.zero_le _, rfl, hJ3, L, Hv, hnr⟩
          case round =>
            clear L hJ3 Hv cv hnr
            obtain ⟨j, hj, rfl, hJr, L, Hv, hnr⟩ := hrel
            by_cases hlj : j < (lat o (k : Int)).length
            · obtain ⟨A, hA⟩ := Hv.out.rl.rd
              have ix := hA.ix j hlj
              have hc : wr.cell? (A j) = some (.int .i64 (nth (lat o (k : Int)) j)) := Sl.at hA hlj
              have hm : nth (lat o (k : Int)) j ∈ lat o (k : Int) := by rw [nth_eq hlj]; exact List.getElem_mem hlj
              have hml := (mem_lat hG).1 hm
              obtain ⟨y, hy⟩ : ∃ y : Nat, nth (lat o (k : Int)) j = y := ⟨(nth (lat o (k : Int)) j).toNat, by omega⟩
              have hyn : y < gN o := by omega
              rw [hy] at hc
              obtain ⟨v2, cv2, hv2⟩ := L.at hyn hyn
              have Hb := Lib.hid (both_any wr.heap.size _ _ _ _ wr Hv.out.rl hv2.rl (lat_sorted o k) (lat_sorted o y) (Nat.le_refl _) (by omega) (by have := lat_len o (y : Int); omega))
              obtain ⟨a2, cap2, hve2, -⟩ := hv2.form
              subst hve2
              have Hy := Lib.hid hy
              have hyi : (0 : Int) ≤ y ∧ (y : Int) < gN o := by omega
              clear hm hml hy hA hv2
              gi_wp2_with fail
              refine ⟨trivial, ?_⟩
              refine (callsIn_wide.2 Hb.out).mono ?_
              rintro e w4 ⟨x, rfl, hrow, -, hb4⟩
              have hx := RT.own hrow
              have Hx := Lib.hid hx
              obtain ⟨a3, cap3, hxe, -⟩ := hx.form
              subst hxe
              have L4 := L.below hb4
              have Hv4 := Lib.hid (Hv.out.below hb4)
              have hJ4 : J (triAt o k j 0) w4 := by rw [triAt_zero]; exact abides_below hJ hJr hb4
              have hn4 : n₀ ≤ w4.heap.size := by have := hb4.size; omega
              have hil := inter_len (lat o (k : Int)) (lat o (y : Int))
              clear hx hrow hb4 L Hv hJr cv2 ix hc Hb hnr
              gi_wp2_with fail
              obtain ⟨w5, rfl⟩ : ∃ w5 : World, w5 = w4 := ⟨_, rfl⟩
              gi_loopw [58] (fun p wr => ∃ i : Nat, i ≤ (inter (lat o (k : Int)) (lat o (y : Int))).length ∧ p = .int .i64 i ∧ J (triAt o k j i) wr ∧ LatRows o W.heap.size (gN o) wr ∧ Hid (RT wr (.slice a (lat o (k : Int)).length cap) (lat o (k : Int))) ∧ Hid (RT wr (.slice a3 (inter (lat o (k : Int)) (lat o (y : Int))).length cap3) (inter (lat o (k : Int)) (lat o (y : Int)))) ∧ n₀ ≤ wr.heap.size) (fun p _ => (inter (lat o (k : Int)) (lat o (y : Int))).length - (intOf p).toNat)
              case atStart => exact ⟨0, Nat.zero_le _, rfl, hJ4, L4, Hv4, Hx, hn4⟩
              case round =>
                clear L4 Hv4 Hx hJ4 hn4
                obtain ⟨i, hi, rfl, hJr, L, Hv, Hx, hnr⟩ := hrel
                by_cases hli : i < (inter (lat o (k : Int)) (lat o (y : Int))).length
                · obtain ⟨A3, hA3⟩ := Hx.out.rl.rd
                  have ix3 := hA3.ix i hli
                  have hc3 : wr.cell? (A3 i) = some (.int .i64 (nth (inter (lat o (k : Int)) (lat o (y : Int))) i)) := Sl.at hA3 hli
                  have hwi : i < (triW o (k : Int) (nth (lat o (k : Int)) j)).length := by rw [triW_len, Hy.out]; exact hli
                  have hnx := triAt_next hlt hlj hwi
                  rw [triW_at, Hy.out] at hnx
                  obtain ⟨fn, tmps, assign, body, hy, hR⟩ := hY _ _ wr hJr (by rw [hnx.1]; exact hnx.2)
                  have Hnx := Lib.hid hnx.1
                  clear hwi hnx hA3 hJr
                  dsimp only at hy
                  gi_wp2
                  refine hR.mono ?_
                  rintro e W3 (⟨rfl, hJ3, hk3⟩ | ⟨rfl, hJx3⟩)
                  · gi_wp2
                    go_roundw
                    case rel => exact ⟨i + 1, by omega, by go_num, by rw [← Hnx.out]; exact hJ3, L.keep hk3, Lib.hid (Hv.out.keep hk3.ints), Lib.hid (Hx.out.keep hk3.ints), by have := hk3.below.size; omega⟩
                    case measure => simp only [intOf]; omega
                  · gi_wp2
                    refine bodyPost_ret (results_none rfl _ _ _) rfl ?_
                    exact ⟨⟨_, rfl⟩, .inr ⟨_, hJx3⟩⟩
                · obtain rfl : i = (inter (lat o (k : Int)) (lat o (y : Int))).length := by omega
                  have he := triAt_end (o := o) (k := k) hlj
                  rw [triW_len, Hy.out] at he
                  rw [he] at hJr
                  clear he
                  gi_wp2_with fail
                  go_roundw
                  case rel => exact ⟨j + 1, by omega, by go_num, hJr, L, Hv, hnr⟩
                  case measure => simp only [intOf]; omega
            · obtain rfl : j = (lat o (k : Int)).length := by omega
              gi_wp2_with fail
              go_roundw
              case rel => exact ⟨k + 1, by omega, by go_num, by rw [triU_succ]; exact hJr, L, hnr⟩
              case measure => simp only [intOf]; omega
        · obtain rfl : k = gN o := by omega
          gi_wp2_with fail
          go_end0
          exact ⟨⟨_, rfl⟩, .inl ⟨_, rfl, hJr⟩⟩
end Go.Proofs.Ytjdpkjjlcbgnbaa
