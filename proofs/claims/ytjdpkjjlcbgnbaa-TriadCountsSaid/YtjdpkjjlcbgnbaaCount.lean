/- The walks of Count, At, Common of package triad, and of small ones. Conditions: the graph was made by New, or it is nil or zero. -/
import Derived.Test.YtjdpkjjlcbgnbaaTri
import Derived.Test.YtjdpkjjlcbgnbaaChk
namespace Go.Proofs.Ytjdpkjjlcbgnbaa
open Go.RowKit Go.Shelf
attribute [local go_sem] Oper.semAt_some

theorem triV_len (o : Option (Nat × List Ed)) (u : Int) {j : Nat} (hj : j ≤ (lat o u).length) : (triV o u j).length ≤ j * gN o := by
  induction j with
  | zero => simp [triV]
  | succ j ih =>
    rw [triV_succ o u (by omega), List.length_append, triW_len, Nat.succ_mul]
    have := ih (by omega)
    have := inter_len (lat o u) (lat o (nth (lat o u) j))
    have := lat_len o u
    omega
theorem triU_len (o : Option (Nat × List Ed)) (k : Nat) : (triU o k).length ≤ k * (gN o * gN o) := by
  induction k with
  | zero => simp [triU]
  | succ k ih =>
    rw [triU_succ, List.length_append, Nat.succ_mul]
    have h1 := triV_len o (k : Int) (Nat.le_refl _)
    have h2 := Nat.mul_le_mul_right (gN o) (lat_len o (k : Int))
    omega
theorem tri_len {o : Option (Nat × List Ed)} (h : GoG o) : (tri o).length ≤ 68719476736 := by
  have h1 := triU_len o (gN o)
  have h2 := h.n_le
  have h3 : gN o * gN o ≤ 4096 * 4096 := Nat.mul_le_mul h2 h2
  have h4 : gN o * (gN o * gN o) ≤ 4096 * (4096 * 4096) := Nat.mul_le_mul h2 h3
  unfold tri; omega

theorem kt_set {n₀ B : Nat} {W : World} {t : TypeId} {v : Value} (hb : Boxed W B t v) (h0 : n₀ ≤ B) (h1 : t ≠ 3) (h2 : t ≠ 48) (x : Value) : KT n₀ W (W.setCell ⟨B, 0, none⟩ x) where
  below := (Below.refl _ _).setCell (p := ⟨B, 0, none⟩) h0 _
  ints := fun k c hc => Below.heap_setCell _ _ _ _ (fun e => by
    have e : k = B := e
    subst e
    rw [show W.heap[k]? = _ from hb] at hc
    simp at hc; exact h1 hc.2)
  rows := fun k c hc => Below.heap_setCell _ _ _ _ (fun e => by
    have e : k = B := e
    subst e
    rw [show W.heap[k]? = _ from hb] at hc
    simp at hc; exact h2 hc.2)

set_option maxRecDepth 100000 in
set_option maxHeartbeats 1000000 in
theorem count_any (B : Nat) (g : Option Addr) (o : Option (Nat × List Ed)) (w : World) (hg : GV w B (.pointer g) o) (hB : B ≤ w.heap.size) :
    Calls Try.prog 15 #[.pointer g] w fun e w' => e = .returned (.int .i64 (tri o).length) ∧ Below w.heap.size w w' := by
  refine (callsIn_wide (n := 8)).1 ?_
  have hG := hg.good
  have hlen := tri_len hG
  refine callsIn_of_wp_marks Try.func15 rfl trivial ?_ rfl
  simp only [Try.ntmps15, List.size_toArray, List.length_cons, List.length_nil, Nat.reduceAdd, Nat.reduceSub, Array.replicate_succ, Array.replicate_zero, List.push_toArray, List.append_toArray, List.nil_append, List.cons_append]
  gi_wp2_with (refine ⟨trivial, ?_⟩; gi_at_call 30; refine (callsIn_wide.2 (tri_call _ _)).mono ?_; rintro e w' ⟨rfl, rfl⟩)
  have hb1 := Boxed.new w 2 (.int .i64 0)
  have hb2 := heap_alloc_new (w.alloc (.cells #[.int .i64 0] 2)) (.cells #[.pointer g] 25)
  rw [World.size_alloc] at hb2
  obtain ⟨W0, hW0⟩ : ∃ W0, (w.alloc (.cells #[.int .i64 0] 2)).alloc (.cells #[.pointer g] 25) = W0 := ⟨_, rfl⟩
  have hB0 : Below w.heap.size w W0 := by rw [← hW0]; exact ((Below.refl _ w).alloc (Nat.le_refl _) _).alloc (by simp) _
  have hs0 : W0.heap.size = w.heap.size + 2 := by rw [← hW0]; simp
  have hb3 : Boxed W0 w.heap.size 2 (.int .i64 0) := by rw [← hW0]; exact hb1.alloc _
  have hg0 : GV W0 w.heap.size (.pointer g) o := (hg.below (hB0.mono hB)).mono hB
  rw [hW0] at hb2 ⊢
  clear hW0 hb1
  refine rangeR (F := Fence.wide) rfl (by omega) (gf := 45) (lb := #[.pointer (some ⟨w.heap.size + 1, 0, none⟩)]) rfl trivial (enters_of Try.func45 (by kernel_rfl) rfl)
    (tri_stops 7 (by omega) (w.heap.size + 1) w.heap.size g o W0 hg0 hb2 (by omega)) KT.trans (kt_b (by omega)) (Below.refl _ _) (fun _ => rfl)
    (fun pre W => Boxed W w.heap.size 2 (.int .i64 (pre.length : Nat)) ∧ Below w.heap.size w W)
    (fun _ _ _ => False)
    (OwnFrom.and (Own.from (boxed_own _ _ _) _) (ownFrom_below (Nat.le_refl _) (by omega)))
    (fun _ _ _ _ _ hs _ _ => hs)
    ⟨hb3, hB0⟩
    (fun _ x a' _ => a' = { tmps := #[.pointer g, undef, .int .i64 0, .pointer (some ⟨w.heap.size, 0, none⟩), .pointer g, .func (.func 45) #[] #[.pointer (some ⟨w.heap.size + 1, 0, none⟩)], .agg #[.int .i64 x.1, .int .i64 x.2.1, .int .i64 x.2.2], undef, undef, undef], defers := [] })
    (fun _ _ _ _ _ _ _ hs _ _ => hs) ?assign ?body ?done ?stop
  case assign =>
    intro l pre x W K hI hR hK
    gi_wp2
    exact hK _ _ (KeepsFrom.refl _ _) (KT.refl _ _) hI (by simp)
  case body =>
    rintro l pre x a' W hl - ⟨hb, hB⟩ rfl hR
    have hp : pre.length < 68719476736 := by have := hR.length_le; simp at this; omega
    have c1 := hb.cell
    have z1 := hb.frozen
    gi_wp2
    exact ⟨(KeepsOthers.setCell _ _ _).from _, kt_set hb (Nat.le_refl _) (by decide) (by decide) _, by rw [List.length_append]; exact hb.set _, hB.setCell (p := ⟨w.heap.size, 0, none⟩) (Nat.le_refl _) _⟩
  case done =>
    rintro D xs W hD rfl ⟨hb, hB⟩ hK
    have c1 := hb.cell
    gi_wp2
    refine ⟨by simp, .inl ⟨_, _, rfl, run_takeDeferred hK, ?_⟩⟩
    exact ⟨_, results_tmp rfl _ _ _, rfl, hB.trans (belowK_b (w := w) (Nat.le_refl _) W D _ _ (by omega) hK rfl rfl)⟩
  case stop =>
    rintro D c pre W _ h _
    exact h.elim
end Go.Proofs.Ytjdpkjjlcbgnbaa
