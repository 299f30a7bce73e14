/- The walk of Build of package recon. Conditions: the edges are given as cells. -/
import Derived.Test.YtpbgophogneecaaGreatRcb
import Derived.Test.YtpbgophogneecaaGreatRcc
import Derived.Test.YtpbgophogneecaaGreatRca
import Derived.Test.YtpbgophogneecaaGreatFor
namespace Go.Proofs.YtpbgophogneecaaGreat
open Go.RowKit

theorem Tryz.infoI64 : (Tryz.prog.info? 2).map (fun i => (i.zero, i.size, i.bytes)) = some (some (.int .i64 0), 1, 8) := by kernel_rfl
theorem Tryz.infoP2 : (Tryz.prog.info? 91).map (fun i => (i.zero, i.size, i.bytes)) = some (some (.agg #[.int .i64 0, .int .i64 0]), 2, 16) := by kernel_rfl
def mI (i d z : Nat) : Mk := ⟨i, d, .cells (madeCells #[.int .i64 0] z) 3, fun b => .slice (some ⟨b, 0, none⟩) z z⟩
def mH (i d z : Nat) : Mk := ⟨i, d, .cells (madeCells #[.int .i64 0] z) 2, fun b => .slice (some ⟨b, 0, none⟩) z z⟩
def mT (i d : Nat) : Mk := ⟨i, d, .cells #[.int .i64 0, .slice none 0 0, .slice none 0 0, .slice none 0 0, .slice none 0 0, .slice none 0 0] 57, fun b => .pointer (some ⟨b, 0, none⟩)⟩
/-- the value of no tree -/
def trZero : Array Value := #[.int .i64 0, .slice none 0 0, .slice none 0 0, .slice none 0 0, .slice none 0 0, .slice none 0 0]
/-- a tree that Build has made, below block B -/
structure TrAt (w : World) (B n z : Nat) (b : Blk) (E : List Ed) (f : List Nat) : Prop where
  fo : Fo n E f
  n_le : n ≤ 4096
  z_eq : z = n + f.length
  lo : b.l < B ∧ b.r < B ∧ b.p < B ∧ b.h < B ∧ b.s < B
  rl : Row w b.l z (intF (stL E f n f.length))
  rr : Row w b.r z (intF (stR E f n f.length))
  rp : Row w b.p z (intF (stP E f n f.length))
  rh : Row w b.h z (intF (stH E f n f.length))
  rs : Row w b.s z (intF (stZ E f n f.length))
section
variable {w w' : World} {B B' n z : Nat} {b : Blk} {E : List Ed} {f : List Nat}
theorem TrAt.below (h : TrAt w B n z b E f) (hb : Below B w w') : TrAt w' B n z b E f :=
  ⟨h.fo, h.n_le, h.z_eq, h.lo, h.rl.below hb h.lo.1, h.rr.below hb h.lo.2.1, h.rp.below hb h.lo.2.2.1, h.rh.below hb h.lo.2.2.2.1, h.rs.below hb h.lo.2.2.2.2⟩
theorem TrAt.mono (h : TrAt w B n z b E f) (hB : B ≤ B') : TrAt w B' n z b E f := by
  obtain ⟨a1, a2, a3, a4, a5⟩ := h.lo
  exact ⟨h.fo, h.n_le, h.z_eq, ⟨by omega, by omega, by omega, by omega, by omega⟩, h.rl, h.rr, h.rp, h.rh, h.rs⟩
theorem cnt_pos_le {m : Nat} (k : Nat → Nat) : cntN m k ≤ m := cntN_le m k
theorem Fo.len_le (F : Fo n E f) : f.length ≤ n := by have := cnt_lbI F (Nat.le_refl _); omega
theorem TrAt.z_le (h : TrAt w B n z b E f) : z ≤ 8192 := by have := h.fo.len_le; have := h.n_le; have := h.z_eq; omega
end
/-- what Build answers -/
def BldRes (n : Int) (E : List Ed) (w : World) (e : Ending) (w' : World) : Prop :=
  Below w.heap.size w w' ∧ ((gErr n E ≠ 0 ∧ e = .returned (.tuple #[.agg trZero, .int .i64 (gErr n E)])) ∨
    (∃ (k : Nat) (o : List Nat) (b : Blk) (z : Nat), n = k ∧ GOk k E ∧ OrdOf E o ∧ e = .returned (.tuple #[.agg (trV k z b), .int .i64 0]) ∧ TrAt w' w'.heap.size k z b E (frs E o) ∧ (w.heap.size ≤ b.l ∧ w.heap.size ≤ b.r ∧ w.heap.size ≤ b.p ∧ w.heap.size ≤ b.h ∧ w.heap.size ≤ b.s)))
/-- the tree's rows when they have been made -/
structure TrP (w0 w : World) (b : Blk) (n z : Nat) : Prop where
  nd : [b.t, b.l, b.r, b.p, b.h, b.s].Nodup
  lo : ∀ g, g ∈ [b.t, b.l, b.r, b.p, b.h, b.s] → w0.heap.size ≤ g
  st : Row w b.t 6 (trC n z b)
  rl : Row w b.l z (intF fun _ => 0)
  rr : Row w b.r z (intF fun _ => 0)
  rp : Row w b.p z (intF fun _ => 0)
  rh : Row w b.h z (intF fun _ => 0)
  rs : Row w b.s z (intF fun _ => 0)
  bel : Below w0.heap.size w0 w
theorem Laid.nes {w0 w : World} {D : List Mk} {blk : Nat → Nat} (h : Laid w0 w D blk) {l : List Nat} (hl : ∀ i, i ∈ l → i ∈ D.map (·.i)) (hn : l.Nodup) : (l.map blk).Nodup := by
  rw [List.Nodup, List.pairwise_map]
  refine List.Pairwise.imp_of_mem ?_ hn
  intro a b ha hb hab e
  obtain ⟨m, hm, rfl⟩ := List.mem_map.1 (hl a ha)
  obtain ⟨m', hm', rfl⟩ := List.mem_map.1 (hl b hb)
  exact h.ne m m' hm hm' hab e
theorem madeI_row {w : World} {g z : Nat} {t : TypeId} (h : w.heap[g]? = some (.cells (madeCells #[.int .i64 0] z) t (0, 0))) : Row w g z (intF fun _ => 0) :=
  ⟨_, _, h, fun i hi => by simp [madeCells, hi, Nat.mod_one, intF]⟩
theorem Laid.row12 {w0 w : World} {blk : Nat → Nat} {D : List Mk} (h : Laid w0 w D blk) (hD : mT 12 9 ∈ D) {b12 : Nat} (e12 : blk 12 = b12) : Row w b12 6 (fun i => trZero.getD i undef) := by
  have a12 := h.at_ _ hD
  simp only [mT, e12] at a12
  exact ⟨_, _, a12.2, fun i hi => by
    match i, hi with
    | 0, _ => rfl
    | 1, _ => rfl
    | 2, _ => rfl
    | 3, _ => rfl
    | 4, _ => rfl
    | 5, _ => rfl
    | k + 6, h => omega⟩
theorem Laid.trp {w0 w : World} {z n b2 b4 b6 b8 b10 b12 : Nat} {blk : Nat → Nat} {D : List Mk} (h : Laid w0 w D blk) (hD : D = [mI 2 36 z, mI 4 38 z, mI 6 40 z, mH 8 42 z, mI 10 44 z, mT 12 9]) (e2 : blk 2 = b2) (e4 : blk 4 = b4) (e6 : blk 6 = b6) (e8 : blk 8 = b8) (e10 : blk 10 = b10) (e12 : blk 12 = b12) :
    TrP w0 ((((((w.setCell ⟨b12, 0, none⟩ (.int .i64 n)).setCell ⟨b12, 1, none⟩ (.slice (some ⟨b2, 0, none⟩) z z)).setCell ⟨b12, 2, none⟩ (.slice (some ⟨b4, 0, none⟩) z z)).setCell ⟨b12, 3, none⟩ (.slice (some ⟨b6, 0, none⟩) z z)).setCell ⟨b12, 4, none⟩ (.slice (some ⟨b8, 0, none⟩) z z)).setCell ⟨b12, 5, none⟩ (.slice (some ⟨b10, 0, none⟩) z z)) ⟨b12, b2, b4, b6, b8, b10, 0⟩ n z := by
  have r0 := h.row12 (by rw [hD]; simp) e12
  subst hD
  have hn := h.nes (l := [12, 2, 4, 6, 8, 10]) (by simp [mI, mH, mT]) (by decide)
  simp only [List.map_cons, List.map_nil, e2, e4, e6, e8, e10, e12] at hn
  have a := h.at_
  have a2 := a (mI 2 36 z) (by simp)
  have a4 := a (mI 4 38 z) (by simp)
  have a6 := a (mI 6 40 z) (by simp)
  have a8 := a (mH 8 42 z) (by simp)
  have a10 := a (mI 10 44 z) (by simp)
  have a12 := a (mT 12 9) (by simp)
  simp only [mI, mH, mT, e2, e4, e6, e8, e10, e12] at a2 a4 a6 a8 a10 a12
  have hb := h.bel
  clear a h
  have hn2 : [b12, b2, b4, b6, b8, b10].Nodup := hn
  simp only [List.nodup_cons, List.mem_cons, List.not_mem_nil, or_false, not_or] at hn
  obtain ⟨⟨n1, n2, n3, n4, n5⟩, -⟩ := hn
  have hr : ∀ (g : Nat) (f : Nat → Value), b12 ≠ g → Row w g z f → Row ((((((w.setCell ⟨b12, 0, none⟩ (.int .i64 n)).setCell ⟨b12, 1, none⟩ (.slice (some ⟨b2, 0, none⟩) z z)).setCell ⟨b12, 2, none⟩ (.slice (some ⟨b4, 0, none⟩) z z)).setCell ⟨b12, 3, none⟩ (.slice (some ⟨b6, 0, none⟩) z z)).setCell ⟨b12, 4, none⟩ (.slice (some ⟨b8, 0, none⟩) z z)).setCell ⟨b12, 5, none⟩ (.slice (some ⟨b10, 0, none⟩) z z)) g z f := fun g f hg hr =>
    (((((hr.setOther (fun e => hg e.symm) _).setOther (fun e => hg e.symm) _).setOther (fun e => hg e.symm) _).setOther (fun e => hg e.symm) _).setOther (fun e => hg e.symm) _).setOther (fun e => hg e.symm) _
  have hle := a12.1
  refine ⟨hn2, ?_, ?_, hr _ _ n1 (madeI_row a2.2), hr _ _ n2 (madeI_row a4.2), hr _ _ n3 (madeI_row a6.2), hr _ _ n4 (madeI_row a8.2), hr _ _ n5 (madeI_row a10.2), ?_⟩
  · intro g hg
    simp only [List.mem_cons, List.not_mem_nil, or_false] at hg
    rcases hg with rfl | rfl | rfl | rfl | rfl | rfl
    · exact a12.1
    · exact a2.1
    · exact a4.1
    · exact a6.1
    · exact a8.1
    · exact a10.1
  · refine ((((((r0.set 0 _).set 1 _).set 2 _).set 3 _).set 4 _).set 5 _).congr fun i hi => ?_
    match i, hi with
    | 0, _ => rfl
    | 1, _ => rfl
    | 2, _ => rfl
    | 3, _ => rfl
    | 4, _ => rfl
    | 5, _ => rfl
    | k + 6, h => omega
  · exact (((((hb.setCell hle _).setCell hle _).setCell hle _).setCell hle _).setCell hle _).setCell hle _
theorem TrP.undrew {w0 w : World} {b : Blk} {n z : Nat} (h : TrP w0.drew w b n z) : TrP w0 w b n z :=
  ⟨h.nd, h.lo, h.st, h.rl, h.rr, h.rp, h.rh, h.rs, (Below.refl _ w0).drew.trans h.bel⟩
/-- the tree's rows and its sets while it is built -/
structure BdM (w0 w : World) (b : Blk) (n z : Nat) (L R P H Z : Nat → Int) (up rt : Nat → Nat) : Prop where
  tr : TrM w b n z L R P H Z up rt
  lo : ∀ g, g ∈ b.list → w0.heap.size ≤ g
  bel : Below w0.heap.size w0 w
theorem dif_of_nodup {l : List Nat} (h : l.Nodup) : Dif l := fun i j a b hi hj hij e => by
  obtain ⟨h1, e1⟩ := List.getElem?_eq_some_iff.1 hi
  obtain ⟨h2, e2⟩ := List.getElem?_eq_some_iff.1 hj
  have hp := List.pairwise_iff_getElem.1 h
  rcases Nat.lt_or_gt_of_ne hij with c | c
  · exact hp i j h1 h2 c (by rw [e1, e2]; exact e)
  · exact hp j i h2 h1 c (by rw [e1, e2]; exact e.symm)
theorem madeP_row (w : World) (n : Nat) (t : TypeId) : Row (w.alloc (.cells (madeCells #[.int .i64 0, .int .i64 0] (n * 2)) t)) w.heap.size (2 * n) (setC (fun _ => 0) (fun _ => 0)) :=
  ⟨_, _, World.alloc_heap_new w _, fun i hi => by
    have : i % 2 = 0 ∨ i % 2 = 1 := by omega
    simp only [madeCells, setC]
    rcases this with e | e <;> simp [e, show i < n * 2 by omega]⟩
theorem TrP.bdm {w0 w : World} {b : Blk} {n z : Nat} (h : TrP w0 w b n z) (t : TypeId) : BdM w0 (w.alloc (.cells (madeCells #[.int .i64 0, .int .i64 0] (n * 2)) t)) { b with u := w.heap.size } n z (fun _ => 0) (fun _ => 0) (fun _ => 0) (fun _ => 0) (fun _ => 0) (fun _ => 0) (fun _ => 0) := by
  have h1 := h.st.lt
  have h2 := h.rl.lt
  have h3 := h.rr.lt
  have h4 := h.rp.lt
  have h5 := h.rh.lt
  have h6 := h.rs.lt
  refine ⟨⟨dif_of_nodup ?_, h.st.alloc _, h.rl.alloc _, h.rr.alloc _, h.rp.alloc _, h.rh.alloc _, h.rs.alloc _, madeP_row w n t⟩, ?_, h.bel.alloc h.bel.size _⟩
  · show ([b.t, b.l, b.r, b.p, b.h, b.s] ++ [w.heap.size]).Nodup
    rw [List.nodup_append]
    refine ⟨h.nd, by simp, fun a ha c hc => ?_⟩
    obtain rfl : c = w.heap.size := by simpa using hc
    simp only [List.mem_cons, List.not_mem_nil, or_false] at ha
    rcases ha with rfl | rfl | rfl | rfl | rfl | rfl <;> omega
  · intro g hg
    have hg : g ∈ [b.t, b.l, b.r, b.p, b.h, b.s] ++ [w.heap.size] := hg
    rcases List.mem_append.1 hg with hg | hg
    · exact h.lo g hg
    · obtain rfl : g = w.heap.size := by simpa using hg
      exact h.bel.size
section
variable {w0 w w' : World} {b : Blk} {n z : Nat} {L R P H Z L' R' P' H' Z' : Nat → Int} {up rt up' rt' : Nat → Nat}
theorem BdM.drew (h : BdM w0 w b n z L R P H Z up rt) : BdM w0 w.drew b n z L R P H Z up rt := ⟨h.tr.drew, h.lo, h.bel.drew⟩
theorem BdM.congr (h : BdM w0 w b n z L R P H Z up rt) (e1 : ∀ i, i < z → L i = L' i) (e2 : ∀ i, i < z → R i = R' i) (e3 : ∀ i, i < z → P i = P' i) (e4 : ∀ i, i < z → H i = H' i) (e5 : ∀ i, i < z → Z i = Z' i) : BdM w0 w b n z L' R' P' H' Z' up rt := ⟨h.tr.congr e1 e2 e3 e4 e5, h.lo, h.bel⟩
theorem BdM.congrU (h : BdM w0 w b n z L R P H Z up rt) (e1 : ∀ i, i < n → up i = up' i) (e2 : ∀ i, i < n → rt i = rt' i) : BdM w0 w b n z L R P H Z up' rt' := ⟨h.tr.congrU e1 e2, h.lo, h.bel⟩
theorem BdM.setL (h : BdM w0 w b n z L R P H Z up rt) (x : Nat) (v : Int) : BdM w0 (w.setCell ⟨b.l, x, none⟩ (.int .i64 v)) b n z (updI L x v) R P H Z up rt := ⟨h.tr.setL x v, h.lo, h.bel.setCell (p := ⟨b.l, x, none⟩) (h.lo b.l (by simp [Blk.list])) _⟩
theorem BdM.setR (h : BdM w0 w b n z L R P H Z up rt) (x : Nat) (v : Int) : BdM w0 (w.setCell ⟨b.r, x, none⟩ (.int .i64 v)) b n z L (updI R x v) P H Z up rt := ⟨h.tr.setR x v, h.lo, h.bel.setCell (p := ⟨b.r, x, none⟩) (h.lo b.r (by simp [Blk.list])) _⟩
theorem BdM.setP (h : BdM w0 w b n z L R P H Z up rt) (x : Nat) (v : Int) : BdM w0 (w.setCell ⟨b.p, x, none⟩ (.int .i64 v)) b n z L R (updI P x v) H Z up rt := ⟨h.tr.setP x v, h.lo, h.bel.setCell (p := ⟨b.p, x, none⟩) (h.lo b.p (by simp [Blk.list])) _⟩
theorem BdM.setH (h : BdM w0 w b n z L R P H Z up rt) (x : Nat) (v : Int) : BdM w0 (w.setCell ⟨b.h, x, none⟩ (.int .i64 v)) b n z L R P (updI H x v) Z up rt := ⟨h.tr.setH x v, h.lo, h.bel.setCell (p := ⟨b.h, x, none⟩) (h.lo b.h (by simp [Blk.list])) _⟩
theorem BdM.setS (h : BdM w0 w b n z L R P H Z up rt) (x : Nat) (v : Int) : BdM w0 (w.setCell ⟨b.s, x, none⟩ (.int .i64 v)) b n z L R P H (updI Z x v) up rt := ⟨h.tr.setS x v, h.lo, h.bel.setCell (p := ⟨b.s, x, none⟩) (h.lo b.s (by simp [Blk.list])) _⟩
theorem BdM.setUp (h : BdM w0 w b n z L R P H Z up rt) (x v : Nat) : BdM w0 (w.setCell ⟨b.u, x * 2, none⟩ (.int .i64 (v : Nat))) b n z L R P H Z (fun i => if i = x then v else up i) rt := ⟨h.tr.setUp x v, h.lo, h.bel.setCell (p := ⟨b.u, x * 2, none⟩) (h.lo b.u (by simp [Blk.list])) _⟩
theorem BdM.setRt (h : BdM w0 w b n z L R P H Z up rt) (x v : Nat) : BdM w0 (w.setCell ⟨b.u, x * 2 + 1, none⟩ (.int .i64 (v : Nat))) b n z L R P H Z up (fun i => if i = x then v else rt i) := ⟨h.tr.setRt x v, h.lo, h.bel.setCell (p := ⟨b.u, x * 2 + 1, none⟩) (h.lo b.u (by simp [Blk.list])) _⟩
theorem BdM.turnU (h : BdM w0 w b n z L R P H Z up rt) (hi : Inner ⟨b.u, b.u + 1⟩ w w') (hr : Row w' b.u (2 * n) (setC up' rt')) : BdM w0 w' b n z L R P H Z up' rt' := ⟨h.tr.turnU hi hr, h.lo, h.bel.trans (hi.bel.mono (h.lo b.u (by simp [Blk.list])))⟩
end
theorem updI_ne {f : Nat → Int} {x y : Nat} {v : Int} (h : y ≠ x) : updI f x v y = f y := if_neg h
theorem BdM.cellS {w0 w : World} {b : Blk} {n z : Nat} {L R P H Z : Nat → Int} {up rt : Nat → Nat} (h : BdM w0 w b n z L R P H Z up rt) {x : Nat} (hx : x < z) : w.cell? ⟨b.s, x, none⟩ = some (.int .i64 (Z x)) := h.tr.rs.cell hx
theorem intsN_cell {w : World} {B m cap : Nat} {a : Option Addr} {l : List Nat} {A : Nat → Addr} (h : Rd 46 1 w B (.slice a m cap) m (nums .i64 (intsN l)) A) {i : Nat} (hi : i < m) : w.cell? (A i) = some (.int .i64 ((l.getD i 0 : Nat) : Int)) := by
  have := h.cell i hi 0 (by omega)
  rw [add_zero, nums, intsN_nth] at this
  exact this
/-- what the first rounds have laid -/
def mk1 (k y : Nat) : Int := if y < k then -1 else 0
def mkZ (k y : Nat) : Int := if y < k then 1 else 0
def mkU (k y : Nat) : Nat := if y < k then y else 0
theorem mk1_zero : (fun _ => 0) = mk1 0 := by funext y; unfold mk1; rw [if_neg (by omega)]
theorem mkZ_zero : (fun _ => 0) = mkZ 0 := by funext y; unfold mkZ; rw [if_neg (by omega)]
theorem mkU_zero : (fun _ => 0) = mkU 0 := by funext y; unfold mkU; rw [if_neg (by omega)]
theorem mk1_step (k : Nat) : updI (mk1 k) k (-1) = mk1 (k + 1) := by
  funext y; unfold updI mk1
  by_cases h : y = k
  · rw [if_pos h, if_pos (by omega)]
  · rw [if_neg h]; by_cases h2 : y < k
    · rw [if_pos h2, if_pos (by omega)]
    · rw [if_neg h2, if_neg (by omega)]
theorem mkZ_step (k : Nat) : updI (mkZ k) k 1 = mkZ (k + 1) := by
  funext y; unfold updI mkZ
  by_cases h : y = k
  · rw [if_pos h, if_pos (by omega)]
  · rw [if_neg h]; by_cases h2 : y < k
    · rw [if_pos h2, if_pos (by omega)]
    · rw [if_neg h2, if_neg (by omega)]
theorem mkU_step (k : Nat) : (fun y => if y = k then k else mkU k y) = mkU (k + 1) := by
  funext y; unfold mkU
  by_cases h : y = k
  · rw [if_pos h, if_pos (by omega), h]
  · rw [if_neg h]; by_cases h2 : y < k
    · rw [if_pos h2, if_pos (by omega)]
    · rw [if_neg h2, if_neg (by omega)]
set_option maxRecDepth 100000 in
set_option maxHeartbeats 1000000 in
theorem rbuild_any (B : Nat) (a : Option Addr) (cap : Nat) (A : Nat → Addr) (n : Int) (E : List Ed) (w : World) (hS : ES w B (.slice a E.length cap) E A) (hB : B ≤ w.heap.size) (hm : E.length ≤ 9223372036854775807) :
    Calls Tryz.prog 15 #[.int .i64 n, .slice a E.length cap] w (BldRes n E w) := by
  have HA := Lib.hid (show Below w.heap.size w (w.alloc (.cells trZero 57)) from (Below.refl _ _).alloc (Nat.le_refl _) _)
  have hZ : Row (w.alloc (.cells trZero 57)) w.heap.size 6 (fun i => trZero.getD i undef) := Row.lit w _ _ (by simp [trZero]) fun i hi => by
    match i, hi with
    | 0, _ => rfl
    | 1, _ => rfl
    | 2, _ => rfl
    | 3, _ => rfl
    | 4, _ => rfl
    | 5, _ => rfl
    | k + 6, h => omega
  have HZ := Lib.hid hZ
  have HS := Lib.hid ((hS.mono hB).below HA.out)
  have HF := Lib.hid (forest_any w.heap.size a cap A n E (w.alloc (.cells trZero 57)) HS.out (by simp) hm)
  clear hZ hS hm
  unfold trZero at HF HA HZ
  go_enter Tryz.func15, Tryz.ntmps15
  go_wp2_with fail
  have hsz1 : (w.alloc (.cells #[.int .i64 0, .slice none 0 0, .slice none 0 0, .slice none 0 0, .slice none 0 0, .slice none 0 0] 57)).heap.size = w.heap.size + 1 := by simp
  unfold trZero at HS
  have HSz := Lib.hid (show w.heap.size < (w.alloc (.cells #[.int .i64 0, .slice none 0 0, .slice none 0 0, .slice none 0 0, .slice none 0 0, .slice none 0 0] 57)).heap.size by omega)
  clear hsz1
  generalize (w.alloc (.cells #[.int .i64 0, .slice none 0 0, .slice none 0 0, .slice none 0 0, .slice none 0 0, .slice none 0 0] 57)) = wa at *
  refine HF.out.mono ?_
  clear HF
  rintro e w1 ⟨b1, ⟨he, rfl⟩ | ⟨he, o, v, ho, rfl, hv⟩⟩
  · have HZ1 := Lib.hid (HZ.out.below b1 HSz.out)
    have HB1 := Lib.hid (HA.out.trans (b1.mono HA.out.size))
    obtain ⟨x, hx⟩ : ∃ x, gErr n E = x := ⟨_, rfl⟩
    rw [hx] at he ⊢
    have hne : (x != 0) = true := by simpa using he
    have HE := Lib.hid (And.intro he hx)
    have z0 := HZ1.out.cell (i := 0) (by omega)
    have z1 := HZ1.out.cell (i := 1) (by omega)
    have z2 := HZ1.out.cell (i := 2) (by omega)
    have z3 := HZ1.out.cell (i := 3) (by omega)
    have z4 := HZ1.out.cell (i := 4) (by omega)
    have z5 := HZ1.out.cell (i := 5) (by omega)
    have fz := fun i => HZ1.out.frozen i
    clear he hx b1 HZ HS HA
    have H3 := Lib.hid ((((((HZ1.out.set 0 (.int .i64 0)).set 1 (.slice none 0 0)).set 2 (.slice none 0 0)).set 3 (.slice none 0 0)).set 4 (.slice none 0 0)).set 5 (.slice none 0 0))
    have HB3 := Lib.hid ((((((HB1.out.setCell (p := ⟨w.heap.size, 0, none⟩) (Nat.le_refl _) (.int .i64 0)).setCell (p := ⟨w.heap.size, 1, none⟩) (Nat.le_refl _) (.slice none 0 0)).setCell (p := ⟨w.heap.size, 2, none⟩) (Nat.le_refl _) (.slice none 0 0)).setCell (p := ⟨w.heap.size, 3, none⟩) (Nat.le_refl _) (.slice none 0 0)).setCell (p := ⟨w.heap.size, 4, none⟩) (Nat.le_refl _) (.slice none 0 0)).setCell (p := ⟨w.heap.size, 5, none⟩) (Nat.le_refl _) (.slice none 0 0))
    go_wp2_with fail
    generalize (((((w1.setCell ⟨w.heap.size, 0, none⟩ (.int .i64 0)).setCell ⟨w.heap.size, 1, none⟩ (.slice none 0 0)).setCell ⟨w.heap.size, 2, none⟩ (.slice none 0 0)).setCell ⟨w.heap.size, 3, none⟩ (.slice none 0 0)).setCell ⟨w.heap.size, 4, none⟩ (.slice none 0 0)).setCell ⟨w.heap.size, 5, none⟩ (.slice none 0 0) = wz at *
    have s0 := H3.out.cell (i := 0) (by omega)
    have s1 := H3.out.cell (i := 1) (by omega)
    have s2 := H3.out.cell (i := 2) (by omega)
    have s3 := H3.out.cell (i := 3) (by omega)
    have s4 := H3.out.cell (i := 4) (by omega)
    have s5 := H3.out.cell (i := 5) (by omega)
    refine bodyPost_ret (v := .tuple #[.agg trZero, .int .i64 x]) (by simp [results, Tryz.results15, go_sem, s0, s1, s2, s3, s4, s5, trZero]) rfl ?_
    exact ⟨HB3.out, .inl ⟨by rw [HE.out.2]; exact HE.out.1, by rw [HE.out.2]⟩⟩
  · obtain ⟨k, rfl, G⟩ := gErr_zero he
    have hF := frs_fo G ho
    have hkn := G.n_le
    have HS := Lib.hid (HS.out.below (b1.mono (Nat.le_of_lt HSz.out)))
    have HZ := Lib.hid (HZ.out.below b1 HSz.out)
    have HB := Lib.hid (HA.out.trans (b1.mono HA.out.size))
    have HG := Lib.hid G; have HO := Lib.hid ho
    obtain ⟨f, hf⟩ : ∃ f, frs E o = f := ⟨_, rfl⟩
    rw [hf] at hv hF
    obtain ⟨fa, fc, fA, rfl, hv⟩ := ownI_rd hv
    have hfl := hF.len_le
    have HFo := Lib.hid hF; have Hf := Lib.hid hf
    obtain ⟨m, hfm⟩ : ∃ m, f.length = m := ⟨_, rfl⟩
    rw [hfm] at hv hfl ⊢
    have HV := Lib.hid hv
    have Hfm := Lib.hid hfm
    obtain ⟨z, hz⟩ : ∃ z : Nat, k + m = z := ⟨_, rfl⟩
    have hwz : (k : Int) + (m : Int) = (z : Int) := by omega
    have HSz1 := Lib.hid (Nat.lt_of_lt_of_le HSz.out b1.size)
    have Hz := Lib.hid hz
    clear hf hF he ho G hv hfm HSz HA b1 hz
    go_upto_region 5 with (fail)
    clear hwz
    have hz2 : z ≤ 8192 := by have := Hz.out; omega
    have hmk : ∀ w, (Instr.makeSlice 46 (.int .i64 (z : Nat)) (.int .i64 (z : Nat))).run Tryz.prog w = .ok (.slice (some ⟨w.heap.size, 0, none⟩) z z) (w.alloc (.cells (madeCells #[.int .i64 0] z) 3)) := fun w =>
      run_make_row' (P := Tryz.prog) 46 3 (.int .i64 0) 8 Tryz.underlying46 Tryz.infoI rfl .i64 .i64 z (by omega) (by omega) w
    have hmk2 : ∀ w, (Instr.makeSlice 55 (.int .i64 (z : Nat)) (.int .i64 (z : Nat))).run Tryz.prog w = .ok (.slice (some ⟨w.heap.size, 0, none⟩) z z) (w.alloc (.cells (madeCells #[.int .i64 0] z) 2)) := fun w =>
      run_make_row' (P := Tryz.prog) 55 2 (.int .i64 0) 8 Tryz.underlying55 Tryz.infoI64 rfl .i64 .i64 z (by omega) (by omega) w
    go_cut [9] (fun s9 wx => ∃ b : Blk, s9 = .pointer (some ⟨b.t, 0, none⟩) ∧ TrP w1 wx b k z)
    case first =>
      have HS : True := trivial
      refine region_plain (fun _ => True) (by kernel_rfl) ?_
      refine take_at (i := 0) (d := 34) (v := ?_) rfl rfl (by kernel_rfl) (by kernel_rfl) (by kernel_rfl) (fun _ _ _ _ => NormalOnly.any) rfl ?hy1 HS ?rest1
      case hy1 => intro w' hSw; (try dsimp only at hSw); go_simp; try (with_reducible rfl)
      try simp only [List.setIfInBounds_toArray, List.set_cons_zero, List.set_cons_succ]
      refine take_at (i := 1) (d := 35) (v := ?_) rfl rfl (by kernel_rfl) (by kernel_rfl) (by kernel_rfl) (fun _ _ _ _ => NormalOnly.any) rfl ?hy2 HS ?rest2
      case hy2 => intro w' hSw; (try dsimp only at hSw); go_simp; try (with_reducible rfl)
      try simp only [List.setIfInBounds_toArray, List.set_cons_zero, List.set_cons_succ]
      refine take_at (i := 3) (d := 37) (v := ?_) rfl rfl (by kernel_rfl) (by kernel_rfl) (by kernel_rfl) (fun _ _ _ _ => NormalOnly.any) rfl ?hy3 HS ?rest3
      case hy3 => intro w' hSw; (try dsimp only at hSw); go_simp; try (with_reducible rfl)
      try simp only [List.setIfInBounds_toArray, List.set_cons_zero, List.set_cons_succ]
      refine take_at (i := 5) (d := 39) (v := ?_) rfl rfl (by kernel_rfl) (by kernel_rfl) (by kernel_rfl) (fun _ _ _ _ => NormalOnly.any) rfl ?hy4 HS ?rest4
      case hy4 => intro w' hSw; (try dsimp only at hSw); go_simp; try (with_reducible rfl)
      try simp only [List.setIfInBounds_toArray, List.set_cons_zero, List.set_cons_succ]
      refine take_at (i := 7) (d := 41) (v := ?_) rfl rfl (by kernel_rfl) (by kernel_rfl) (by kernel_rfl) (fun _ _ _ _ => NormalOnly.any) rfl ?hy5 HS ?rest5
      case hy5 => intro w' hSw; (try dsimp only at hSw); go_simp; try (with_reducible rfl)
      try simp only [List.setIfInBounds_toArray, List.set_cons_zero, List.set_cons_succ]
      refine take_at (i := 9) (d := 43) (v := ?_) rfl rfl (by kernel_rfl) (by kernel_rfl) (by kernel_rfl) (fun _ _ _ _ => NormalOnly.any) rfl ?hy6 HS ?rest6
      case hy6 => intro w' hSw; (try dsimp only at hSw); go_simp; try (with_reducible rfl)
      try simp only [List.setIfInBounds_toArray, List.set_cons_zero, List.set_cons_succ]
      refine makes_any (fuel := 2) [mI 2 36 z, mI 4 38 z, mI 6 40 z, mH 8 42 z, mI 10 44 z, mT 12 9] [[2, 4, 6, 8, 10, 12], [2, 4, 6, 8, 10]] _ _ _ _ (by simp [mI, mH, mT]) (by simp [mI, mH, mT]) (by kernel_rfl) ?_ (fun _ _ _ => trivial) trivial ?_
      · intro x hx T w2 K hT hK
        simp only [List.mem_cons, List.not_mem_nil, or_false] at hx
        have hT35 := hT 35 (by simp [mI, mH, mT])
        have hT37 := hT 37 (by simp [mI, mH, mT])
        have hT39 := hT 39 (by simp [mI, mH, mT])
        have hT41 := hT 41 (by simp [mI, mH, mT])
        have hT43 := hT 43 (by simp [mI, mH, mT])
        clear hT
        simp only [List.getElem?_toArray, List.getElem?_cons_succ, List.getElem?_cons_zero] at hT35 hT37 hT39 hT41 hT43
        have e35 : T.getD 35 undef = .int .i64 (z : Nat) := by simp [Array.getD_eq_getD_getElem?, hT35]
        have e37 : T.getD 37 undef = .int .i64 (z : Nat) := by simp [Array.getD_eq_getD_getElem?, hT37]
        have e39 : T.getD 39 undef = .int .i64 (z : Nat) := by simp [Array.getD_eq_getD_getElem?, hT39]
        have e41 : T.getD 41 undef = .int .i64 (z : Nat) := by simp [Array.getD_eq_getD_getElem?, hT41]
        have e43 : T.getD 43 undef = .int .i64 (z : Nat) := by simp [Array.getD_eq_getD_getElem?, hT43]
        clear hT35 hT37 hT39 hT41 hT43
        rcases hx with rfl | rfl | rfl | rfl | rfl | rfl
        · refine op_mkslice (d := 36) rfl rfl rfl rfl ?_ hK
          show (Instr.makeSlice _ (T.getD 35 undef) (T.getD 35 undef)).run _ _ = _
          rw [e35]; exact hmk w2
        · refine op_mkslice (d := 38) rfl rfl rfl rfl ?_ hK
          show (Instr.makeSlice _ (T.getD 37 undef) (T.getD 37 undef)).run _ _ = _
          rw [e37]; exact hmk w2
        · refine op_mkslice (d := 40) rfl rfl rfl rfl ?_ hK
          show (Instr.makeSlice _ (T.getD 39 undef) (T.getD 39 undef)).run _ _ = _
          rw [e39]; exact hmk w2
        · refine op_mkslice (d := 42) rfl rfl rfl rfl ?_ hK
          show (Instr.makeSlice _ (T.getD 41 undef) (T.getD 41 undef)).run _ _ = _
          rw [e41]; exact hmk2 w2
        · refine op_mkslice (d := 44) rfl rfl rfl rfl ?_ hK
          show (Instr.makeSlice _ (T.getD 43 undef) (T.getD 43 undef)).run _ _ = _
          rw [e43]; exact hmk w2
        · refine op_mkvar (d := 9) rfl rfl rfl rfl ?_ hK
          go_simp
          exact ⟨rfl, rfl⟩
      · intro s hs blk w2 hL _
        simp only [List.mem_cons, List.not_mem_nil, or_false] at hs
        rcases hs with rfl | rfl
        · replace hL : Laid _ w2 [mI 2 36 z, mI 4 38 z, mI 6 40 z, mH 8 42 z, mI 10 44 z, mT 12 9] blk := hL
          change wpAnyH _ _ _ _ _ 2 _ { tmps := tmd blk _ [mI 2 36 z, mI 4 38 z, mI 6 40 z, mH 8 42 z, mI 10 44 z, mT 12 9], defers := _ } _
          simp only [lsI, tmd, List.foldl_cons, List.foldl_nil, List.setIfInBounds_toArray, List.set_cons_zero, List.set_cons_succ, mI, mH, mT]
          refine take_at (i := 11) (d := 45) (v := ?_) rfl rfl (by kernel_rfl) (by kernel_rfl) (by kernel_rfl) (fun _ _ _ _ => NormalOnly.any) rfl ?hy7 HS ?rest7
          case hy7 => intro w' hSw; (try dsimp only at hSw); go_simp; try (with_reducible rfl)
          try simp only [List.setIfInBounds_toArray, List.set_cons_zero, List.set_cons_succ]
          have r0 := hL.row12 (by simp) rfl
          have c0 := r0.cell (i := 0) (by omega)
          have c1 := r0.cell (i := 1) (by omega)
          have c2 := r0.cell (i := 2) (by omega)
          have c3 := r0.cell (i := 3) (by omega)
          have c4 := r0.cell (i := 4) (by omega)
          have c5 := r0.cell (i := 5) (by omega)
          have fz := fun i => r0.frozen i
          have HP := Lib.hid (hL.trp (n := k) rfl rfl rfl rfl rfl rfl rfl).undrew
          clear hL r0
          refine wpAnyH_ready (rs := [13]) (by kernel_rfl) (by simp) ?_
          refine AllReadyH.cons rfl (fun K hK => ?_) AllReadyH.nil
          go_simp
          refine hK.out _ _ trivial (fun _ => ?_)
          clear hK
          refine wpAnyH_done (by kernel_rfl) ⟨rfl, ?_⟩ _
          go_wp2_with fail
          go_meet
          exact ⟨_, rfl, HP.out⟩
        · replace hL : Laid _ w2 [mI 2 36 z, mI 4 38 z, mI 6 40 z, mH 8 42 z, mI 10 44 z] blk := hL
          change wpAnyH _ _ _ _ _ 3 _ { tmps := tmd blk _ [mI 2 36 z, mI 4 38 z, mI 6 40 z, mH 8 42 z, mI 10 44 z], defers := _ } _
          simp only [lsI, tmd, List.foldl_cons, List.foldl_nil, List.setIfInBounds_toArray, List.set_cons_zero, List.set_cons_succ, mI, mH]
          refine take_at (i := 11) (d := 45) (v := ?_) rfl rfl (by kernel_rfl) (by kernel_rfl) (by kernel_rfl) (fun _ _ _ _ => NormalOnly.any) rfl ?hy8 HS ?rest8
          case hy8 => intro w' hSw; (try dsimp only at hSw); go_simp; try (with_reducible rfl)
          try simp only [List.setIfInBounds_toArray, List.set_cons_zero, List.set_cons_succ]
          have hL := hL.step (mT 12 9) (fun x hx => by
            simp only [List.mem_cons, List.not_mem_nil, or_false] at hx
            rcases hx with rfl | rfl | rfl | rfl | rfl <;> simp [mI, mH, mT])
          have r0 := hL.row12 (by simp) (if_pos rfl)
          have HP := Lib.hid (hL.trp (n := k) rfl (if_neg (by simp [mT])) (if_neg (by simp [mT])) (if_neg (by simp [mT])) (if_neg (by simp [mT])) (if_neg (by simp [mT])) (if_pos rfl)).undrew
          have c0 := r0.cell (i := 0) (by omega)
          have c1 := r0.cell (i := 1) (by omega)
          have c2 := r0.cell (i := 2) (by omega)
          have c3 := r0.cell (i := 3) (by omega)
          have c4 := r0.cell (i := 4) (by omega)
          have c5 := r0.cell (i := 5) (by omega)
          have fz := fun i => r0.frozen i
          clear hL r0
          obtain ⟨w3, hw3⟩ : ∃ x, w2.alloc (.cells #[.int .i64 0, .slice none 0 0, .slice none 0 0, .slice none 0 0, .slice none 0 0, .slice none 0 0] 57) = x := ⟨_, rfl⟩
          have hw4 : w2.alloc (mT 12 9).obj = w3 := hw3
          rw [hw4] at HP c0 c1 c2 c3 c4 c5
          have fz : ∀ i, w3.frozen? ⟨w2.heap.size, i, none⟩ = false := fun i => by rw [← hw4]; exact fz i
          refine wpAnyH_ready (rs := [12]) (by kernel_rfl) (by simp) ?_
          refine AllReadyH.cons rfl (fun K hK => ?_) AllReadyH.nil
          have HW3 := Lib.hid hw3
          clear hw3 hw4
          go_simp
          refine hK.out _ _ trivial (fun _ => ?_)
          clear hK
          rw [HW3.out]
          clear HW3
          (try simp only [List.setIfInBounds_toArray, List.set_cons_zero, List.set_cons_succ])
          refine wpAnyH_ready (rs := [13]) (by kernel_rfl) (by simp) ?_
          refine AllReadyH.cons rfl (fun K hK => ?_) AllReadyH.nil
          go_simp
          refine hK.out _ _ trivial (fun _ => ?_)
          clear hK
          refine wpAnyH_done (by kernel_rfl) ⟨rfl, ?_⟩ _
          go_wp2_with fail
          go_meet
          exact ⟨_, rfl, HP.out⟩
    case rest =>
      clear hmk hmk2
      obtain ⟨b, rfl, hP⟩ := hcut
      have HEd := Lib.hid (HS.out.mono (Nat.le_of_lt HSz1.out))
      clear HS
      have hmk3 : (Instr.makeSlice 90 (.int .i64 (k : Nat)) (.int .i64 (k : Nat))).run Tryz.prog wc = .ok (.slice (some ⟨wc.heap.size, 0, none⟩) k k) (wc.alloc (.cells (madeCells #[.int .i64 0, .int .i64 0] (k * 2)) 91)) := by
        obtain ⟨i, hi, h0, h1, h2⟩ := info_parts Tryz.infoP2
        have := run_make (P := Tryz.prog) wc 90 91 i _ Tryz.underlying90 hi h0 .i64 .i64 (k : Int) (k : Int) (by omega) (Int.le_refl _) (by rw [h2]; omega) (by omega)
        rw [h1] at this
        simpa [Value.cells] using this
      have HM := Lib.hid (hP.bdm 91)
      obtain ⟨b2, hb2⟩ : ∃ x : Blk, { b with u := wc.heap.size } = x := ⟨_, rfl⟩
      have e1 : b.t = b2.t := by rw [← hb2]
      have e2 : wc.heap.size = b2.u := by rw [← hb2]
      rw [hb2] at HM
      rw [e2] at hmk3
      rw [e1]
      have HE2 := Lib.hid e2
      clear hP hb2 e1 e2
      generalize b2 = b at *
      go_upto_region 7 with (fail)
      clear hmk3
      generalize wc.alloc (.cells (madeCells #[.int .i64 0, .int .i64 0] (k * 2)) 91) = W2 at *
      clear HE2
      rw [show (fun _ : Nat => (0 : Int)) = stH E f k 0 from by funext y; exact stH_zero.symm] at HM
      have HM := Lib.hid (show BdM w1 W2 b k z (mk1 0) (mk1 0) (mk1 0) (stH E f k 0) (mkZ 0) (mkU 0) (mkU 0) by
        rw [← mk1_zero, ← mkZ_zero, ← mkU_zero]
        have := HM.out
        rw [show stH E f k 0 = (fun _ : Nat => (0 : Int)) from by funext y; exact stH_zero] at this ⊢
        exact this)
      go_wp2_with fail
      go_loopw [49] (fun iv wr => ∃ x : Nat, x ≤ z ∧ iv = .int .i64 (x : Nat) ∧ Hid (BdM w1 wr b k z (mk1 x) (mk1 x) (mk1 x) (stH E f k 0) (mkZ 0) (mkU 0) (mkU 0))) (fun iv _ => z - (intOf iv).toNat)
      case atStart => exact ⟨0, Nat.zero_le _, rfl, HM⟩
      case round =>
        clear HM
        obtain ⟨x, hx, rfl, HM⟩ := hrel
        by_cases hlt : x < z
        · have hxi : (0 : Int) ≤ x ∧ (x : Int) < z := by omega
          go_wp2_with fail
          replace HM := Lib.hid HM.out.drew
          have HS : wr.drew.cell? ⟨b.t, 1, none⟩ = some (.slice (some ⟨b.l, 0, none⟩) z z) ∧ wr.drew.cell? ⟨b.t, 2, none⟩ = some (.slice (some ⟨b.r, 0, none⟩) z z) ∧ wr.drew.cell? ⟨b.t, 3, none⟩ = some (.slice (some ⟨b.p, 0, none⟩) z z) := ⟨HM.out.tr.fields.1, HM.out.tr.fields.2.1, HM.out.tr.fields.2.2.1⟩
          refine region_plain (fun w' => w'.cell? ⟨b.t, 1, none⟩ = some (.slice (some ⟨b.l, 0, none⟩) z z) ∧ w'.cell? ⟨b.t, 2, none⟩ = some (.slice (some ⟨b.r, 0, none⟩) z z) ∧ w'.cell? ⟨b.t, 3, none⟩ = some (.slice (some ⟨b.p, 0, none⟩) z z)) (by kernel_rfl) ?_
          generalize wr.drew = v0 at *
          refine take_at (i := 0) (d := 52) (v := ?_) rfl rfl (by kernel_rfl) (by kernel_rfl) (by kernel_rfl) (fun _ _ _ _ => NormalOnly.any) rfl ?hy9 HS ?rest9
          case hy9 => intro w' hSw; (try dsimp only at hSw); go_simp; try (with_reducible rfl)
          try simp only [List.setIfInBounds_toArray, List.set_cons_zero, List.set_cons_succ]
          refine take_at (i := 1) (d := 53) (v := ?_) rfl rfl (by kernel_rfl) (by kernel_rfl) (by kernel_rfl) (fun _ _ _ _ => NormalOnly.any) rfl ?hy10 HS ?rest10
          case hy10 => intro w' hSw; (try dsimp only at hSw); go_simp; try (with_reducible rfl)
          try simp only [List.setIfInBounds_toArray, List.set_cons_zero, List.set_cons_succ]
          refine take_at (i := 2) (d := 54) (v := ?_) rfl rfl (by kernel_rfl) (by kernel_rfl) (by kernel_rfl) (fun _ _ _ _ => NormalOnly.any) rfl ?hy11 HS ?rest11
          case hy11 => intro w' hSw; (try dsimp only at hSw); go_simp; try (with_reducible rfl)
          try simp only [List.setIfInBounds_toArray, List.set_cons_zero, List.set_cons_succ]
          refine take_at (i := 3) (d := 55) (v := ?_) rfl rfl (by kernel_rfl) (by kernel_rfl) (by kernel_rfl) (fun _ _ _ _ => NormalOnly.any) rfl ?hy12 HS ?rest12
          case hy12 => intro w' hSw; (try dsimp only at hSw); go_simp; try (with_reducible rfl)
          try simp only [List.setIfInBounds_toArray, List.set_cons_zero, List.set_cons_succ]
          refine take_at (i := 4) (d := 56) (v := ?_) rfl rfl (by kernel_rfl) (by kernel_rfl) (by kernel_rfl) (fun _ _ _ _ => NormalOnly.any) rfl ?hy13 HS ?rest13
          case hy13 => intro w' hSw; (try dsimp only at hSw); go_simp; try (with_reducible rfl)
          try simp only [List.setIfInBounds_toArray, List.set_cons_zero, List.set_cons_succ]
          refine take_at (i := 5) (d := 57) (v := ?_) rfl rfl (by kernel_rfl) (by kernel_rfl) (by kernel_rfl) (fun _ _ _ _ => NormalOnly.any) rfl ?hy14 HS ?rest14
          case hy14 => intro w' hSw; (try dsimp only at hSw); go_simp; try (with_reducible rfl)
          try simp only [List.setIfInBounds_toArray, List.set_cons_zero, List.set_cons_succ]
          refine take_at (i := 6) (d := 58) (v := ?_) rfl rfl (by kernel_rfl) (by kernel_rfl) (by kernel_rfl) (fun _ _ _ _ => NormalOnly.any) rfl ?hy15 HS ?rest15
          case hy15 => intro w' hSw; (try dsimp only at hSw); go_simp; try (with_reducible rfl)
          try simp only [List.setIfInBounds_toArray, List.set_cons_zero, List.set_cons_succ]
          refine take_at (i := 7) (d := 59) (v := ?_) rfl rfl (by kernel_rfl) (by kernel_rfl) (by kernel_rfl) (fun _ _ _ _ => NormalOnly.any) rfl ?hy16 HS ?rest16
          case hy16 => intro w' hSw; (try dsimp only at hSw); go_simp; try (with_reducible rfl)
          try simp only [List.setIfInBounds_toArray, List.set_cons_zero, List.set_cons_succ]
          refine take_at (i := 8) (d := 60) (v := ?_) rfl rfl (by kernel_rfl) (by kernel_rfl) (by kernel_rfl) (fun _ _ _ _ => NormalOnly.any) rfl ?hy17 HS ?rest17
          case hy17 => intro w' hSw; (try dsimp only at hSw); go_simp; try (with_reducible rfl)
          try simp only [List.setIfInBounds_toArray, List.set_cons_zero, List.set_cons_succ]
          refine take_at (i := 9) (d := 61) (v := ?_) rfl rfl (by kernel_rfl) (by kernel_rfl) (by kernel_rfl) (fun _ _ _ _ => NormalOnly.any) rfl ?hy18 HS ?rest18
          case hy18 => intro w' hSw; (try dsimp only at hSw); go_simp; try (with_reducible rfl)
          try simp only [List.setIfInBounds_toArray, List.set_cons_zero, List.set_cons_succ]
          have cs := HM.out.tr.rl.cell hlt
          have fs := HM.out.tr.rl.frozen x
          refine wpAnyH_ready (rs := [10]) (by kernel_rfl) (by simp) ?_
          refine AllReadyH.cons rfl (fun K hK => ?_) AllReadyH.nil
          replace HM := Lib.hid (HM.out.setL x (-1))
          go_simp
          refine hK.out _ _ ⟨HM.out.tr.fields.1, HM.out.tr.fields.2.1, HM.out.tr.fields.2.2.1⟩ (fun HS => ?_)
          clear hK cs fs
          generalize v0.setCell ⟨b.l, x, none⟩ (.int .i64 (-1)) = v1 at *
          refine take_at (i := 11) (d := 62) (v := ?_) rfl rfl (by kernel_rfl) (by kernel_rfl) (by kernel_rfl) (fun _ _ _ _ => NormalOnly.any) rfl ?hy19 HS ?rest19
          case hy19 => intro w' hSw; (try dsimp only at hSw); go_simp; try (with_reducible rfl)
          try simp only [List.setIfInBounds_toArray, List.set_cons_zero, List.set_cons_succ]
          have cs := HM.out.tr.rr.cell hlt
          have fs := HM.out.tr.rr.frozen x
          refine wpAnyH_ready (rs := [12]) (by kernel_rfl) (by simp) ?_
          refine AllReadyH.cons rfl (fun K hK => ?_) AllReadyH.nil
          replace HM := Lib.hid (HM.out.setR x (-1))
          go_simp
          refine hK.out _ _ ⟨HM.out.tr.fields.1, HM.out.tr.fields.2.1, HM.out.tr.fields.2.2.1⟩ (fun HS => ?_)
          clear hK cs fs
          generalize v1.setCell ⟨b.r, x, none⟩ (.int .i64 (-1)) = v2 at *
          refine take_at (i := 13) (d := 63) (v := ?_) rfl rfl (by kernel_rfl) (by kernel_rfl) (by kernel_rfl) (fun _ _ _ _ => NormalOnly.any) rfl ?hy20 HS ?rest20
          case hy20 => intro w' hSw; (try dsimp only at hSw); go_simp; try (with_reducible rfl)
          try simp only [List.setIfInBounds_toArray, List.set_cons_zero, List.set_cons_succ]
          have cs := HM.out.tr.rp.cell hlt
          have fs := HM.out.tr.rp.frozen x
          refine wpAnyH_ready (rs := [14]) (by kernel_rfl) (by simp) ?_
          refine AllReadyH.cons rfl (fun K hK => ?_) AllReadyH.nil
          replace HM := Lib.hid (HM.out.setP x (-1))
          go_simp
          refine hK.out _ _ ⟨HM.out.tr.fields.1, HM.out.tr.fields.2.1, HM.out.tr.fields.2.2.1⟩ (fun HS => ?_)
          clear hK cs fs
          generalize v2.setCell ⟨b.p, x, none⟩ (.int .i64 (-1)) = v3 at *
          refine wpAnyH_done (by kernel_rfl) ⟨rfl, ?_⟩ _
          clear HS
          replace HM := Lib.hid (show BdM w1 v3 b k z (mk1 (x + 1)) (mk1 (x + 1)) (mk1 (x + 1)) (stH E f k 0) (mkZ 0) (mkU 0) (mkU 0) by rw [← mk1_step]; exact HM.out)
          go_wp2_with fail
          go_roundw
          case rel => exact ⟨x + 1, by omega, by go_num, HM⟩
          case measure => simp only [intOf]; omega
        · obtain rfl : z = x := by omega
          replace HM := Lib.hid (HM.out.congr (L' := stL E f k 0) (R' := stR E f k 0) (P' := stP E f k 0) (H' := stH E f k 0) (Z' := mkZ 0) (fun i hi => by unfold mk1; rw [if_pos hi, stL_zero]) (fun i hi => by unfold mk1; rw [if_pos hi, stR_zero]) (fun i hi => by unfold mk1; rw [if_pos hi, stP_zero]) (fun _ _ => rfl) (fun _ _ => rfl))
          go_wp2_with fail
          have hkz : k ≤ z := by have := Hz.out; omega
          go_loopw [66] (fun iv wr => ∃ y : Nat, y ≤ k ∧ iv = .int .i64 (y : Nat) ∧ Hid (BdM w1 wr b k z (stL E f k 0) (stR E f k 0) (stP E f k 0) (stH E f k 0) (mkZ y) (mkU y) (mkU y))) (fun iv _ => k - (intOf iv).toNat)
          case atStart => exact ⟨0, Nat.zero_le _, rfl, HM⟩
          case round =>
            clear HM
            obtain ⟨y, hy, rfl, HM⟩ := hrel
            by_cases hlt2 : y < k
            · have hyi : (0 : Int) ≤ y ∧ (y : Int) < k := by omega
              have hyx : (y : Int) < z := by omega
              have hyxn : y < z := by omega
              have c0 := HM.out.tr.fields.2.2.2.2
              have M1 := HM.out.setS y 1
              have M2 := M1.setUp y y
              have M3 := M2.setRt y y
              have c1 := HM.out.tr.rs.cell hyxn
              have f1 := HM.out.tr.rs.frozen y
              have c2 := setC_cell M1.tr.ru hlt2
              have f2 := M1.tr.ru.frozen (y * 2)
              have c3 := setC_cell1 M2.tr.ru hlt2
              have f3 := M2.tr.ru.frozen (y * 2 + 1)
              have c4 := setC_cell1 M1.tr.ru hlt2
              have f4 := M1.tr.ru.frozen (y * 2 + 1)
              replace HM := Lib.hid M3
              clear M1 M2 M3
              go_wp2_with fail
              generalize ((wr.setCell ⟨b.s, y, none⟩ (.int .i64 1)).setCell ⟨b.u, y * 2, none⟩ (.int .i64 (y : Nat))).setCell ⟨b.u, y * 2 + 1, none⟩ (.int .i64 (y : Nat)) = v3 at *
              replace HM := Lib.hid (show BdM w1 v3 b k z (stL E f k 0) (stR E f k 0) (stP E f k 0) (stH E f k 0) (mkZ (y + 1)) (mkU (y + 1)) (mkU (y + 1)) by rw [← mkZ_step, ← mkU_step]; exact HM.out)
              go_roundw
              case rel => exact ⟨y + 1, by omega, by go_num, HM⟩
              case measure => simp only [intOf]; omega
            · obtain rfl : k = y := by omega
              replace HM := Lib.hid ((HM.out.congr (L' := stL E f k 0) (R' := stR E f k 0) (P' := stP E f k 0) (H' := stH E f k 0) (Z' := stZ E f k 0) (fun _ _ => rfl) (fun _ _ => rfl) (fun _ _ => rfl) (fun _ _ => rfl) (fun i _ => by rw [stZ_zero]; rfl)).congrU (up' := id) (rt' := nd E f k 0) (fun i hi => if_pos hi) (fun i hi => if_pos hi))
              have HMU := Lib.hid (show ∃ up, BdM w1 wr b k z (stL E f k 0) (stR E f k 0) (stP E f k 0) (stH E f k 0) (stZ E f k 0) up (nd E f k 0) ∧ UL k up (lbI E f 0) from ⟨id, HM.out, by rw [lbI_zero]; exact UL.start k⟩)
              clear HM
              go_wp2_with fail
              go_loopw [82] (fun iv wr => ∃ i : Nat, i ≤ m ∧ iv = .int .i64 (i : Nat) ∧ Hid (∃ up, BdM w1 wr b k z (stL E f k i) (stR E f k i) (stP E f k i) (stH E f k i) (stZ E f k i) up (nd E f k i) ∧ UL k up (lbI E f i))) (fun iv _ => m - (intOf iv).toNat)
              case atStart => exact ⟨0, Nat.zero_le _, rfl, HMU⟩
              case round =>
                clear HMU
                obtain ⟨i, hi, rfl, HMU⟩ := hrel
                by_cases hlt3 : i < m
                · have hif : i < f.length := by have := Hfm.out; omega
                  obtain ⟨q, hq⟩ : ∃ q, f.getD i 0 = q := ⟨_, rfl⟩
                  have hqE : q < E.length := by
                    rw [← hq, ← Hf.out]; exact frs_lt HO.out (by rw [Hf.out]; exact hif)
                  obtain ⟨u, v, eu, ev, hu, hv2, _⟩ := HG.out.nats hqE
                  have HP := Lib.hid (show edP E (f.getD i 0) = (u, v) by rw [hq]; unfold edP; rw [eu, ev]; simp)
                  obtain ⟨y, hy⟩ : ∃ y : Nat, k + i = y := ⟨_, rfl⟩
                  have hyw : (k : Int) + (i : Int) = (y : Int) := by omega
                  have hyz : y < z := by have := Hz.out; omega
                  obtain ⟨up0, hM0, _⟩ := HMU.out
                  have hFr := HV.out
                  have hrd := hv.below hM0.bel
                  rw [Hfm.out] at hrd
                  have ix := hrd.ix i hlt3
                  have c1 := intsN_cell hrd hlt3
                  rw [hq] at c1
                  have hii : (0 : Int) ≤ i ∧ (i : Int) < m := by omega
                  have Hq := Lib.hid hq; have Hy := Lib.hid hy
                  have Heu := Lib.hid eu; have Hev := Lib.hid ev
                  clear hq hy hM0 hrd hFr eu ev
                  go_upto_region 22 with (fail)
                  clear ix c1 hyw
                  have hqi : (0 : Int) ≤ q ∧ (q : Int) < E.length := by omega
                  have ix2 := HEd.out.ix q hqE
                  go_cut [16, 17] (fun s16 s17 wx => s16 = .int .i64 (lbI E f i u : Nat) ∧ s17 = .int .i64 (lbI E f i v : Nat) ∧ ∃ up, BdM w1 wx b k z (stL E f k i) (stR E f k i) (stP E f k i) (stH E f k i) (stZ E f k i) up (nd E f k i) ∧ UL k up (lbI E f i))
                  case first =>
                    have kE : ∀ wx, (∃ up, BdM w1 wx b k z (stL E f k i) (stR E f k i) (stP E f k i) (stH E f k i) (stZ E f k i) up (nd E f k i) ∧ UL k up (lbI E f i)) → wx.cell? (A q) = some (.int .i64 (u : Nat)) ∧ wx.cell? ⟨(A q).block, (A q).off + 1, none⟩ = some (.int .i64 (v : Nat)) ∧ Hid (∃ up, BdM w1 wx b k z (stL E f k i) (stR E f k i) (stP E f k i) (stH E f k i) (stZ E f k i) up (nd E f k i) ∧ UL k up (lbI E f i)) := fun wx hx => by
                      obtain ⟨up, hM, hU⟩ := hx
                      have h := HEd.out.below hM.bel
                      exact ⟨by rw [ES.u h hqE, Heu.out], by rw [ES.v h hqE, Hev.out], Lib.hid ⟨up, hM, hU⟩⟩
                    have HS := kE wr.drew (by obtain ⟨up, hM, hU⟩ := HMU.out; exact ⟨up, hM.drew, hU⟩)
                    have HkE := Lib.hid kE
                    clear kE HMU
                    refine region_plain (fun wx => wx.cell? (A q) = some (.int .i64 (u : Nat)) ∧ wx.cell? ⟨(A q).block, (A q).off + 1, none⟩ = some (.int .i64 (v : Nat)) ∧ Hid (∃ up, BdM w1 wx b k z (stL E f k i) (stR E f k i) (stP E f k i) (stH E f k i) (stZ E f k i) up (nd E f k i) ∧ UL k up (lbI E f i))) (by kernel_rfl) ?_
                    generalize wr.drew = v0 at *
                    refine take_at (i := 0) (d := 90) (v := ?_) rfl rfl (by kernel_rfl) (by kernel_rfl) (by kernel_rfl) (fun _ _ _ _ => NormalOnly.any) rfl ?hy21 HS ?rest21
                    case hy21 => intro w' hSw; (try dsimp only at hSw); go_simp; try (with_reducible rfl)
                    try simp only [List.setIfInBounds_toArray, List.set_cons_zero, List.set_cons_succ]
                    refine take_at (i := 1) (d := 91) (v := ?_) rfl rfl (by kernel_rfl) (by kernel_rfl) (by kernel_rfl) (fun _ _ _ _ => NormalOnly.any) rfl ?hy22 HS ?rest22
                    case hy22 => intro w' hSw; (try dsimp only at hSw); go_simp; try (with_reducible rfl)
                    try simp only [List.setIfInBounds_toArray, List.set_cons_zero, List.set_cons_succ]
                    refine take_at (i := 2) (d := 92) (v := ?_) rfl rfl (by kernel_rfl) (by kernel_rfl) (by kernel_rfl) (fun _ _ _ _ => NormalOnly.any) rfl ?hy23 HS ?rest23
                    case hy23 => intro w' hSw; (try dsimp only at hSw); go_simp; try (with_reducible rfl)
                    try simp only [List.setIfInBounds_toArray, List.set_cons_zero, List.set_cons_succ]
                    refine take_at (i := 3) (d := 93) (v := ?_) rfl rfl (by kernel_rfl) (by kernel_rfl) (by kernel_rfl) (fun _ _ _ _ => NormalOnly.any) rfl ?hy24 HS ?rest24
                    case hy24 => intro w' hSw; (try dsimp only at hSw); go_simp; try (with_reducible rfl)
                    try simp only [List.setIfInBounds_toArray, List.set_cons_zero, List.set_cons_succ]
                    refine take_at (i := 4) (d := 94) (v := ?_) rfl rfl (by kernel_rfl) (by kernel_rfl) (by kernel_rfl) (fun _ _ _ _ => NormalOnly.any) rfl ?hy25 HS ?rest25
                    case hy25 => intro w' hSw; (try dsimp only at hSw); go_simp; try (with_reducible rfl)
                    try simp only [List.setIfInBounds_toArray, List.set_cons_zero, List.set_cons_succ]
                    refine take_at (i := 5) (d := 95) (v := ?_) rfl rfl (by kernel_rfl) (by kernel_rfl) (by kernel_rfl) (fun _ _ _ _ => NormalOnly.any) rfl ?hy26 HS ?rest26
                    case hy26 => intro w' hSw; (try dsimp only at hSw); go_simp; try (with_reducible rfl)
                    try simp only [List.setIfInBounds_toArray, List.set_cons_zero, List.set_cons_succ]
                    refine take_at (i := 7) (d := 97) (v := ?_) rfl rfl (by kernel_rfl) (by kernel_rfl) (by kernel_rfl) (fun _ _ _ _ => NormalOnly.any) rfl ?hy27 HS ?rest27
                    case hy27 => intro w' hSw; (try dsimp only at hSw); go_simp; try (with_reducible rfl)
                    try simp only [List.setIfInBounds_toArray, List.set_cons_zero, List.set_cons_succ]
                    refine take_at (i := 8) (d := 98) (v := ?_) rfl rfl (by kernel_rfl) (by kernel_rfl) (by kernel_rfl) (fun _ _ _ _ => NormalOnly.any) rfl ?hy28 HS ?rest28
                    case hy28 => intro w' hSw; (try dsimp only at hSw); go_simp; try (with_reducible rfl)
                    try simp only [List.setIfInBounds_toArray, List.set_cons_zero, List.set_cons_succ]
                    refine take_at (i := 9) (d := 99) (v := ?_) rfl rfl (by kernel_rfl) (by kernel_rfl) (by kernel_rfl) (fun _ _ _ _ => NormalOnly.any) rfl ?hy29 HS ?rest29
                    case hy29 => intro w' hSw; (try dsimp only at hSw); go_simp; try (with_reducible rfl)
                    try simp only [List.setIfInBounds_toArray, List.set_cons_zero, List.set_cons_succ]
                    refine take_at (i := 10) (d := 100) (v := ?_) rfl rfl (by kernel_rfl) (by kernel_rfl) (by kernel_rfl) (fun _ _ _ _ => NormalOnly.any) rfl ?hy30 HS ?rest30
                    case hy30 => intro w' hSw; (try dsimp only at hSw); go_simp; try (with_reducible rfl)
                    try simp only [List.setIfInBounds_toArray, List.set_cons_zero, List.set_cons_succ]
                    refine take_at (i := 11) (d := 101) (v := ?_) rfl rfl (by kernel_rfl) (by kernel_rfl) (by kernel_rfl) (fun _ _ _ _ => NormalOnly.any) rfl ?hy31 HS ?rest31
                    case hy31 => intro w' hSw; (try dsimp only at hSw); go_simp; try (with_reducible rfl)
                    try simp only [List.setIfInBounds_toArray, List.set_cons_zero, List.set_cons_succ]
                    refine take_at (i := 12) (d := 102) (v := ?_) rfl rfl (by kernel_rfl) (by kernel_rfl) (by kernel_rfl) (fun _ _ _ _ => NormalOnly.any) rfl ?hy32 HS ?rest32
                    case hy32 => intro w' hSw; (try dsimp only at hSw); go_simp; try (with_reducible rfl)
                    try simp only [List.setIfInBounds_toArray, List.set_cons_zero, List.set_cons_succ]
                    refine wpAnyH_ready (rs := [6]) (by kernel_rfl) (by simp) ?_
                    refine AllReadyH.cons rfl (fun K hK => ?_) AllReadyH.nil
                    · go_simp
                      obtain ⟨up, hM, hU⟩ := HS.2.2.out
                      refine (rfind_any b.u k u up (nd E f k i) (lbI E f i) _ hM.tr.ru hU (lbI_ok E f i) hu).mono ?_
                      rintro e w5 ⟨rfl, up2, hR2, hU2, hI2⟩
                      refine hK.out _ _ (HkE.out w5 ⟨up2, hM.turnU hI2 hR2, hU2⟩) (fun HS => ?_)
                      clear hK hM hU hR2 hU2 hI2
                      (try simp only [List.setIfInBounds_toArray, List.set_cons_zero, List.set_cons_succ])
                      refine wpAnyH_ready (rs := [13]) (by kernel_rfl) (by simp) ?_
                      refine AllReadyH.cons rfl (fun K hK => ?_) AllReadyH.nil
                      go_simp
                      obtain ⟨up, hM, hU⟩ := HS.2.2.out
                      refine (rfind_any b.u k v up (nd E f k i) (lbI E f i) _ hM.tr.ru hU (lbI_ok E f i) hv2).mono ?_
                      rintro e w6 ⟨rfl, up2, hR2, hU2, hI2⟩
                      refine hK.out _ _ (HkE.out w6 ⟨up2, hM.turnU hI2 hR2, hU2⟩) (fun HS => ?_)
                      clear hK hM hU hR2 hU2 hI2
                      (try simp only [List.setIfInBounds_toArray, List.set_cons_zero, List.set_cons_succ])
                      refine take_at (i := 14) (d := 16) (v := ?_) rfl rfl (by kernel_rfl) (by kernel_rfl) (by kernel_rfl) (fun _ _ _ _ => NormalOnly.any) rfl ?hy33 HS ?rest33
                      case hy33 => intro w' hSw; (try dsimp only at hSw); go_simp; try (with_reducible rfl)
                      try simp only [List.setIfInBounds_toArray, List.set_cons_zero, List.set_cons_succ]
                      refine take_at (i := 15) (d := 17) (v := ?_) rfl rfl (by kernel_rfl) (by kernel_rfl) (by kernel_rfl) (fun _ _ _ _ => NormalOnly.any) rfl ?hy34 HS ?rest34
                      case hy34 => intro w' hSw; (try dsimp only at hSw); go_simp; try (with_reducible rfl)
                      try simp only [List.setIfInBounds_toArray, List.set_cons_zero, List.set_cons_succ]
                      refine wpAnyH_done (by kernel_rfl) ⟨rfl, ?_⟩ _
                      go_wp2_with fail
                      go_meet
                      exact ⟨rfl, rfl, HS.2.2.out⟩
                  case rest =>
                    clear HMU ix2 hqi
                    obtain ⟨rfl, rfl, up, hM, hU⟩ := hcut
                    have F := HFo.out
                    have hmU : mU E f i = lbI E f i u := by unfold mU; rw [HP.out]
                    have hmV : mV E f i = lbI E f i v := by unfold mV; rw [HP.out]
                    have hne := F.ne i hif
                    have hA : min (lbI E f i u) (lbI E f i v) = mA E f i := by unfold mA; rw [hmU, hmV]
                    have hBm : max (lbI E f i u) (lbI E f i v) = mB E f i := by unfold mB; rw [hmU, hmV]
                    rw [hmU, hmV] at hne
                    have hla := lbI_le E f i u
                    have hlb := lbI_le E f i v
                    have hab := F.mlt hif
                    have hmb := F.mB_n hif
                    have hma := F.mA_n hif
                    have hlf : nd E f k i (mA E f i) < k + i := nd_lt hma
                    have hrg : nd E f k i (mB E f i) < k + i := nd_lt hmb
                    have hszs : szT E f k (k + i) = szT E f k (nd E f k i (mA E f i)) + szT E f k (nd E f k i (mB E f i)) := szT_sum F hif
                    have hk0 : 0 < k := by omega
                    have hs1 : szT E f k (nd E f k i (mA E f i)) ≤ k := szT_le hk0
                    have hs2 : szT E f k (nd E f k i (mB E f i)) ≤ k := szT_le hk0
                    have hz1 : stZ E f k i (nd E f k i (mA E f i)) = ((szT E f k (nd E f k i (mA E f i)) : Nat) : Int) := if_pos hlf
                    have hz2' : stZ E f k i (nd E f k i (mB E f i)) = ((szT E f k (nd E f k i (mB E f i)) : Nat) : Int) := if_pos hrg
                    have HUn := Lib.hid (hU.hang F hif)
                    have eL := fun y => stL_step (E := E) (f := f) (n := k) (i := i) (y := y)
                    have eR := fun y => stR_step (E := E) (f := f) (n := k) (i := i) (y := y)
                    have eP := fun y => stP_step (E := E) (f := f) (n := k) (i := i) (y := y)
                    have eH := fun y => stH_step (E := E) (f := f) (n := k) (i := i) (y := y)
                    have eZ := fun y => stZ_step (E := E) (f := f) (n := k) (i := i) (y := y)
                    have eN := fun a => nd_step (E := E) (f := f) (n := k) (i := i) (a := a)
                    rw [hszs] at eZ
                    have cA := setC_cell1 hM.tr.ru hma
                    have cB := setC_cell1 hM.tr.ru hmb
                    have HM := Lib.hid hM
                    have hyk := Hy.out
                    rw [hyk] at hlf hrg eL eR eP eH eZ eN
                    clear hU hM F hmU hmV hszs hyk hk0
                    generalize wc = v0 at *
                    generalize lbI E f i u = p at *
                    generalize lbI E f i v = r at *
                    generalize mA E f i = ma at *
                    generalize mB E f i = mb at *
                    generalize nd E f k i ma = lf at *
                    generalize nd E f k i mb = rg at *
                    generalize szT E f k lf = z1 at *
                    generalize szT E f k rg = z2 at *
                    have hqe : (eAt E (f.getD i 0)).w = (eAt E q).w := by rw [Hq.out]
                    rw [hqe] at eH
                    have HeL := Lib.hid eL; have HeR := Lib.hid eR; have HeP := Lib.hid eP; have HeH := Lib.hid eH; have HeZ := Lib.hid eZ; have HeN := Lib.hid eN
                    have Hz1 := Lib.hid hz1; have Hz2 := Lib.hid hz2'
                    have HcA := Lib.hid cA; have HcB := Lib.hid cB
                    clear eL eR eP eH eZ eN hz1 hz2' cA cB hqe
                    go_upto_region 23 with (fail)
                    go_cut [16, 17] (fun s16 s17 wx => s16 = .int .i64 (ma : Nat) ∧ s17 = .int .i64 (mb : Nat) ∧ wx = v0)
                    case first =>
                      rcases Nat.lt_or_gt_of_ne hne with h | h
                      · have h1 : (p : Int) < (r : Int) := by omega
                        have Hh := Lib.hid (And.intro hA (And.intro hBm h))
                        clear hA hBm hne h hla hlb hab hmb hma hlf hrg
                        go_wp2_with fail
                        go_meet
                        obtain ⟨e1, e2, e3⟩ := Hh.out
                        exact ⟨congrArg (Value.int .i64) (by omega), congrArg (Value.int .i64) (by omega), rfl⟩
                      · have h1 : (r : Int) < (p : Int) := by omega
                        have Hh := Lib.hid (And.intro hA (And.intro hBm h))
                        clear hA hBm hne h hla hlb hab hmb hma hlf hrg
                        go_wp2_with fail
                        go_meet
                        obtain ⟨e1, e2, e3⟩ := Hh.out
                        exact ⟨congrArg (Value.int .i64) (by omega), congrArg (Value.int .i64) (by omega), rfl⟩
                    case rest =>
                      obtain ⟨rfl, rfl, rfl⟩ := hcut
                      clear hA hBm hne hla hlb
                      have ha2 : (0 : Int) ≤ ma ∧ (ma : Int) < k := by omega
                      have hb3 : (0 : Int) ≤ mb ∧ (mb : Int) < k := by omega
                      have hl2 : (0 : Int) ≤ lf ∧ (lf : Int) < z := by omega
                      have hr2 : (0 : Int) ≤ rg ∧ (rg : Int) < z := by omega
                      have hy2 : (0 : Int) ≤ y ∧ (y : Int) < z := by omega
                      have hlz : lf < z := by omega
                      have hrz : rg < z := by omega
                      have hly : lf ≠ y := by omega
                      have hry : rg ≠ y := by omega
                      go_wp2_with fail
                      replace HM := Lib.hid HM.out.drew
                      have HS : wc.drew.cell? ⟨b.u, ma * 2 + 1, none⟩ = some (.int .i64 (lf : Nat)) ∧ wc.drew.cell? ⟨b.u, mb * 2 + 1, none⟩ = some (.int .i64 (rg : Nat)) := ⟨HcA.out, HcB.out⟩
                      refine region_plain (fun w' => w'.cell? ⟨b.u, ma * 2 + 1, none⟩ = some (.int .i64 (lf : Nat)) ∧ w'.cell? ⟨b.u, mb * 2 + 1, none⟩ = some (.int .i64 (rg : Nat))) (by kernel_rfl) ?_
                      generalize wc.drew = v1 at *
                      clear HcA HcB
                      refine take_at (i := 0) (d := 110) (v := ?_) rfl rfl (by kernel_rfl) (by kernel_rfl) (by kernel_rfl) (fun _ _ _ _ => NormalOnly.any) rfl ?hy35 HS ?rest35
                      case hy35 => intro w' hSw; (try dsimp only at hSw); go_simp; try (with_reducible rfl)
                      try simp only [List.setIfInBounds_toArray, List.set_cons_zero, List.set_cons_succ]
                      refine take_at (i := 1) (d := 111) (v := ?_) rfl rfl (by kernel_rfl) (by kernel_rfl) (by kernel_rfl) (fun _ _ _ _ => NormalOnly.any) rfl ?hy36 HS ?rest36
                      case hy36 => intro w' hSw; (try dsimp only at hSw); go_simp; try (with_reducible rfl)
                      try simp only [List.setIfInBounds_toArray, List.set_cons_zero, List.set_cons_succ]
                      refine take_at (i := 2) (d := 112) (v := ?_) rfl rfl (by kernel_rfl) (by kernel_rfl) (by kernel_rfl) (fun _ _ _ _ => NormalOnly.any) rfl ?hy37 HS ?rest37
                      case hy37 => intro w' hSw; (try dsimp only at hSw); go_simp; try (with_reducible rfl)
                      try simp only [List.setIfInBounds_toArray, List.set_cons_zero, List.set_cons_succ]
                      refine take_at (i := 3) (d := 113) (v := ?_) rfl rfl (by kernel_rfl) (by kernel_rfl) (by kernel_rfl) (fun _ _ _ _ => NormalOnly.any) rfl ?hy38 HS ?rest38
                      case hy38 => intro w' hSw; (try dsimp only at hSw); go_simp; try (with_reducible rfl)
                      try simp only [List.setIfInBounds_toArray, List.set_cons_zero, List.set_cons_succ]
                      refine take_at (i := 4) (d := 114) (v := ?_) rfl rfl (by kernel_rfl) (by kernel_rfl) (by kernel_rfl) (fun _ _ _ _ => NormalOnly.any) rfl ?hy39 HS ?rest39
                      case hy39 => intro w' hSw; (try dsimp only at hSw); go_simp; try (with_reducible rfl)
                      try simp only [List.setIfInBounds_toArray, List.set_cons_zero, List.set_cons_succ]
                      refine take_at (i := 5) (d := 115) (v := ?_) rfl rfl (by kernel_rfl) (by kernel_rfl) (by kernel_rfl) (fun _ _ _ _ => NormalOnly.any) rfl ?hy40 HS ?rest40
                      case hy40 => intro w' hSw; (try dsimp only at hSw); go_simp; try (with_reducible rfl)
                      try simp only [List.setIfInBounds_toArray, List.set_cons_zero, List.set_cons_succ]
                      refine take_at (i := 6) (d := 116) (v := ?_) rfl rfl (by kernel_rfl) (by kernel_rfl) (by kernel_rfl) (fun _ _ _ _ => NormalOnly.any) rfl ?hy41 HS ?rest41
                      case hy41 => intro w' hSw; (try dsimp only at hSw); go_simp; try (with_reducible rfl)
                      try simp only [List.setIfInBounds_toArray, List.set_cons_zero, List.set_cons_succ]
                      refine take_at (i := 7) (d := 117) (v := ?_) rfl rfl (by kernel_rfl) (by kernel_rfl) (by kernel_rfl) (fun _ _ _ _ => NormalOnly.any) rfl ?hy42 HS ?rest42
                      case hy42 => intro w' hSw; (try dsimp only at hSw); go_simp; try (with_reducible rfl)
                      try simp only [List.setIfInBounds_toArray, List.set_cons_zero, List.set_cons_succ]
                      refine take_at (i := 8) (d := 118) (v := ?_) rfl rfl (by kernel_rfl) (by kernel_rfl) (by kernel_rfl) (fun _ _ _ _ => NormalOnly.any) rfl ?hy43 HS ?rest43
                      case hy43 => intro w' hSw; (try dsimp only at hSw); go_simp; try (with_reducible rfl)
                      try simp only [List.setIfInBounds_toArray, List.set_cons_zero, List.set_cons_succ]
                      refine take_at (i := 9) (d := 119) (v := ?_) rfl rfl (by kernel_rfl) (by kernel_rfl) (by kernel_rfl) (fun _ _ _ _ => NormalOnly.any) rfl ?hy44 HS ?rest44
                      case hy44 => intro w' hSw; (try dsimp only at hSw); go_simp; try (with_reducible rfl)
                      try simp only [List.setIfInBounds_toArray, List.set_cons_zero, List.set_cons_succ]
                      refine take_at (i := 10) (d := 18) (v := ?_) rfl rfl (by kernel_rfl) (by kernel_rfl) (by kernel_rfl) (fun _ _ _ _ => NormalOnly.any) rfl ?hy45 HS ?rest45
                      case hy45 => intro w' hSw; (try dsimp only at hSw); go_simp; try (with_reducible rfl)
                      try simp only [List.setIfInBounds_toArray, List.set_cons_zero, List.set_cons_succ]
                      refine take_at (i := 11) (d := 19) (v := ?_) rfl rfl (by kernel_rfl) (by kernel_rfl) (by kernel_rfl) (fun _ _ _ _ => NormalOnly.any) rfl ?hy46 HS ?rest46
                      case hy46 => intro w' hSw; (try dsimp only at hSw); go_simp; try (with_reducible rfl)
                      try simp only [List.setIfInBounds_toArray, List.set_cons_zero, List.set_cons_succ]
                      refine wpAnyH_done (by kernel_rfl) ⟨rfl, ?_⟩ _
                      clear HS
                      go_wp2_with fail
                      replace HM := Lib.hid HM.out.drew
                      have HS : v1.drew.cell? ⟨b.t, 1, none⟩ = some (.slice (some ⟨b.l, 0, none⟩) z z) ∧ v1.drew.cell? ⟨b.t, 2, none⟩ = some (.slice (some ⟨b.r, 0, none⟩) z z) := ⟨HM.out.tr.fields.1, HM.out.tr.fields.2.1⟩
                      refine region_plain (fun w' => w'.cell? ⟨b.t, 1, none⟩ = some (.slice (some ⟨b.l, 0, none⟩) z z) ∧ w'.cell? ⟨b.t, 2, none⟩ = some (.slice (some ⟨b.r, 0, none⟩) z z)) (by kernel_rfl) ?_
                      generalize v1.drew = v2 at *
                      refine take_at (i := 0) (d := 120) (v := ?_) rfl rfl (by kernel_rfl) (by kernel_rfl) (by kernel_rfl) (fun _ _ _ _ => NormalOnly.any) rfl ?hy47 HS ?rest47
                      case hy47 => intro w' hSw; (try dsimp only at hSw); go_simp; try (with_reducible rfl)
                      try simp only [List.setIfInBounds_toArray, List.set_cons_zero, List.set_cons_succ]
                      refine take_at (i := 1) (d := 121) (v := ?_) rfl rfl (by kernel_rfl) (by kernel_rfl) (by kernel_rfl) (fun _ _ _ _ => NormalOnly.any) rfl ?hy48 HS ?rest48
                      case hy48 => intro w' hSw; (try dsimp only at hSw); go_simp; try (with_reducible rfl)
                      try simp only [List.setIfInBounds_toArray, List.set_cons_zero, List.set_cons_succ]
                      refine take_at (i := 2) (d := 122) (v := ?_) rfl rfl (by kernel_rfl) (by kernel_rfl) (by kernel_rfl) (fun _ _ _ _ => NormalOnly.any) rfl ?hy49 HS ?rest49
                      case hy49 => intro w' hSw; (try dsimp only at hSw); go_simp; try (with_reducible rfl)
                      try simp only [List.setIfInBounds_toArray, List.set_cons_zero, List.set_cons_succ]
                      refine take_at (i := 3) (d := 123) (v := ?_) rfl rfl (by kernel_rfl) (by kernel_rfl) (by kernel_rfl) (fun _ _ _ _ => NormalOnly.any) rfl ?hy50 HS ?rest50
                      case hy50 => intro w' hSw; (try dsimp only at hSw); go_simp; try (with_reducible rfl)
                      try simp only [List.setIfInBounds_toArray, List.set_cons_zero, List.set_cons_succ]
                      refine take_at (i := 4) (d := 124) (v := ?_) rfl rfl (by kernel_rfl) (by kernel_rfl) (by kernel_rfl) (fun _ _ _ _ => NormalOnly.any) rfl ?hy51 HS ?rest51
                      case hy51 => intro w' hSw; (try dsimp only at hSw); go_simp; try (with_reducible rfl)
                      try simp only [List.setIfInBounds_toArray, List.set_cons_zero, List.set_cons_succ]
                      refine take_at (i := 5) (d := 125) (v := ?_) rfl rfl (by kernel_rfl) (by kernel_rfl) (by kernel_rfl) (fun _ _ _ _ => NormalOnly.any) rfl ?hy52 HS ?rest52
                      case hy52 => intro w' hSw; (try dsimp only at hSw); go_simp; try (with_reducible rfl)
                      try simp only [List.setIfInBounds_toArray, List.set_cons_zero, List.set_cons_succ]
                      refine take_at (i := 6) (d := 126) (v := ?_) rfl rfl (by kernel_rfl) (by kernel_rfl) (by kernel_rfl) (fun _ _ _ _ => NormalOnly.any) rfl ?hy53 HS ?rest53
                      case hy53 => intro w' hSw; (try dsimp only at hSw); go_simp; try (with_reducible rfl)
                      try simp only [List.setIfInBounds_toArray, List.set_cons_zero, List.set_cons_succ]
                      refine take_at (i := 7) (d := 127) (v := ?_) rfl rfl (by kernel_rfl) (by kernel_rfl) (by kernel_rfl) (fun _ _ _ _ => NormalOnly.any) rfl ?hy54 HS ?rest54
                      case hy54 => intro w' hSw; (try dsimp only at hSw); go_simp; try (with_reducible rfl)
                      try simp only [List.setIfInBounds_toArray, List.set_cons_zero, List.set_cons_succ]
                      refine take_at (i := 8) (d := 128) (v := ?_) rfl rfl (by kernel_rfl) (by kernel_rfl) (by kernel_rfl) (fun _ _ _ _ => NormalOnly.any) rfl ?hy55 HS ?rest55
                      case hy55 => intro w' hSw; (try dsimp only at hSw); go_simp; try (with_reducible rfl)
                      try simp only [List.setIfInBounds_toArray, List.set_cons_zero, List.set_cons_succ]
                      have cs := HM.out.tr.rl.cell hyz
                      have fs := HM.out.tr.rl.frozen y
                      refine wpAnyH_ready (rs := [9]) (by kernel_rfl) (by simp) ?_
                      refine AllReadyH.cons rfl (fun K hK => ?_) AllReadyH.nil
                      replace HM := Lib.hid (HM.out.setL y (lf : Nat))
                      go_simp
                      refine hK.out _ _ ⟨HM.out.tr.fields.1, HM.out.tr.fields.2.1⟩ (fun HS => ?_)
                      clear hK cs fs
                      generalize v2.setCell ⟨b.l, y, none⟩ (.int .i64 (lf : Nat)) = v3 at *
                      refine take_at (i := 10) (d := 129) (v := ?_) rfl rfl (by kernel_rfl) (by kernel_rfl) (by kernel_rfl) (fun _ _ _ _ => NormalOnly.any) rfl ?hy56 HS ?rest56
                      case hy56 => intro w' hSw; (try dsimp only at hSw); go_simp; try (with_reducible rfl)
                      try simp only [List.setIfInBounds_toArray, List.set_cons_zero, List.set_cons_succ]
                      have cs := HM.out.tr.rr.cell hyz
                      have fs := HM.out.tr.rr.frozen y
                      refine wpAnyH_ready (rs := [11]) (by kernel_rfl) (by simp) ?_
                      refine AllReadyH.cons rfl (fun K hK => ?_) AllReadyH.nil
                      replace HM := Lib.hid (HM.out.setR y (rg : Nat))
                      go_simp
                      refine hK.out _ _ ⟨HM.out.tr.fields.1, HM.out.tr.fields.2.1⟩ (fun HS => ?_)
                      clear hK cs fs
                      generalize v3.setCell ⟨b.r, y, none⟩ (.int .i64 (rg : Nat)) = v4 at *
                      refine wpAnyH_done (by kernel_rfl) ⟨rfl, ?_⟩ _
                      clear HS
                      go_wp2_with fail
                      replace HM := Lib.hid HM.out.drew
                      have HS : v4.drew.cell? ⟨b.t, 3, none⟩ = some (.slice (some ⟨b.p, 0, none⟩) z z) := HM.out.tr.fields.2.2.1
                      refine region_plain (fun w' => w'.cell? ⟨b.t, 3, none⟩ = some (.slice (some ⟨b.p, 0, none⟩) z z)) (by kernel_rfl) ?_
                      generalize v4.drew = v5 at *
                      refine take_at (i := 0) (d := 130) (v := ?_) rfl rfl (by kernel_rfl) (by kernel_rfl) (by kernel_rfl) (fun _ _ _ _ => NormalOnly.any) rfl ?hy57 HS ?rest57
                      case hy57 => intro w' hSw; (try dsimp only at hSw); go_simp; try (with_reducible rfl)
                      try simp only [List.setIfInBounds_toArray, List.set_cons_zero, List.set_cons_succ]
                      refine take_at (i := 1) (d := 131) (v := ?_) rfl rfl (by kernel_rfl) (by kernel_rfl) (by kernel_rfl) (fun _ _ _ _ => NormalOnly.any) rfl ?hy58 HS ?rest58
                      case hy58 => intro w' hSw; (try dsimp only at hSw); go_simp; try (with_reducible rfl)
                      try simp only [List.setIfInBounds_toArray, List.set_cons_zero, List.set_cons_succ]
                      refine take_at (i := 2) (d := 132) (v := ?_) rfl rfl (by kernel_rfl) (by kernel_rfl) (by kernel_rfl) (fun _ _ _ _ => NormalOnly.any) rfl ?hy59 HS ?rest59
                      case hy59 => intro w' hSw; (try dsimp only at hSw); go_simp; try (with_reducible rfl)
                      try simp only [List.setIfInBounds_toArray, List.set_cons_zero, List.set_cons_succ]
                      refine take_at (i := 3) (d := 133) (v := ?_) rfl rfl (by kernel_rfl) (by kernel_rfl) (by kernel_rfl) (fun _ _ _ _ => NormalOnly.any) rfl ?hy60 HS ?rest60
                      case hy60 => intro w' hSw; (try dsimp only at hSw); go_simp; try (with_reducible rfl)
                      try simp only [List.setIfInBounds_toArray, List.set_cons_zero, List.set_cons_succ]
                      refine take_at (i := 4) (d := 134) (v := ?_) rfl rfl (by kernel_rfl) (by kernel_rfl) (by kernel_rfl) (fun _ _ _ _ => NormalOnly.any) rfl ?hy61 HS ?rest61
                      case hy61 => intro w' hSw; (try dsimp only at hSw); go_simp; try (with_reducible rfl)
                      try simp only [List.setIfInBounds_toArray, List.set_cons_zero, List.set_cons_succ]
                      refine take_at (i := 5) (d := 135) (v := ?_) rfl rfl (by kernel_rfl) (by kernel_rfl) (by kernel_rfl) (fun _ _ _ _ => NormalOnly.any) rfl ?hy62 HS ?rest62
                      case hy62 => intro w' hSw; (try dsimp only at hSw); go_simp; try (with_reducible rfl)
                      try simp only [List.setIfInBounds_toArray, List.set_cons_zero, List.set_cons_succ]
                      refine take_at (i := 6) (d := 136) (v := ?_) rfl rfl (by kernel_rfl) (by kernel_rfl) (by kernel_rfl) (fun _ _ _ _ => NormalOnly.any) rfl ?hy63 HS ?rest63
                      case hy63 => intro w' hSw; (try dsimp only at hSw); go_simp; try (with_reducible rfl)
                      try simp only [List.setIfInBounds_toArray, List.set_cons_zero, List.set_cons_succ]
                      refine take_at (i := 7) (d := 137) (v := ?_) rfl rfl (by kernel_rfl) (by kernel_rfl) (by kernel_rfl) (fun _ _ _ _ => NormalOnly.any) rfl ?hy64 HS ?rest64
                      case hy64 => intro w' hSw; (try dsimp only at hSw); go_simp; try (with_reducible rfl)
                      try simp only [List.setIfInBounds_toArray, List.set_cons_zero, List.set_cons_succ]
                      refine take_at (i := 8) (d := 138) (v := ?_) rfl rfl (by kernel_rfl) (by kernel_rfl) (by kernel_rfl) (fun _ _ _ _ => NormalOnly.any) rfl ?hy65 HS ?rest65
                      case hy65 => intro w' hSw; (try dsimp only at hSw); go_simp; try (with_reducible rfl)
                      try simp only [List.setIfInBounds_toArray, List.set_cons_zero, List.set_cons_succ]
                      have cs := HM.out.tr.rp.cell hlz
                      have fs := HM.out.tr.rp.frozen lf
                      refine wpAnyH_ready (rs := [9]) (by kernel_rfl) (by simp) ?_
                      refine AllReadyH.cons rfl (fun K hK => ?_) AllReadyH.nil
                      replace HM := Lib.hid (HM.out.setP lf (y : Nat))
                      go_simp
                      refine hK.out _ _ HM.out.tr.fields.2.2.1 (fun HS => ?_)
                      clear hK cs fs
                      generalize v5.setCell ⟨b.p, lf, none⟩ (.int .i64 (y : Nat)) = v6 at *
                      refine take_at (i := 10) (d := 139) (v := ?_) rfl rfl (by kernel_rfl) (by kernel_rfl) (by kernel_rfl) (fun _ _ _ _ => NormalOnly.any) rfl ?hy66 HS ?rest66
                      case hy66 => intro w' hSw; (try dsimp only at hSw); go_simp; try (with_reducible rfl)
                      try simp only [List.setIfInBounds_toArray, List.set_cons_zero, List.set_cons_succ]
                      have cs := HM.out.tr.rp.cell hrz
                      have fs := HM.out.tr.rp.frozen rg
                      refine wpAnyH_ready (rs := [11]) (by kernel_rfl) (by simp) ?_
                      refine AllReadyH.cons rfl (fun K hK => ?_) AllReadyH.nil
                      replace HM := Lib.hid (HM.out.setP rg (y : Nat))
                      go_simp
                      refine hK.out _ _ HM.out.tr.fields.2.2.1 (fun HS => ?_)
                      clear hK cs fs
                      generalize v6.setCell ⟨b.p, rg, none⟩ (.int .i64 (y : Nat)) = v7 at *
                      refine wpAnyH_done (by kernel_rfl) ⟨rfl, ?_⟩ _
                      clear HS
                      go_wp2_with fail
                      have hqi : (0 : Int) ≤ q ∧ (q : Int) < E.length := by omega
                      have ix2 := HEd.out.ix q hqE
                      replace HM := Lib.hid HM.out.drew
                      have HS : v7.drew.cell? ⟨b.t, 4, none⟩ = some (.slice (some ⟨b.h, 0, none⟩) z z) ∧ v7.drew.cell? ⟨(A q).block, (A q).off + 2, none⟩ = some (.int .i64 (eAt E q).w) := ⟨HM.out.tr.fields.2.2.2.1, ES.w (HEd.out.below HM.out.bel) hqE⟩
                      refine region_plain (fun w' => w'.cell? ⟨b.t, 4, none⟩ = some (.slice (some ⟨b.h, 0, none⟩) z z) ∧ w'.cell? ⟨(A q).block, (A q).off + 2, none⟩ = some (.int .i64 (eAt E q).w)) (by kernel_rfl) ?_
                      generalize v7.drew = v8 at *
                      refine take_at (i := 0) (d := 140) (v := ?_) rfl rfl (by kernel_rfl) (by kernel_rfl) (by kernel_rfl) (fun _ _ _ _ => NormalOnly.any) rfl ?hy67 HS ?rest67
                      case hy67 => intro w' hSw; (try dsimp only at hSw); go_simp; try (with_reducible rfl)
                      try simp only [List.setIfInBounds_toArray, List.set_cons_zero, List.set_cons_succ]
                      refine take_at (i := 1) (d := 141) (v := ?_) rfl rfl (by kernel_rfl) (by kernel_rfl) (by kernel_rfl) (fun _ _ _ _ => NormalOnly.any) rfl ?hy68 HS ?rest68
                      case hy68 => intro w' hSw; (try dsimp only at hSw); go_simp; try (with_reducible rfl)
                      try simp only [List.setIfInBounds_toArray, List.set_cons_zero, List.set_cons_succ]
                      refine take_at (i := 2) (d := 142) (v := ?_) rfl rfl (by kernel_rfl) (by kernel_rfl) (by kernel_rfl) (fun _ _ _ _ => NormalOnly.any) rfl ?hy69 HS ?rest69
                      case hy69 => intro w' hSw; (try dsimp only at hSw); go_simp; try (with_reducible rfl)
                      try simp only [List.setIfInBounds_toArray, List.set_cons_zero, List.set_cons_succ]
                      refine take_at (i := 3) (d := 143) (v := ?_) rfl rfl (by kernel_rfl) (by kernel_rfl) (by kernel_rfl) (fun _ _ _ _ => NormalOnly.any) rfl ?hy70 HS ?rest70
                      case hy70 => intro w' hSw; (try dsimp only at hSw); go_simp; try (with_reducible rfl)
                      try simp only [List.setIfInBounds_toArray, List.set_cons_zero, List.set_cons_succ]
                      refine take_at (i := 4) (d := 144) (v := ?_) rfl rfl (by kernel_rfl) (by kernel_rfl) (by kernel_rfl) (fun _ _ _ _ => NormalOnly.any) rfl ?hy71 HS ?rest71
                      case hy71 => intro w' hSw; (try dsimp only at hSw); go_simp; try (with_reducible rfl)
                      try simp only [List.setIfInBounds_toArray, List.set_cons_zero, List.set_cons_succ]
                      refine take_at (i := 5) (d := 145) (v := ?_) rfl rfl (by kernel_rfl) (by kernel_rfl) (by kernel_rfl) (fun _ _ _ _ => NormalOnly.any) rfl ?hy72 HS ?rest72
                      case hy72 => intro w' hSw; (try dsimp only at hSw); go_simp; try (with_reducible rfl)
                      try simp only [List.setIfInBounds_toArray, List.set_cons_zero, List.set_cons_succ]
                      refine take_at (i := 6) (d := 146) (v := ?_) rfl rfl (by kernel_rfl) (by kernel_rfl) (by kernel_rfl) (fun _ _ _ _ => NormalOnly.any) rfl ?hy73 HS ?rest73
                      case hy73 => intro w' hSw; (try dsimp only at hSw); go_simp; try (with_reducible rfl)
                      try simp only [List.setIfInBounds_toArray, List.set_cons_zero, List.set_cons_succ]
                      refine take_at (i := 7) (d := 147) (v := ?_) rfl rfl (by kernel_rfl) (by kernel_rfl) (by kernel_rfl) (fun _ _ _ _ => NormalOnly.any) rfl ?hy74 HS ?rest74
                      case hy74 => intro w' hSw; (try dsimp only at hSw); go_simp; try (with_reducible rfl)
                      try simp only [List.setIfInBounds_toArray, List.set_cons_zero, List.set_cons_succ]
                      refine take_at (i := 8) (d := 148) (v := ?_) rfl rfl (by kernel_rfl) (by kernel_rfl) (by kernel_rfl) (fun _ _ _ _ => NormalOnly.any) rfl ?hy75 HS ?rest75
                      case hy75 => intro w' hSw; (try dsimp only at hSw); go_simp; try (with_reducible rfl)
                      try simp only [List.setIfInBounds_toArray, List.set_cons_zero, List.set_cons_succ]
                      have cs := HM.out.tr.rh.cell hyz
                      have fs := HM.out.tr.rh.frozen y
                      refine wpAnyH_ready (rs := [9]) (by kernel_rfl) (by simp) ?_
                      refine AllReadyH.cons rfl (fun K hK => ?_) AllReadyH.nil
                      replace HM := Lib.hid (HM.out.setH y (eAt E q).w)
                      go_simp
                      refine hK.out _ _ ⟨HM.out.tr.fields.2.2.2.1, ES.w (HEd.out.below HM.out.bel) hqE⟩ (fun HS => ?_)
                      clear hK cs fs
                      generalize v8.setCell ⟨b.h, y, none⟩ (.int .i64 (eAt E q).w) = v9 at *
                      refine wpAnyH_done (by kernel_rfl) ⟨rfl, ?_⟩ _
                      clear HS
                      clear ix2
                      go_wp2_with fail
                      have hsum : IntKind.i64.wrap ((z1 : Int) + (z2 : Int)) = (z1 : Int) + (z2 : Int) := IntWalk.i64_in _ (by omega)
                      replace HM := Lib.hid HM.out.drew
                      have HS : v9.drew.cell? ⟨b.t, 5, none⟩ = some (.slice (some ⟨b.s, 0, none⟩) z z) ∧ v9.drew.cell? ⟨b.s, lf, none⟩ = some (.int .i64 (z1 : Nat)) ∧ v9.drew.cell? ⟨b.s, rg, none⟩ = some (.int .i64 (z2 : Nat)) := ⟨HM.out.tr.fields.2.2.2.2, (HM.out.cellS hlz).trans (by rw [Hz1.out]), (HM.out.cellS hrz).trans (by rw [Hz2.out])⟩
                      refine region_plain (fun w' => w'.cell? ⟨b.t, 5, none⟩ = some (.slice (some ⟨b.s, 0, none⟩) z z) ∧ w'.cell? ⟨b.s, lf, none⟩ = some (.int .i64 (z1 : Nat)) ∧ w'.cell? ⟨b.s, rg, none⟩ = some (.int .i64 (z2 : Nat))) (by kernel_rfl) ?_
                      generalize v9.drew = va at *
                      refine take_at (i := 0) (d := 149) (v := ?_) rfl rfl (by kernel_rfl) (by kernel_rfl) (by kernel_rfl) (fun _ _ _ _ => NormalOnly.any) rfl ?hy76 HS ?rest76
                      case hy76 => intro w' hSw; (try dsimp only at hSw); go_simp; try (with_reducible rfl)
                      try simp only [List.setIfInBounds_toArray, List.set_cons_zero, List.set_cons_succ]
                      refine take_at (i := 1) (d := 150) (v := ?_) rfl rfl (by kernel_rfl) (by kernel_rfl) (by kernel_rfl) (fun _ _ _ _ => NormalOnly.any) rfl ?hy77 HS ?rest77
                      case hy77 => intro w' hSw; (try dsimp only at hSw); go_simp; try (with_reducible rfl)
                      try simp only [List.setIfInBounds_toArray, List.set_cons_zero, List.set_cons_succ]
                      refine take_at (i := 2) (d := 151) (v := ?_) rfl rfl (by kernel_rfl) (by kernel_rfl) (by kernel_rfl) (fun _ _ _ _ => NormalOnly.any) rfl ?hy78 HS ?rest78
                      case hy78 => intro w' hSw; (try dsimp only at hSw); go_simp; try (with_reducible rfl)
                      try simp only [List.setIfInBounds_toArray, List.set_cons_zero, List.set_cons_succ]
                      refine take_at (i := 3) (d := 152) (v := ?_) rfl rfl (by kernel_rfl) (by kernel_rfl) (by kernel_rfl) (fun _ _ _ _ => NormalOnly.any) rfl ?hy79 HS ?rest79
                      case hy79 => intro w' hSw; (try dsimp only at hSw); go_simp; try (with_reducible rfl)
                      try simp only [List.setIfInBounds_toArray, List.set_cons_zero, List.set_cons_succ]
                      refine take_at (i := 4) (d := 153) (v := ?_) rfl rfl (by kernel_rfl) (by kernel_rfl) (by kernel_rfl) (fun _ _ _ _ => NormalOnly.any) rfl ?hy80 HS ?rest80
                      case hy80 => intro w' hSw; (try dsimp only at hSw); go_simp; try (with_reducible rfl)
                      try simp only [List.setIfInBounds_toArray, List.set_cons_zero, List.set_cons_succ]
                      refine take_at (i := 5) (d := 154) (v := ?_) rfl rfl (by kernel_rfl) (by kernel_rfl) (by kernel_rfl) (fun _ _ _ _ => NormalOnly.any) rfl ?hy81 HS ?rest81
                      case hy81 => intro w' hSw; (try dsimp only at hSw); go_simp; try (with_reducible rfl)
                      try simp only [List.setIfInBounds_toArray, List.set_cons_zero, List.set_cons_succ]
                      refine take_at (i := 6) (d := 155) (v := ?_) rfl rfl (by kernel_rfl) (by kernel_rfl) (by kernel_rfl) (fun _ _ _ _ => NormalOnly.any) rfl ?hy82 HS ?rest82
                      case hy82 => intro w' hSw; (try dsimp only at hSw); go_simp; try (with_reducible rfl)
                      try simp only [List.setIfInBounds_toArray, List.set_cons_zero, List.set_cons_succ]
                      refine take_at (i := 7) (d := 156) (v := ?_) rfl rfl (by kernel_rfl) (by kernel_rfl) (by kernel_rfl) (fun _ _ _ _ => NormalOnly.any) rfl ?hy83 HS ?rest83
                      case hy83 => intro w' hSw; (try dsimp only at hSw); go_simp; try (with_reducible rfl)
                      try simp only [List.setIfInBounds_toArray, List.set_cons_zero, List.set_cons_succ]
                      refine take_at (i := 8) (d := 157) (v := ?_) rfl rfl (by kernel_rfl) (by kernel_rfl) (by kernel_rfl) (fun _ _ _ _ => NormalOnly.any) rfl ?hy84 HS ?rest84
                      case hy84 => intro w' hSw; (try dsimp only at hSw); go_simp; try (with_reducible rfl)
                      try simp only [List.setIfInBounds_toArray, List.set_cons_zero, List.set_cons_succ]
                      refine take_at (i := 9) (d := 158) (v := ?_) rfl rfl (by kernel_rfl) (by kernel_rfl) (by kernel_rfl) (fun _ _ _ _ => NormalOnly.any) rfl ?hy85 HS ?rest85
                      case hy85 => intro w' hSw; (try dsimp only at hSw); go_simp; try (with_reducible rfl)
                      try simp only [List.setIfInBounds_toArray, List.set_cons_zero, List.set_cons_succ]
                      refine take_at (i := 10) (d := 159) (v := ?_) rfl rfl (by kernel_rfl) (by kernel_rfl) (by kernel_rfl) (fun _ _ _ _ => NormalOnly.any) rfl ?hy86 HS ?rest86
                      case hy86 => intro w' hSw; (try dsimp only at hSw); go_simp; try (with_reducible rfl)
                      try simp only [List.setIfInBounds_toArray, List.set_cons_zero, List.set_cons_succ]
                      refine take_at (i := 11) (d := 160) (v := ?_) rfl rfl (by kernel_rfl) (by kernel_rfl) (by kernel_rfl) (fun _ _ _ _ => NormalOnly.any) rfl ?hy87 HS ?rest87
                      case hy87 => intro w' hSw; (try dsimp only at hSw); go_simp; try (with_reducible rfl)
                      try simp only [List.setIfInBounds_toArray, List.set_cons_zero, List.set_cons_succ]
                      refine take_at (i := 12) (d := 161) (v := ?_) rfl rfl (by kernel_rfl) (by kernel_rfl) (by kernel_rfl) (fun _ _ _ _ => NormalOnly.any) rfl ?hy88 HS ?rest88
                      case hy88 => intro w' hSw; (try dsimp only at hSw); go_simp; try (with_reducible rfl)
                      try simp only [List.setIfInBounds_toArray, List.set_cons_zero, List.set_cons_succ]
                      refine take_at (i := 13) (d := 162) (v := ?_) rfl rfl (by kernel_rfl) (by kernel_rfl) (by kernel_rfl) (fun _ _ _ _ => NormalOnly.any) rfl ?hy89 HS ?rest89
                      case hy89 => intro w' hSw; (try dsimp only at hSw); go_simp; try (with_reducible rfl)
                      try simp only [List.setIfInBounds_toArray, List.set_cons_zero, List.set_cons_succ]
                      refine take_at (i := 14) (d := 163) (v := ?_) rfl rfl (by kernel_rfl) (by kernel_rfl) (by kernel_rfl) (fun _ _ _ _ => NormalOnly.any) rfl ?hy90 HS ?rest90
                      case hy90 => intro w' hSw; (try dsimp only at hSw); go_simp; try (with_reducible rfl)
                      try simp only [List.setIfInBounds_toArray, List.set_cons_zero, List.set_cons_succ]
                      have cs := HM.out.tr.rs.cell hyz
                      have fs := HM.out.tr.rs.frozen y
                      refine wpAnyH_ready (rs := [15]) (by kernel_rfl) (by simp) ?_
                      refine AllReadyH.cons rfl (fun K hK => ?_) AllReadyH.nil
                      replace HM := Lib.hid (HM.out.setS y ((z1 : Int) + (z2 : Int)))
                      go_simp
                      refine hK.out _ _ ⟨HM.out.tr.fields.2.2.2.2, (HM.out.cellS hlz).trans (by rw [updI_ne hly, Hz1.out]), (HM.out.cellS hrz).trans (by rw [updI_ne hry, Hz2.out])⟩ (fun HS => ?_)
                      clear hK cs fs
                      generalize va.setCell ⟨b.s, y, none⟩ (.int .i64 ((z1 : Int) + (z2 : Int))) = vb at *
                      refine wpAnyH_done (by kernel_rfl) ⟨rfl, ?_⟩ _
                      clear HS
                      clear hsum
                      go_wp2_with fail
                      replace HM := Lib.hid HM.out.drew
                      have HS : True := trivial
                      refine region_plain (fun w' => True) (by kernel_rfl) ?_
                      generalize vb.drew = vc at *
                      refine take_at (i := 0) (d := 164) (v := ?_) rfl rfl (by kernel_rfl) (by kernel_rfl) (by kernel_rfl) (fun _ _ _ _ => NormalOnly.any) rfl ?hy91 HS ?rest91
                      case hy91 => intro w' hSw; (try dsimp only at hSw); go_simp; try (with_reducible rfl)
                      try simp only [List.setIfInBounds_toArray, List.set_cons_zero, List.set_cons_succ]
                      refine take_at (i := 1) (d := 165) (v := ?_) rfl rfl (by kernel_rfl) (by kernel_rfl) (by kernel_rfl) (fun _ _ _ _ => NormalOnly.any) rfl ?hy92 HS ?rest92
                      case hy92 => intro w' hSw; (try dsimp only at hSw); go_simp; try (with_reducible rfl)
                      try simp only [List.setIfInBounds_toArray, List.set_cons_zero, List.set_cons_succ]
                      refine take_at (i := 2) (d := 166) (v := ?_) rfl rfl (by kernel_rfl) (by kernel_rfl) (by kernel_rfl) (fun _ _ _ _ => NormalOnly.any) rfl ?hy93 HS ?rest93
                      case hy93 => intro w' hSw; (try dsimp only at hSw); go_simp; try (with_reducible rfl)
                      try simp only [List.setIfInBounds_toArray, List.set_cons_zero, List.set_cons_succ]
                      refine take_at (i := 3) (d := 167) (v := ?_) rfl rfl (by kernel_rfl) (by kernel_rfl) (by kernel_rfl) (fun _ _ _ _ => NormalOnly.any) rfl ?hy94 HS ?rest94
                      case hy94 => intro w' hSw; (try dsimp only at hSw); go_simp; try (with_reducible rfl)
                      try simp only [List.setIfInBounds_toArray, List.set_cons_zero, List.set_cons_succ]
                      refine take_at (i := 4) (d := 168) (v := ?_) rfl rfl (by kernel_rfl) (by kernel_rfl) (by kernel_rfl) (fun _ _ _ _ => NormalOnly.any) rfl ?hy95 HS ?rest95
                      case hy95 => intro w' hSw; (try dsimp only at hSw); go_simp; try (with_reducible rfl)
                      try simp only [List.setIfInBounds_toArray, List.set_cons_zero, List.set_cons_succ]
                      refine take_at (i := 5) (d := 169) (v := ?_) rfl rfl (by kernel_rfl) (by kernel_rfl) (by kernel_rfl) (fun _ _ _ _ => NormalOnly.any) rfl ?hy96 HS ?rest96
                      case hy96 => intro w' hSw; (try dsimp only at hSw); go_simp; try (with_reducible rfl)
                      try simp only [List.setIfInBounds_toArray, List.set_cons_zero, List.set_cons_succ]
                      refine take_at (i := 6) (d := 170) (v := ?_) rfl rfl (by kernel_rfl) (by kernel_rfl) (by kernel_rfl) (fun _ _ _ _ => NormalOnly.any) rfl ?hy97 HS ?rest97
                      case hy97 => intro w' hSw; (try dsimp only at hSw); go_simp; try (with_reducible rfl)
                      try simp only [List.setIfInBounds_toArray, List.set_cons_zero, List.set_cons_succ]
                      refine take_at (i := 7) (d := 171) (v := ?_) rfl rfl (by kernel_rfl) (by kernel_rfl) (by kernel_rfl) (fun _ _ _ _ => NormalOnly.any) rfl ?hy98 HS ?rest98
                      case hy98 => intro w' hSw; (try dsimp only at hSw); go_simp; try (with_reducible rfl)
                      try simp only [List.setIfInBounds_toArray, List.set_cons_zero, List.set_cons_succ]
                      refine take_at (i := 9) (d := 172) (v := ?_) rfl rfl (by kernel_rfl) (by kernel_rfl) (by kernel_rfl) (fun _ _ _ _ => NormalOnly.any) rfl ?hy99 HS ?rest99
                      case hy99 => intro w' hSw; (try dsimp only at hSw); go_simp; try (with_reducible rfl)
                      try simp only [List.setIfInBounds_toArray, List.set_cons_zero, List.set_cons_succ]
                      have cs := setC_cell HM.out.tr.ru hmb
                      have fs := HM.out.tr.ru.frozen (mb * 2)
                      refine wpAnyH_ready (rs := [8]) (by kernel_rfl) (by simp) ?_
                      refine AllReadyH.cons rfl (fun K hK => ?_) AllReadyH.nil
                      replace HM := Lib.hid (HM.out.setUp mb ma)
                      go_simp
                      refine hK.out _ _ trivial (fun HS => ?_)
                      clear hK cs fs
                      generalize vc.setCell ⟨b.u, mb * 2, none⟩ (.int .i64 (ma : Nat)) = vd at *
                      refine take_at (i := 10) (d := 173) (v := ?_) rfl rfl (by kernel_rfl) (by kernel_rfl) (by kernel_rfl) (fun _ _ _ _ => NormalOnly.any) rfl ?hy100 HS ?rest100
                      case hy100 => intro w' hSw; (try dsimp only at hSw); go_simp; try (with_reducible rfl)
                      try simp only [List.setIfInBounds_toArray, List.set_cons_zero, List.set_cons_succ]
                      have cs := setC_cell1 HM.out.tr.ru hma
                      have fs := HM.out.tr.ru.frozen (ma * 2 + 1)
                      refine wpAnyH_ready (rs := [11]) (by kernel_rfl) (by simp) ?_
                      refine AllReadyH.cons rfl (fun K hK => ?_) AllReadyH.nil
                      replace HM := Lib.hid (HM.out.setRt ma y)
                      go_simp
                      refine hK.out _ _ trivial (fun HS => ?_)
                      clear hK cs fs
                      generalize vd.setCell ⟨b.u, ma * 2 + 1, none⟩ (.int .i64 (y : Nat)) = ve at *
                      refine wpAnyH_done (by kernel_rfl) ⟨rfl, ?_⟩ _
                      clear HS
                      have HMU := Lib.hid (show ∃ up, BdM w1 ve b k z (stL E f k (i + 1)) (stR E f k (i + 1)) (stP E f k (i + 1)) (stH E f k (i + 1)) (stZ E f k (i + 1)) up (nd E f k (i + 1)) ∧ UL k up (lbI E f (i + 1)) from
                        ⟨_, (HM.out.congr (L' := stL E f k (i + 1)) (R' := stR E f k (i + 1)) (P' := stP E f k (i + 1)) (H' := stH E f k (i + 1)) (Z' := stZ E f k (i + 1)) (fun j _ => HeL.out j) (fun j _ => HeR.out j) (fun j _ => HeP.out j) (fun j _ => HeH.out j) (fun j _ => by rw [← HeZ.out j, Int.natCast_add]; rfl)).congrU (fun _ _ => rfl) (fun j _ => HeN.out j), HUn.out⟩)
                      clear HM
                      go_wp2_with fail
                      go_roundw
                      case rel => exact ⟨i + 1, by omega, by go_num, HMU⟩
                      case measure => simp only [intOf]; omega
                · obtain rfl : m = i := by omega
                  obtain ⟨up, hM, _⟩ := HMU.out
                  have hsl := HSz1.out
                  have hZ3 := HZ.out.below hM.bel hsl
                  have hB3 := HB.out.trans (hM.bel.mono (Nat.le_of_lt hsl))
                  have t0 : wr.cell? ⟨b.t, 0, none⟩ = some (.int .i64 (k : Nat)) := hM.tr.st.cell (i := 0) (by omega)
                  obtain ⟨t1, t2, t3, t4, t5⟩ := hM.tr.fields
                  have z0 := hZ3.cell (i := 0) (by omega)
                  have z1 := hZ3.cell (i := 1) (by omega)
                  have z2 := hZ3.cell (i := 2) (by omega)
                  have z3 := hZ3.cell (i := 3) (by omega)
                  have z4 := hZ3.cell (i := 4) (by omega)
                  have z5 := hZ3.cell (i := 5) (by omega)
                  have fz := fun i => hZ3.frozen i
                  have hset := fun (g : Nat) (F : Nat → Value) (hg : w.heap.size ≠ g) (hr : Row wr g z F) => ((((((hr.setOther (a := ⟨w.heap.size, 0, none⟩) hg.symm (.int .i64 (k : Nat))).setOther (a := ⟨w.heap.size, 1, none⟩) hg.symm (.slice (some ⟨b.l, 0, none⟩) z z)).setOther (a := ⟨w.heap.size, 2, none⟩) hg.symm (.slice (some ⟨b.r, 0, none⟩) z z)).setOther (a := ⟨w.heap.size, 3, none⟩) hg.symm (.slice (some ⟨b.p, 0, none⟩) z z)).setOther (a := ⟨w.heap.size, 4, none⟩) hg.symm (.slice (some ⟨b.h, 0, none⟩) z z)).setOther (a := ⟨w.heap.size, 5, none⟩) hg.symm (.slice (some ⟨b.s, 0, none⟩) z z))
                  have H3 := Lib.hid ((((((hZ3.set 0 (.int .i64 (k : Nat))).set 1 (.slice (some ⟨b.l, 0, none⟩) z z)).set 2 (.slice (some ⟨b.r, 0, none⟩) z z)).set 3 (.slice (some ⟨b.p, 0, none⟩) z z)).set 4 (.slice (some ⟨b.h, 0, none⟩) z z)).set 5 (.slice (some ⟨b.s, 0, none⟩) z z))
                  have HB3 := Lib.hid ((((((hB3.setCell (p := ⟨w.heap.size, 0, none⟩) (Nat.le_refl _) (.int .i64 (k : Nat))).setCell (p := ⟨w.heap.size, 1, none⟩) (Nat.le_refl _) (.slice (some ⟨b.l, 0, none⟩) z z)).setCell (p := ⟨w.heap.size, 2, none⟩) (Nat.le_refl _) (.slice (some ⟨b.r, 0, none⟩) z z)).setCell (p := ⟨w.heap.size, 3, none⟩) (Nat.le_refl _) (.slice (some ⟨b.p, 0, none⟩) z z)).setCell (p := ⟨w.heap.size, 4, none⟩) (Nat.le_refl _) (.slice (some ⟨b.h, 0, none⟩) z z)).setCell (p := ⟨w.heap.size, 5, none⟩) (Nat.le_refl _) (.slice (some ⟨b.s, 0, none⟩) z z))
                  have lo := fun g hg => hM.lo g hg
                  have nl : w.heap.size ≠ b.l := by have := lo b.l (by simp [Blk.list]); omega
                  have nr : w.heap.size ≠ b.r := by have := lo b.r (by simp [Blk.list]); omega
                  have np : w.heap.size ≠ b.p := by have := lo b.p (by simp [Blk.list]); omega
                  have nh : w.heap.size ≠ b.h := by have := lo b.h (by simp [Blk.list]); omega
                  have ns : w.heap.size ≠ b.s := by have := lo b.s (by simp [Blk.list]); omega
                  have HLo := Lib.hid (show w.heap.size ≤ b.l ∧ w.heap.size ≤ b.r ∧ w.heap.size ≤ b.p ∧ w.heap.size ≤ b.h ∧ w.heap.size ≤ b.s from ⟨by have := lo b.l (by simp [Blk.list]); omega, by have := lo b.r (by simp [Blk.list]); omega, by have := lo b.p (by simp [Blk.list]); omega, by have := lo b.h (by simp [Blk.list]); omega, by have := lo b.s (by simp [Blk.list]); omega⟩)
                  have HR := Lib.hid (And.intro (hset _ _ nl hM.tr.rl) (And.intro (hset _ _ nr hM.tr.rr) (And.intro (hset _ _ np hM.tr.rp) (And.intro (hset _ _ nh hM.tr.rh) (hset _ _ ns hM.tr.rs)))))
                  clear hM hZ3 hB3 hset lo nl nr np nh ns HMU HM
                  go_wp2_with fail
                  generalize (((((wr.setCell ⟨w.heap.size, 0, none⟩ (.int .i64 (k : Nat))).setCell ⟨w.heap.size, 1, none⟩ (.slice (some ⟨b.l, 0, none⟩) z z)).setCell ⟨w.heap.size, 2, none⟩ (.slice (some ⟨b.r, 0, none⟩) z z)).setCell ⟨w.heap.size, 3, none⟩ (.slice (some ⟨b.p, 0, none⟩) z z)).setCell ⟨w.heap.size, 4, none⟩ (.slice (some ⟨b.h, 0, none⟩) z z)).setCell ⟨w.heap.size, 5, none⟩ (.slice (some ⟨b.s, 0, none⟩) z z) = wz at *
                  have s0 := H3.out.cell (i := 0) (by omega)
                  have s1 := H3.out.cell (i := 1) (by omega)
                  have s2 := H3.out.cell (i := 2) (by omega)
                  have s3 := H3.out.cell (i := 3) (by omega)
                  have s4 := H3.out.cell (i := 4) (by omega)
                  have s5 := H3.out.cell (i := 5) (by omega)
                  refine bodyPost_ret (v := .tuple #[.agg (trV k z b), .int .i64 0]) (by simp [results, Tryz.results15, go_sem, s0, s1, s2, s3, s4, s5, trV]) rfl ?_
                  obtain ⟨r1, r2, r3, r4, r5⟩ := HR.out
                  have hfm2 := Hfm.out
                  rw [← hfm2] at r1 r2 r3 r4 r5
                  have hfz := Hz.out
                  exact ⟨HB3.out, .inr ⟨k, o, b, z, rfl, HG.out, HO.out, rfl, by rw [Hf.out]; exact ⟨HFo.out, hkn, by omega, ⟨r1.lt, r2.lt, r3.lt, r4.lt, r5.lt⟩, r1, r2, r3, r4, r5⟩, HLo.out⟩⟩
end Go.Proofs.YtpbgophogneecaaGreat
