/- The walk of the law LiftNews. Conditions: the parents and the keys are given as cells; the library's table of de Bruijn is as its initialiser lays it. -/
import Derived.Test.YtbjakjgabolkeaaDoorNew2
namespace Go.Proofs.YtbjakjgabolkeaaDoor
open Go.RowKit Go.Shelf

theorem RefAt.mono {w : World} {B B' c : Nat} {p : List Int} (h : RefAt w B c p) (hB : B ≤ B') : RefAt w B' c p := by
  obtain ⟨a, cap, A, h1, h2⟩ := h.par
  exact ⟨h.tree, h.range, h.small, Nat.lt_of_lt_of_le h.lt hB, h.made, a, cap, A, h1, h2.mono hB⟩
theorem ref_any (B : Nat) (a : Option Addr) (cap : Nat) (A : Nat → Addr) (p : List Int) (w : World) (hp : p.length ≤ 8192) (hS : Sl 25 .i64 w B (.slice a p.length cap) p A) (hB : B ≤ w.heap.size) :
    Calls Tryd.prog 21 #[.slice a p.length cap] w (RefPost p w) := by
  by_cases hR : InRange p
  · exact ref_in B a cap A p w hp hR hS hB
  · exact ref_range B a cap A p w hp hR hS
/-- a world that differs in block g alone -/
structure SameBut (g : Nat) (w w' : World) : Prop where
  os : w'.os = w.os
  tape : w'.tape = w.tape
  output : w'.output = w.output
  size : w'.heap.size = w.heap.size
  block : ∀ k, k ≠ g → w'.heap[k]? = w.heap[k]?
theorem SameBut.refl (g : Nat) (w : World) : SameBut g w w := ⟨rfl, rfl, rfl, rfl, fun _ _ => rfl⟩
theorem SameBut.drewN {g : Nat} {w w' : World} (h : SameBut g w w') (n : Nat) : SameBut g w (w'.drewN n) := ⟨h.os, h.tape, h.output, h.size, h.block⟩
theorem SameBut.setCell {g : Nat} {w w' : World} (h : SameBut g w w') (j : Nat) (v : Value) : SameBut g w (w'.setCell ⟨g, j, none⟩ v) :=
  ⟨h.os, h.tape, h.output, by rw [World.size_setCell]; exact h.size, fun k hk => (Below.heap_setCell _ _ _ _ (by show k ≠ g; exact hk)).trans (h.block k hk)⟩
theorem SameBut.below {g B : Nat} {w w' : World} (h : SameBut g w w') (hB : B ≤ g) : Below B w w' := ⟨h.os, h.tape, h.output, Nat.le_of_eq h.size.symm, fun k hk => h.block k (by omega)⟩

/-- the copy, when k of its elements have been struck out -/
def rowAt (p : List Int) (k : Nat) : List Int := (List.range p.length).map fun i => if i < k then -1 else nth p i
theorem rowAt_zero (p : List Int) : rowAt p 0 = p := by
  apply List.ext_getElem
  · simp [rowAt]
  · intro i h1 h2
    simp [rowAt, nth, h2]
theorem rowAt_set (p : List Int) (k : Nat) : (rowAt p k).set k (-1) = rowAt p (k + 1) := by
  apply List.ext_getElem
  · simp [rowAt]
  · intro i h1 h2
    simp only [rowAt, List.getElem_set, List.getElem_map, List.getElem_range]
    by_cases e : k = i
    · rw [if_pos e, if_pos (by omega)]
    · rw [if_neg e]
      by_cases e2 : i < k
      · rw [if_pos e2, if_pos (by omega)]
      · rw [if_neg e2, if_neg (by omega)]
theorem rowAt_at {p : List Int} {k : Nat} (hk : k < p.length) : ((rowAt p k).map (Value.int .i64))[k]? = some (.int .i64 (nth p k)) := by
  simp [rowAt, hk]

set_option maxRecDepth 100000 in
set_option maxHeartbeats 8000000 in
theorem news_walk (B : Nat) (ap : Option Addr) (capp : Nat) (Ap : Nat → Addr) (p : List Int) (qa qb qk qm : Int) (a : Option Addr) (cap : Nat) (L : List Int) (A : Nat → Addr) (w : World) (hT : DeB w) (hSp : Sl 25 .i64 w B (.slice ap p.length capp) p Ap) (hSk : Sl 40 .i64 w B (.slice a L.length cap) L A) (hB : B ≤ w.heap.size) (hm1 : p.length ≤ 9223372036854775807) (hm2 : L.length ≤ 9223372036854775807) :
    Calls Tryd.prog 7 #[.slice ap p.length capp, .agg #[.int .i64 qa, .int .i64 qb, .int .i64 qk, .slice a L.length cap, .int .i64 qm]] w fun e w' => e = .returned (.bool true) ∧ Below w.heap.size w w' := by
  have hW0 : Below w.heap.size w (w.alloc (.cells #[.int .i64 qa, .int .i64 qb, .int .i64 qk, .slice a L.length cap, .int .i64 qm] 42)) := (Below.refl _ _).alloc (Nat.le_refl _) _
  have k0 : (w.alloc (.cells #[.int .i64 qa, .int .i64 qb, .int .i64 qk, .slice a L.length cap, .int .i64 qm] 42)).cell? ⟨w.heap.size, 0, none⟩ = some (.int .i64 qa) := by go_simp
  have k1 : (w.alloc (.cells #[.int .i64 qa, .int .i64 qb, .int .i64 qk, .slice a L.length cap, .int .i64 qm] 42)).cell? ⟨w.heap.size, 1, none⟩ = some (.int .i64 qb) := by go_simp
  have k2 : (w.alloc (.cells #[.int .i64 qa, .int .i64 qb, .int .i64 qk, .slice a L.length cap, .int .i64 qm] 42)).cell? ⟨w.heap.size, 2, none⟩ = some (.int .i64 qk) := by go_simp
  have k3 : (w.alloc (.cells #[.int .i64 qa, .int .i64 qb, .int .i64 qk, .slice a L.length cap, .int .i64 qm] 42)).cell? ⟨w.heap.size, 3, none⟩ = some (.slice a L.length cap) := by go_simp
  have k4 : (w.alloc (.cells #[.int .i64 qa, .int .i64 qb, .int .i64 qk, .slice a L.length cap, .int .i64 qm] 42)).cell? ⟨w.heap.size, 4, none⟩ = some (.int .i64 qm) := by go_simp
  have hsz0 : (w.alloc (.cells #[.int .i64 qa, .int .i64 qb, .int .i64 qk, .slice a L.length cap, .int .i64 qm] 42)).heap.size = w.heap.size + 1 := by simp
  have h1 := hT.lt
  have hD0 := hT.below hW0 h1
  by_cases hb1 : 200 < p.length
  · go_enter Tryd.func7, Tryd.ntmps7
    go_wp2_with fail
    refine (works_any _ hD0).mono ?_
    rintro e w6 ⟨rfl, hb6⟩
    go_wp2_with fail
    go_ret
    exact ⟨rfl, hW0.trans (hb6.mono (by omega))⟩
  by_cases hb2 : 300 < L.length
  · go_enter Tryd.func7, Tryd.ntmps7
    go_wp2_with fail
    refine (works_any _ hD0).mono ?_
    rintro e w6 ⟨rfl, hb6⟩
    go_wp2_with fail
    go_ret
    exact ⟨rfl, hW0.trans (hb6.mono (by omega))⟩
  have hp8 : p.length ≤ 8192 := by omega
  have hSp1 := hSp.below (hW0.mono hB)
  have hSk1 := hSk.below (hW0.mono hB)
  have hB1 : B ≤ w.heap.size + 1 := by omega
  have hBb : B ≤ (w.alloc (.cells #[.int .i64 qa, .int .i64 qb, .int .i64 qk, .slice a L.length cap, .int .i64 qm] 42)).heap.size := by omega
  clear hSp hSk hT
  go_enter Tryd.func7, Tryd.ntmps7
  go_wp2_with (at_builtin; refine copiedAny et25 rfl _ _ rfl hSp1 hBb rfl _ rfl (by simp) rfl (by omega) (by omega) ?_; intro g cp w1 hg R1 D1)
  rw [hsz0] at hg R1 D1
  obtain ⟨_, A1, S1⟩ := Sl.ownAt R1
  have hs1 := D1.size
  have hgl := (R1.lt g rfl).2
  by_cases hE : newE p = 0
  · obtain ⟨_, hR, hTr⟩ := newE_zero hE
    have HE := Lib.hid hE; have HTr := Lib.hid hTr
    refine (new_fresh w1.heap.size _ _ A1 p w1 hp8 hR S1 (Nat.le_refl _)).mono ?_
    clear hE hTr hR
    rintro e w2 ⟨hb2', h | ⟨_, b, rfl, hT2⟩⟩
    · have := h.1; rw [HTr.out] at this; cases this
    have R2 := ownsRow_below R1 hb2'
    have D2 := D1.trans (hb2'.mono (by omega))
    have hs2 := hb2'.size
    clear R1 D1 S1
    have HT2 := Lib.hid hT2
    clear hT2
    go_wp2_with fail
    refine (ref_any B ap capp Ap p w2 hp8 (hSp1.below (D2.mono hB1)) (by omega)).mono ?_
    rintro e w3 ⟨hb3', h9⟩
    obtain ⟨_, c, rfl, hT3⟩ := h9.resolve_right (fun h => h.1 HE.out)
    clear h9
    have R3 := ownsRow_below R2 hb3'
    have hb3 := D2.trans (hb3'.mono (by omega))
    have hs3' := hb3'.size
    have HT3 := Lib.hid hT3
    have HB3 := Lib.hid hb3'
    clear R2 D2 hb2' hb3' hT3
    go_wp2_with fail
    go_loopw [10] (fun i wr => ∃ k : Nat, k ≤ p.length ∧ i = .int .i64 k ∧ wr.ownsRow (w.heap.size + 1) 3 1 (.slice (some ⟨g, 0, none⟩) p.length cp) p.length ((rowAt p k).map (Value.int .i64)) ∧ SameBut g w3 wr) (fun i _ => p.length - (intOf i).toNat)
    case atStart => exact ⟨0, Nat.zero_le _, rfl, by rw [rowAt_zero]; exact R3, SameBut.refl _ _⟩
    case round =>
      obtain ⟨k, hk, rfl, R4, M4⟩ := hrel
      have hbl := hb3.trans (M4.below (show w.heap.size + 1 ≤ g by omega))
      by_cases hlt : k < p.length
      · have hki : (0 : Int) ≤ k ∧ (k : Int) < p.length := by omega
        have ce1 : ∀ q, (wr.drewN q).cell? ⟨g, k, none⟩ = some (.int .i64 (nth p k)) := fun q => (World.ownsRow.cellAt (w := wr.drewN q) R4 k (by omega)).trans (rowAt_at hlt)
        have z1 : ∀ q, (wr.drewN q).frozen? ⟨g, k, none⟩ = false := fun q => World.ownsRow.frozenAt (w := wr.drewN q) R4 k
        have ix2 := hSp1.ix k hlt
        have ce2 : ∀ q, (wr.drewN q).cell? (Ap k) = some (.int .i64 (nth p k)) := fun q => ((hSp1.below (hbl.mono hB1)).below (below_drewN (Below.refl _ wr) q)).cell k hlt
        have HS := Lib.hid (rowAt_set p k)
        go_wp2_with fail
        go_quiet (fail)
        go_wp2_with fail
        go_roundw
        case rel => exact ⟨k + 1, by omega, by go_num, by rw [← HS.out, List.map_set]; exact (World.ownsRow.stored (w := wr.drewN nq) R4 k (.int .i64 (-1))).1, (M4.drewN nq).setCell _ _⟩
        case measure => simp [intOf]; omega
      · have hBo : Both wr wr.heap.size (some p) (.pointer (some ⟨b, 0, none⟩)) (.pointer (some ⟨c, 0, none⟩)) := ⟨⟨b, rfl, (HT2.out wr (fun j j1 j2 => (M4.block j (by omega)).trans (HB3.out.block j j2))).mono (by have := M4.size; omega)⟩, c, rfl, (HT3.out wr (fun j j1 _ => M4.block j (by omega))).mono (by have := M4.size; omega)⟩
        have hs3 := hb3.size
        have hsz := M4.size
        have hK4 := (hSk1.below (hbl.mono hB1)).mono (show B ≤ wr.heap.size by omega)
        have hD4 := hD0.below hbl (by omega)
        have hcc : ∀ j : Nat, wr.cell? ⟨w.heap.size, j, none⟩ = (w.alloc (.cells #[.int .i64 qa, .int .i64 qb, .int .i64 qk, .slice a L.length cap, .int .i64 qm] 42)).cell? ⟨w.heap.size, j, none⟩ := fun j => hbl.cell (by show w.heap.size < w.heap.size + 1; omega)
        have d0 := (hcc 0).trans k0; have d1 := (hcc 1).trans k1; have d2 := (hcc 2).trans k2; have d3 := (hcc 3).trans k3; have d4 := (hcc 4).trans k4
        obtain rfl : k = p.length := by omega
        clear hcc
        go_wp2_with fail
        refine (agree_walk wr.heap.size qa qb qk qm a L.length cap L A _ _ _ wr hBo hK4 (Nat.le_refl _) rfl (by omega) hD4).mono ?_
        rintro e w5 ⟨rfl, hb5⟩
        go_wp2_with fail
        refine (works_any _ (hD4.below hb5 hD4.lt)).mono ?_
        rintro e w6 ⟨rfl, hb6⟩
        go_wp2_with fail
        go_ret
        exact ⟨rfl, hW0.trans ((hbl.trans ((hb5.trans (hb6.mono hb5.size)).mono (by have := hbl.size; omega))).mono (by omega))⟩
  · refine (new_badN rfl rfl hE (by omega) S1 (Nat.le_refl _)).mono ?_
    rintro e w2 ⟨rfl, hb2'⟩
    have R2 := ownsRow_below R1 hb2'
    have D2 := D1.trans (hb2'.mono (by omega))
    have HE := Lib.hid hE
    clear hE R1 D1 S1
    go_wp2_with fail
    refine (ref_any B ap capp Ap p w2 hp8 (hSp1.below (D2.mono hB1)) (by have := D2.size; omega)).mono ?_
    rintro e w3 ⟨hb3', h | ⟨_, rfl⟩⟩
    · exact absurd h.1 HE.out
    have R3 := ownsRow_below R2 hb3'
    have hb3 := D2.trans (hb3'.mono (by have := D2.size; omega))
    clear R2 D2 hb3' hb2'
    go_wp2_with fail
    go_loopw [10] (fun i wr => ∃ k : Nat, k ≤ p.length ∧ i = .int .i64 k ∧ wr.ownsRow (w.heap.size + 1) 3 1 (.slice (some ⟨g, 0, none⟩) p.length cp) p.length ((rowAt p k).map (Value.int .i64)) ∧ SameBut g w3 wr) (fun i _ => p.length - (intOf i).toNat)
    case atStart => exact ⟨0, Nat.zero_le _, rfl, by rw [rowAt_zero]; exact R3, SameBut.refl _ _⟩
    case round =>
      obtain ⟨k, hk, rfl, R4, M4⟩ := hrel
      have hbl := hb3.trans (M4.below (show w.heap.size + 1 ≤ g by omega))
      by_cases hlt : k < p.length
      · have hki : (0 : Int) ≤ k ∧ (k : Int) < p.length := by omega
        have ce1 : ∀ q, (wr.drewN q).cell? ⟨g, k, none⟩ = some (.int .i64 (nth p k)) := fun q => (World.ownsRow.cellAt (w := wr.drewN q) R4 k (by omega)).trans (rowAt_at hlt)
        have z1 : ∀ q, (wr.drewN q).frozen? ⟨g, k, none⟩ = false := fun q => World.ownsRow.frozenAt (w := wr.drewN q) R4 k
        have ix2 := hSp1.ix k hlt
        have ce2 : ∀ q, (wr.drewN q).cell? (Ap k) = some (.int .i64 (nth p k)) := fun q => ((hSp1.below (hbl.mono hB1)).below (below_drewN (Below.refl _ wr) q)).cell k hlt
        have HS := Lib.hid (rowAt_set p k)
        go_wp2_with fail
        go_quiet (fail)
        go_wp2_with fail
        go_roundw
        case rel => exact ⟨k + 1, by omega, by go_num, by rw [← HS.out, List.map_set]; exact (World.ownsRow.stored (w := wr.drewN nq) R4 k (.int .i64 (-1))).1, (M4.drewN nq).setCell _ _⟩
        case measure => simp [intOf]; omega
      · have hBo : Both wr wr.heap.size (none) (.pointer none) (.pointer none) := ⟨.inl rfl, rfl⟩
        have hs3 := hb3.size
        have hsz := M4.size
        have hK4 := (hSk1.below (hbl.mono hB1)).mono (show B ≤ wr.heap.size by omega)
        have hD4 := hD0.below hbl (by omega)
        have hcc : ∀ j : Nat, wr.cell? ⟨w.heap.size, j, none⟩ = (w.alloc (.cells #[.int .i64 qa, .int .i64 qb, .int .i64 qk, .slice a L.length cap, .int .i64 qm] 42)).cell? ⟨w.heap.size, j, none⟩ := fun j => hbl.cell (by show w.heap.size < w.heap.size + 1; omega)
        have d0 := (hcc 0).trans k0; have d1 := (hcc 1).trans k1; have d2 := (hcc 2).trans k2; have d3 := (hcc 3).trans k3; have d4 := (hcc 4).trans k4
        obtain rfl : k = p.length := by omega
        clear hcc
        go_wp2_with fail
        refine (agree_walk wr.heap.size qa qb qk qm a L.length cap L A _ _ _ wr hBo hK4 (Nat.le_refl _) rfl (by omega) hD4).mono ?_
        rintro e w5 ⟨rfl, hb5⟩
        go_wp2_with fail
        refine (works_any _ (hD4.below hb5 hD4.lt)).mono ?_
        rintro e w6 ⟨rfl, hb6⟩
        go_wp2_with fail
        go_ret
        exact ⟨rfl, hW0.trans ((hbl.trans ((hb5.trans (hb6.mono hb5.size)).mono (by have := hbl.size; omega))).mono (by omega))⟩
end Go.Proofs.YtbjakjgabolkeaaDoor
