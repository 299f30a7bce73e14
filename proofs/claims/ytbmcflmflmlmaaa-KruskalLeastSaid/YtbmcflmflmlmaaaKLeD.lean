/- Plain mathematics of the law KruskalLeast: edges in another order, edges of other weights. No conditions. -/
import Derived.Test.YtbmcflmflmlmaaaMajD
import Derived.Test.YtbmcflmflmlmaaaKSom
namespace Go.Proofs.Ytbmcflmflmlmaaa
open Go.RowKit

/-- the ends of an edge, as a pair -/
def pairE (e : Ed) : Nat × Nat := (e.u.toNat, e.v.toNat)
theorem edP_pair (E : List Ed) (i : Nat) : edP E i = pairE (eAt E i) := rfl
theorem lab_map (X : List Ed) : labO X (List.range X.length) = labL (X.map pairE) := by
  unfold labO
  congr 1
  apply List.ext_getElem
  · simp
  · intro i h1 h2
    simp only [List.length_map] at h2
    simp only [List.getElem_map, List.getElem_range]
    rw [edP_pair, eAt_eq h2]
theorem lab_rev (X : List Ed) : labO X.reverse (List.range X.reverse.length) = labO X (List.range X.length) := by
  rw [lab_map, lab_map]
  refine labL_same fun a b => ⟨fun h => h.mono fun p hp => by simpa using hp, fun h => h.mono fun p hp => by simpa using hp⟩
theorem und_rev (E : List Ed) (θ : Int) : undE E.reverse θ = (undE E θ).reverse := by unfold undE; rw [List.filter_reverse]
/-- edges with the same ends -/
theorem frs_ends {E E' : List Ed} {o : List Nat} (h : ∀ i, i ∈ o → edP E' i = edP E i) : frs E' o = frs E o ∧ labO E' o = labO E o := by
  induction o using rev_ind with
  | h0 => exact ⟨rfl, rfl⟩
  | h1 o j ih =>
    obtain ⟨i1, i2⟩ := ih fun i hi => h i (List.mem_append_left _ hi)
    have hj := h j (by simp)
    refine ⟨?_, ?_⟩
    · rw [frs_snoc, frs_snoc, i1, accB, accB, i2, hj]
    · rw [labO_snoc, labO_snoc, i2, hj]
/-- how many edges of the forest there are up to a weight -/
theorem cnt_le {k : Nat} {E : List Ed} {o : List Nat} (G : GOk k E) (ho : OrdOf E o) (θ : Int) : ((frs E o).filter (leW E θ)).length = k - cntN k (labO (undE E θ) (List.range (undE E θ).length)) := by
  have hF : ∀ i, i ∈ frs E o → i < E.length := fun i hi => ho.mem.1 ((frs_sub E o).mem hi)
  have e2 := (acy_iff (G.inE (p := (frs E o).filter (leW E θ)) fun i hi => hF i (List.mem_filter.1 hi).1)).1 (acy_part (G.inE hF) (acy_frs E o) _)
  have e3 := thr_same ho θ
  rw [und_some, someE_lab] at e3
  rw [← e2]
  unfold rk; rw [e3]
theorem frs_len_eq {k : Nat} {E : List Ed} {o : List Nat} (G : GOk k E) (ho : OrdOf E o) : (frs E o).length = k - cntN k (labO E (List.range E.length)) := by
  have h := frs_rank (G.inE fun i hi => ho.mem.1 hi)
  rw [show labO E o = labO E (List.range E.length) from labO_set fun i => by rw [ho.mem, List.mem_range]] at h
  omega
theorem ws_sorted {E : List Ed} {o : List Nat} (ho : OrdOf E o) : (wsOf E (frs E o)).Pairwise (· ≤ ·) := by
  have h := ho.sorted.sublist (frs_sub E o)
  unfold wsOf
  refine List.pairwise_map.2 (h.imp fun {a b} hab => ?_)
  unfold ltE at hab; omega
theorem wsOf_flt (E : List Ed) (p : List Nat) (θ : Int) : ((wsOf E p).filter fun x => decide (x ≤ θ)).length = (p.filter (leW E θ)).length := by
  unfold wsOf
  rw [List.filter_map, List.length_map]
  rfl
/-- two lists of edges of the same components at each threshold have forests of the same weights -/
theorem same_ws {k : Nat} {E E' : List Ed} {o o' : List Nat} (G : GOk k E) (G' : GOk k E') (ho : OrdOf E o) (ho' : OrdOf E' o') (hl : (frs E o).length = (frs E' o').length) (hc : ∀ θ, labO (undE E' θ) (List.range (undE E' θ).length) = labO (undE E θ) (List.range (undE E θ).length)) : wsOf E (frs E o) = wsOf E' (frs E' o') := by
  have h1 := maj (ws_sorted ho) (ws_sorted ho') (by simpa [wsOf] using hl) (fun θ => by rw [wsOf_flt, wsOf_flt, cnt_le G ho, cnt_le G' ho', hc]; exact Nat.le_refl _)
  have h2 := maj (ws_sorted ho') (ws_sorted ho) (by simpa [wsOf] using hl.symm) (fun θ => by rw [wsOf_flt, wsOf_flt, cnt_le G ho, cnt_le G' ho', hc]; exact Nat.le_refl _)
  exact h1.2 (Int.le_antisymm h2.1 h1.1)
theorem rev_ok {k : Nat} {E : List Ed} (G : GOk k E) : GOk k E.reverse := by
  refine ⟨G.n_le, by simpa using G.m_le, fun i hi => ?_⟩
  have hm : eAt E.reverse i ∈ E := by rw [eAt_eq hi]; exact List.mem_reverse.1 (List.getElem_mem hi)
  obtain ⟨j, hj, he⟩ := List.mem_iff_getElem.1 hm
  have := G.ends j hj
  rw [eAt_eq hj, he] at this
  exact this
/-- edges with other weights -/
def strE (E : List Ed) (M : List Int) : List Ed := (List.range E.length).map fun i => if i < M.length then ⟨(eAt E i).u, (eAt E i).v, nth M i⟩ else eAt E i
theorem strE_len (E : List Ed) (M : List Int) : (strE E M).length = E.length := by simp [strE]
theorem strE_at {E : List Ed} {M : List Int} {i : Nat} (h : i < E.length) : eAt (strE E M) i = if i < M.length then ⟨(eAt E i).u, (eAt E i).v, nth M i⟩ else eAt E i := by
  rw [eAt_eq (by rw [strE_len]; exact h)]
  simp [strE]
theorem strE_ed {E : List Ed} {M : List Int} {i : Nat} (h : i < E.length) : edP (strE E M) i = edP E i := by
  rw [edP_pair, edP_pair, strE_at h]; split <;> rfl
theorem strE_ok {k : Nat} {E : List Ed} (G : GOk k E) (M : List Int) : GOk k (strE E M) := by
  refine ⟨G.n_le, by rw [strE_len]; exact G.m_le, fun i hi => ?_⟩
  rw [strE_len] at hi
  have := G.ends i hi
  rw [strE_at hi]; split <;> exact this
theorem strE_take {E : List Ed} {M : List Int} {i : Nat} (h : i < E.length) : (strE E M).take (i + 1) = (strE E M).take i ++ [if i < M.length then ⟨(eAt E i).u, (eAt E i).v, nth M i⟩ else eAt E i] := by
  rw [List.take_succ_eq_append_getElem (by rw [strE_len]; exact h), ← strE_at h, eAt_eq (by rw [strE_len]; exact h)]
theorem rev_take {E : List Ed} {i : Nat} (h : i < E.length) : E.reverse.take (i + 1) = E.reverse.take i ++ [eAt E (E.length - 1 - i)] := by
  rw [List.take_succ_eq_append_getElem (by simpa using h), eAt_eq (by omega)]
  simp
/-- what is known of the three forests -/
theorem least_facts {k : Nat} {E : List Ed} {M : List Int} {o ob os : List Nat} (G : GOk k E) (ho : OrdOf E o) (hb : OrdOf E.reverse ob) (hs : OrdOf (strE E M) os) :
    (frs E o).length = (frs E.reverse ob).length ∧ (frs E o).length = (frs (strE E M) os).length ∧ wsOf E (frs E o) = wsOf E.reverse (frs E.reverse ob) ∧
    (∀ i, i ∈ frs (strE E M) os → i < E.length) ∧ (frs (strE E M) os).Nodup ∧ Acy E (frs (strE E M) os) := by
  have hin : ∀ i, i ∈ os → i < E.length := fun i hi => by have := hs.mem.1 hi; rwa [strE_len] at this
  have hin2 : ∀ i, i ∈ frs (strE E M) os → i < E.length := fun i hi => hin i ((frs_sub _ _).mem hi)
  have l1 := frs_len_eq G ho
  have l2 := frs_len_eq (rev_ok G) hb
  have l3 := frs_len_eq (strE_ok G M) hs
  rw [lab_rev] at l2
  have l4 : labO (strE E M) (List.range (strE E M).length) = labO E (List.range E.length) := by
    rw [strE_len]
    exact (frs_ends (E := E) (E' := strE E M) fun i hi => strE_ed (List.mem_range.1 hi)).2
  rw [l4] at l3
  refine ⟨by omega, by omega, same_ws G (rev_ok G) ho hb (by omega) (fun θ => by rw [und_rev, lab_rev]), hin2, ?_, ?_⟩
  · exact (frs_sub _ _).nodup (by
      have := hs.perm.nodup_iff.2 List.nodup_range
      exact this)
  · have h1 := acy_frs (strE E M) os
    unfold Acy at *
    rw [← (frs_ends (E := E) (E' := strE E M) fun i hi => strE_ed (hin2 i hi)).1]; exact h1
end Go.Proofs.Ytbmcflmflmlmaaa
