/- Plain facts about edges above a threshold that are added. No program. -/
import Derived.Test.YtibdggbejogciaaCvPl
import Derived.Test.YtibdggbejogciaaBlt
namespace Go.Proofs.Ytibdggbejogciaa

/-- an edge, lifted above a threshold -/
def upE (θ : Int) (e : Ed) : Ed := if e.w ≤ θ then ⟨e.u, e.v, θ + 1⟩ else e
theorem upE_w (θ : Int) (e : Ed) : θ < (upE θ e).w := by
  unfold upE
  by_cases h : e.w ≤ θ
  · rw [if_pos h]; show θ < θ + 1; omega
  · rw [if_neg h]; omega
theorem upE_ends (θ : Int) (e : Ed) : (upE θ e).u = e.u ∧ (upE θ e).v = e.v := by unfold upE; split <;> exact ⟨rfl, rfl⟩
theorem eAt_left {E M : List Ed} {i : Nat} (h : i < E.length) : eAt (E ++ M) i = eAt E i := by
  rw [eAt_eq h, eAt_eq (by simp; omega), List.getElem_append_left h]
theorem eAt_right {E M : List Ed} {i : Nat} (h1 : E.length ≤ i) (h2 : i < (E ++ M).length) : eAt (E ++ M) i = eAt M (i - E.length) := by
  rw [List.length_append] at h2
  rw [eAt_eq (by simp; omega), eAt_eq (by omega), List.getElem_append_right h1]
theorem labO_edP {E F : List Ed} {o : List Nat} (h : ∀ i, i ∈ o → edP E i = edP F i) : labO E o = labO F o := by
  unfold labO
  rw [List.map_congr_left h]
theorem lbW_app {E M : List Ed} {θ : Int} (h : ∀ i, i < M.length → θ < (eAt M i).w) : lbW (E ++ M) θ = lbW E θ := by
  unfold lbW
  have e1 : (List.range (E ++ M).length).filter (leW (E ++ M) θ) = (List.range E.length).filter (leW E θ) := by
    rw [List.length_append, List.range_add, List.filter_append]
    have e2 : ((List.range M.length).map (E.length + ·)).filter (leW (E ++ M) θ) = [] := by
      rw [List.filter_eq_nil_iff]
      intro i hi c
      obtain ⟨j, hj, rfl⟩ := List.mem_map.1 hi
      rw [List.mem_range] at hj
      have h1 := leW_iff.1 c
      rw [eAt_right (by omega) (by rw [List.length_append]; omega), Nat.add_sub_cancel_left] at h1
      have := h j hj; omega
    rw [e2, List.append_nil]
    apply List.filter_congr
    intro i hi
    rw [List.mem_range] at hi
    unfold leW; rw [eAt_left hi]
  rw [e1]
  apply labO_edP
  intro i hi
  have hi2 := List.mem_range.1 (List.mem_filter.1 hi).1
  unfold edP; rw [eAt_left hi2]
theorem upE_all {M : List Ed} {θ : Int} : ∀ i, i < (M.map (upE θ)).length → θ < (eAt (M.map (upE θ)) i).w := by
  intro i hi
  rw [eAt_eq hi, List.getElem_map]; exact upE_w _ _
theorem app_ok {n : Nat} {E M : List Ed} {θ : Int} (h1 : GOk n E) (h2 : GOk n M) (hl : E.length + M.length ≤ 16384) : GOk n (E ++ M.map (upE θ)) := by
  refine ⟨h1.n_le, by rw [List.length_append, List.length_map]; exact hl, fun i hi => ?_⟩
  by_cases c : i < E.length
  · rw [eAt_left c]; exact h1.ends i c
  · rw [eAt_right (by omega) hi]
    rw [List.length_append, List.length_map] at hi
    have h3 := h2.ends (i - E.length) (by omega)
    have e : eAt (M.map (upE θ)) (i - E.length) = upE θ (eAt M (i - E.length)) := by
      rw [eAt_eq (by rw [List.length_map]; omega), List.getElem_map, eAt_eq (by omega)]
    rw [e, (upE_ends θ _).1, (upE_ends θ _).2]; exact h3
theorem up_take {E M : List Ed} {θ : Int} {k : Nat} (h : k < M.length) : E ++ (M.take (k + 1)).map (upE θ) = (E ++ (M.take k).map (upE θ)) ++ [upE θ (eAt M k)] := by
  rw [List.take_succ_eq_append_getElem h, List.map_append, ← List.append_assoc, eAt_eq h]; rfl
end Go.Proofs.Ytibdggbejogciaa
