/- Plain mathematics: a spanning forest of the smallest weight has the least weights. No conditions. -/
import Derived.Test.YtbmcflmflmlmaaaSwR
import Derived.Test.YtbmcflmflmlmaaaSwD
import Derived.Test.YtbmcflmflmlmaaaSmE
import Derived.Test.YtbmcflmflmlmaaaMin
namespace Go.Proofs.Ytbmcflmflmlmaaa
open Go.RowKit

/-- two sorted lists, one of which has no fewer numbers up to each bound -/
theorem maj : ∀ {X Y : List Int}, X.Pairwise (· ≤ ·) → Y.Pairwise (· ≤ ·) → X.length = Y.length → (∀ θ : Int, (X.filter fun x => decide (x ≤ θ)).length ≤ (Y.filter fun x => decide (x ≤ θ)).length) → Y.sum ≤ X.sum ∧ (X.sum = Y.sum → X = Y)
  | [], [], _, _, _, _ => ⟨Int.le_refl _, fun _ => rfl⟩
  | [], _ :: _, _, _, h, _ => by simp at h
  | _ :: _, [], _, _, h, _ => by simp at h
  | x :: X, y :: Y, hX, hY, hl, hc => by
    obtain ⟨hx, hX'⟩ := List.pairwise_cons.1 hX
    obtain ⟨hy, hY'⟩ := List.pairwise_cons.1 hY
    have hyx : y ≤ x := by
      by_cases c : y ≤ x
      · exact c
      · exfalso
        have h1 := hc x
        have h2 : (y :: Y).filter (fun z => decide (z ≤ x)) = [] := by
          rw [List.filter_eq_nil_iff]
          intro z hz
          rcases List.mem_cons.1 hz with rfl | hz
          · simpa using c
          · have := hy z hz; simp; omega
        rw [h2, List.filter_cons, if_pos (by simp)] at h1
        simp at h1
    have ih := maj hX' hY' (by simpa using hl) (fun θ => by
      by_cases c : x ≤ θ
      · have h1 := hc θ
        rw [List.filter_cons, if_pos (by simpa using c), List.filter_cons, if_pos (by simp; omega)] at h1
        simpa using h1
      · have h2 : X.filter (fun z => decide (z ≤ θ)) = [] := by
          rw [List.filter_eq_nil_iff]
          intro z hz
          have := hx z hz; simp; omega
        rw [h2]; exact Nat.zero_le _)
    rw [List.sum_cons, List.sum_cons]
    refine ⟨by omega, fun h => ?_⟩
    have h1 : x = y := by omega
    rw [h1, ih.2 (by omega)]
theorem wsOf_le (E : List Ed) (p : List Nat) (θ : Int) : ((srt (wsOf E p)).filter fun x => decide (x ≤ θ)).length = (p.filter (leW E θ)).length := by
  rw [((srt_perm (wsOf E p)).filter _).length_eq]
  unfold wsOf
  rw [List.filter_map, List.length_map]
  rfl
/-- a forest has no more edges up to a weight than the one of the smallest weight -/
theorem few_le {k : Nat} {E : List Ed} {o p : List Nat} (G : GOk k E) (ho : OrdOf E o) (hp : ∀ i, i ∈ p → i < E.length) (ha : Acy E p) (θ : Int) : (p.filter (leW E θ)).length ≤ ((frs E o).filter (leW E θ)).length := by
  have hin := G.inE hp
  have hF : ∀ i, i ∈ frs E o → i < E.length := fun i hi => ho.mem.1 ((frs_sub E o).mem hi)
  have hFin := G.inE hF
  have e1 := (acy_iff (G.inE (p := p.filter (leW E θ)) fun i hi => hp i (List.mem_filter.1 hi).1)).1 (acy_part hin ha _)
  have e2 := (acy_iff (G.inE (p := (frs E o).filter (leW E θ)) fun i hi => hF i (List.mem_filter.1 hi).1)).1 (acy_part hFin (acy_frs E o) _)
  have e3 : rk k E (p.filter (leW E θ)) ≤ rk k E (o.filter (leW E θ)) := rk_mono fun i hi => List.mem_filter.2 ⟨ho.mem.2 (hp i (List.mem_filter.1 hi).1), (List.mem_filter.1 hi).2⟩
  have e4 : labO E ((frs E o).filter (leW E θ)) = labO E (o.filter (leW E θ)) := by
    unfold labO
    refine labL_same fun a b => ?_
    rw [← ci_cn, ← ci_cn]
    have hd := ci_down (S := fun i => leW E θ i = true) (a := a) (b := b) ho.sorted (fun i l hi hl => by
      unfold leW at *
      simp only [decide_eq_true_eq] at *
      unfold ltE at hl; omega)
    exact ⟨fun h => (hd.1 (h.mono fun i hi => List.mem_filter.1 hi)).mono fun i hi => List.mem_filter.2 hi, fun h => (hd.2 (h.mono fun i hi => List.mem_filter.1 hi)).mono fun i hi => List.mem_filter.2 hi⟩
  have e5 : rk k E ((frs E o).filter (leW E θ)) = rk k E (o.filter (leW E θ)) := by unfold rk; rw [e4]
  omega
theorem least_of {k : Nat} {E : List Ed} {o p : List Nat} (G : GOk k E) (ho : OrdOf E o) (hp : ∀ i, i ∈ p → i < E.length) (ha : Acy E p) (hl : p.length = (frs E o).length) : wSum E (frs E o) ≤ wSum E p ∧ (srt (wsOf E p) = srt (wsOf E (frs E o)) ↔ wSum E p = wSum E (frs E o)) := by
  have h := maj (srt_sorted (wsOf E p)) (srt_sorted (wsOf E (frs E o))) (by rw [srt_len, srt_len]; simpa [wsOf] using hl) (fun θ => by rw [wsOf_le, wsOf_le]; exact few_le G ho hp ha θ)
  rw [srt_sum, srt_sum] at h
  exact ⟨h.1, fun e => by rw [← srt_sum, ← srt_sum, e], h.2⟩
end Go.Proofs.Ytbmcflmflmlmaaa
