/- Plain mathematics: spanning forests and least ones, as the program and the document decide them. No conditions. -/
import Derived.Test.YtbmcflmflmlmaaaRMin
import Derived.Test.YtbmcflmflmlmaaaSwR
namespace Go.Proofs.Ytbmcflmflmlmaaa
open Go.RowKit

theorem spB_rsp {k : Nat} {E : List Ed} {P : List Int} {o : List Nat} (G : GOk k E) (ho : OrdOf E o) (h : spE E.length P = 0) : spB E P (frs E o).length = rspB k E P := by
  obtain ⟨hr, hd⟩ := spE_zero h
  have hp : ∀ i, i ∈ toN P → i < E.length := fun i hi => by
    obtain ⟨y, hy, rfl⟩ := List.mem_map.1 hi
    have := hr y hy; omega
  have hin := G.inE hp
  have hall : InE k E (List.range E.length) := G.inE fun i hi => List.mem_range.1 hi
  have hlo : labO E o = labO E (List.range E.length) := labO_set fun i => by rw [ho.mem, List.mem_range]
  have hfr := frs_rank (G.inE fun i hi => ho.mem.1 hi)
  rw [hlo] at hfr
  have hlen := toN_len P
  have hcp := cntN_le k (labO E (toN P))
  have hca := cntN_le k (labO E (List.range E.length))
  rw [Bool.eq_iff_iff]
  unfold spB rspB
  simp only [decide_eq_true_eq]
  constructor
  · rintro ⟨_, h2, h3⟩
    have h4 := (acy_iff hin).1 h3
    unfold rk at h4
    have h5 : labO E (toN P) = labO E (List.range E.length) := lab_of_cnt hall (fun i hi => List.mem_range.2 (hp i hi)) (by omega)
    exact ⟨fun i _ => by rw [h5], by omega⟩
  · rintro ⟨h2, h3⟩
    have h4 : cntN k (labO E (List.range E.length)) = cntN k (labO E (toN P)) := by
      unfold cntN
      congr 1
      refine List.filter_congr fun i hi => ?_
      rw [h2 i (List.mem_range.1 hi)]
    refine ⟨h, by omega, (acy_iff hin).2 ?_⟩
    unfold rk; omega
/-- two sorted lists, one of which has no fewer numbers up to each bound -/
theorem maj : ∀ {X Y : List Int}, X.Pairwise (· ≤ ·) → Y.Pairwise (· ≤ ·) → X.length = Y.length → (∀ θ : Int, (X.filter fun x => decide (x ≤ θ)).length ≤ (Y.filter fun x => decide (x ≤ θ)).length) → Y.sum ≤ X.sum ∧ (X.sum = Y.sum → X = Y)
  | [], [], _, _, _, _ => ⟨Int.le_refl _, fun _ => rfl⟩
  | [], _ :: _, _, _, h, _ => by simp at h
  | _ :: _, [], _, _, h, _ => by simp at h
  | x :: X, y :: Y, hX, hY, hl, hc => by
    obtain ⟨hx, hX'⟩ := List.pairwise_cons.1 hX
    obtain ⟨hy, hY'⟩ := List.pairwise_cons.1 hY
    have hyx : y ≤ x := by
      by_cases c : y ≤ x
      · exact c
      · exfalso
        have h1 := hc x
        have h2 : (y :: Y).filter (fun z => decide (z ≤ x)) = [] := by
          rw [List.filter_eq_nil_iff]
          intro z hz
          rcases List.mem_cons.1 hz with rfl | hz
          · simpa using c
          · have := hy z hz; simp; omega
        rw [h2, List.filter_cons, if_pos (by simp)] at h1
        simp at h1
    have ih := maj hX' hY' (by simpa using hl) (fun θ => by
      by_cases c : x ≤ θ
      · have h1 := hc θ
        rw [List.filter_cons, if_pos (by simpa using c), List.filter_cons, if_pos (by simp; omega)] at h1
        simpa using h1
      · have h2 : X.filter (fun z => decide (z ≤ θ)) = [] := by
          rw [List.filter_eq_nil_iff]
          intro z hz
          have := hx z hz; simp; omega
        rw [h2]; exact Nat.zero_le _)
    rw [List.sum_cons, List.sum_cons]
    refine ⟨by omega, fun h => ?_⟩
    have h1 : x = y := by omega
    rw [h1, ih.2 (by omega)]
/-- the edges up to a weight -/
def leW (E : List Ed) (θ : Int) (i : Nat) : Bool := decide ((eAt E i).w ≤ θ)
theorem wsOf_le (E : List Ed) (p : List Nat) (θ : Int) : ((srt (wsOf E p)).filter fun x => decide (x ≤ θ)).length = (p.filter (leW E θ)).length := by
  rw [((srt_perm (wsOf E p)).filter _).length_eq]
  unfold wsOf
  rw [List.filter_map, List.length_map]
  rfl
/-- a forest has no more edges up to a weight than the one of the smallest weight -/
theorem few_le {k : Nat} {E : List Ed} {o p : List Nat} (G : GOk k E) (ho : OrdOf E o) (hp : ∀ i, i ∈ p → i < E.length) (ha : Acy E p) (θ : Int) : (p.filter (leW E θ)).length ≤ ((frs E o).filter (leW E θ)).length := by
  have hin := G.inE hp
  have hF : ∀ i, i ∈ frs E o → i < E.length := fun i hi => ho.mem.1 ((frs_sub E o).mem hi)
  have hFin := G.inE hF
  have e1 := (acy_iff (G.inE (p := p.filter (leW E θ)) fun i hi => hp i (List.mem_filter.1 hi).1)).1 (acy_part hin ha _)
  have e2 := (acy_iff (G.inE (p := (frs E o).filter (leW E θ)) fun i hi => hF i (List.mem_filter.1 hi).1)).1 (acy_part hFin (acy_frs E o) _)
  have e3 : rk k E (p.filter (leW E θ)) ≤ rk k E (o.filter (leW E θ)) := rk_mono fun i hi => List.mem_filter.2 ⟨ho.mem.2 (hp i (List.mem_filter.1 hi).1), (List.mem_filter.1 hi).2⟩
  have e4 : labO E ((frs E o).filter (leW E θ)) = labO E (o.filter (leW E θ)) := by
    unfold labO
    refine labL_same fun a b => ?_
    rw [← ci_cn, ← ci_cn]
    have hd := ci_down (S := fun i => leW E θ i = true) (a := a) (b := b) ho.sorted (fun i l hi hl => by
      unfold leW at *
      simp only [decide_eq_true_eq] at *
      unfold ltE at hl; omega)
    exact ⟨fun h => (hd.1 (h.mono fun i hi => List.mem_filter.1 hi)).mono fun i hi => List.mem_filter.2 hi, fun h => (hd.2 (h.mono fun i hi => List.mem_filter.1 hi)).mono fun i hi => List.mem_filter.2 hi⟩
  have e5 : rk k E ((frs E o).filter (leW E θ)) = rk k E (o.filter (leW E θ)) := by unfold rk; rw [e4]
  omega
theorem least_of {k : Nat} {E : List Ed} {o p : List Nat} (G : GOk k E) (ho : OrdOf E o) (hp : ∀ i, i ∈ p → i < E.length) (ha : Acy E p) (hl : p.length = (frs E o).length) : wSum E (frs E o) ≤ wSum E p ∧ (srt (wsOf E p) = srt (wsOf E (frs E o)) ↔ wSum E p = wSum E (frs E o)) := by
  have h := maj (srt_sorted (wsOf E p)) (srt_sorted (wsOf E (frs E o))) (by rw [srt_len, srt_len]; simpa [wsOf] using hl) (fun θ => by rw [wsOf_le, wsOf_le]; exact few_le G ho hp ha θ)
  rw [srt_sum, srt_sum] at h
  exact ⟨h.1, fun e => by rw [← srt_sum, ← srt_sum, e], h.2⟩
/-- both sides of Spans -/
theorem spans_both {n : Int} {E : List Ed} {P : List Int} {w w' : World} {e : Ending} (h : SpansRes n E P w e w') : ∃ x y, e = .returned (.tuple #[.bool x, .int .i64 y]) ∧ ∀ (w2 : World) (e2 : Ending) (w2' : World), RSpansRes n E P w2 e2 w2' → e2 = .returned (.tuple #[.bool x, .int .i64 y]) := by
  rcases h with ⟨_, ⟨h0, rfl⟩ | ⟨h0, o, ho, rfl⟩⟩
  · refine ⟨_, _, rfl, ?_⟩
    rintro w2 e2 w2' ⟨_, ⟨_, rfl⟩ | ⟨k0, _⟩⟩
    · rw [ckE_bad h0]
    · rw [ckE_bad h0] at k0; exact absurd k0 h0
  · refine ⟨_, _, rfl, ?_⟩
    have hck : ckE n E P = spE E.length P := by unfold ckE; rw [if_pos h0]
    rintro w2 e2 w2' ⟨_, ⟨k0, rfl⟩ | ⟨k0, rfl⟩⟩
    · rw [hck] at k0 ⊢
      have : spB E P (frs E o).length = false := decide_eq_false fun c => k0 c.1
      rw [this]
    · rw [hck] at k0
      obtain ⟨k, rfl, G⟩ := gErr_zero h0
      rw [Int.toNat_natCast, spB_rsp G ho k0, k0]
/-- both sides of Minimal -/
theorem min_both {n : Int} {E : List Ed} {P : List Int} {w w' : World} {e : Ending} (h : MinRes n E P w e w') : ∃ x y, e = .returned (.tuple #[.bool x, .int .i64 y]) ∧ ∀ (w2 : World) (e2 : Ending) (w2' : World), RMinRes n E P w2 e2 w2' → e2 = .returned (.tuple #[.bool x, .int .i64 y]) := by
  rcases h with ⟨_, ⟨h0, rfl⟩ | ⟨h0, o, ho, rfl⟩⟩
  · refine ⟨_, _, rfl, ?_⟩
    rintro w2 e2 w2' ⟨_, ⟨_, rfl⟩ | ⟨k0, _⟩⟩
    · rw [ckE_bad h0]
    · rw [ckE_bad h0] at k0; exact absurd k0 h0
  · refine ⟨_, _, rfl, ?_⟩
    have hck : ckE n E P = spE E.length P := by unfold ckE; rw [if_pos h0]
    rintro w2 e2 w2' ⟨_, ⟨k0, rfl⟩ | ⟨k0, hk⟩⟩
    · rw [hck] at k0 ⊢
      have : minB E o P = false := by
        unfold minB
        have : spB E P (frs E o).length = false := decide_eq_false fun c => k0 c.1
        rw [this]; rfl
      rw [this]
    · rw [hck] at k0
      obtain ⟨k, rfl, G⟩ := gErr_zero h0
      rw [Int.toNat_natCast] at hk
      rcases hk with ⟨hs, rfl⟩ | ⟨hs, o', ho', rfl⟩
      · have : minB E o P = false := by unfold minB; rw [spB_rsp G ho k0, hs]; rfl
        rw [this, k0]
      · obtain rfl := ho.uniq ho'
        have hsp : spB E P (frs E o).length = true := by rw [spB_rsp G ho k0]; exact hs
        obtain ⟨_, h2, h3⟩ := spB_zero hsp
        obtain ⟨hr, _⟩ := spE_zero k0
        have hp : ∀ i, i ∈ toN P → i < E.length := fun i hi => by
          obtain ⟨y, hy, rfl⟩ := List.mem_map.1 hi
          have := hr y hy; omega
        have hl := least_of G ho hp h3 (by rw [toN_len]; omega)
        have : minB E o P = decide (wSum E (toN P) = wSum E (frs E o)) := by
          unfold minB; rw [hsp, Bool.true_and]; exact decide_eq_decide.2 hl.2
        rw [this, k0]
end Go.Proofs.Ytbmcflmflmlmaaa
