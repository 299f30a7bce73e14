/- Plain mathematics: the edge that a further edge replaces is the latest of the path in the forest; forests at thresholds. No conditions. -/
import Derived.Test.YtbmcflmflmlmaaaPth
namespace Go.Proofs.Ytbmcflmflmlmaaa

section
variable {E : List Ed} {S T : Nat → Prop} {o : List Nat} {a b x y i k : Nat}
theorem ci_ends (h : ∀ k, S k → CI E T (edP E k).1 (edP E k).2) (hc : CI E S a b) : CI E T a b := by
  induction hc with
  | refl => exact .refl _
  | @step b c k _ hk hl ih =>
    have h1 := h k hk
    rcases hl with e | e
    · rw [e] at h1; exact ih.trans h1
    · rw [e] at h1; exact ih.trans h1.symm
theorem ci_add (hl : edP E i = (a, b)) (h : CI E (fun k => S k ∨ k = i) x y) : CI E S x y ∨ (CI E S x a ∧ CI E S b y) ∨ (CI E S x b ∧ CI E S a y) := by
  induction h with
  | refl => exact .inl (.refl _)
  | @step c d k _ hk hl2 ih =>
    by_cases hki : k = i
    · subst hki
      have hcd : (c = a ∧ d = b) ∨ (c = b ∧ d = a) := by
        rcases hl2 with e | e <;> rw [hl] at e <;> simp at e <;> omega
      rcases hcd with ⟨rfl, rfl⟩ | ⟨rfl, rfl⟩
      · rcases ih with h | ⟨h1, h2⟩ | ⟨h1, h2⟩
        · exact .inr (.inl ⟨h, .refl _⟩)
        · exact .inr (.inl ⟨h1, .refl _⟩)
        · exact .inl h1
      · rcases ih with h | ⟨h1, h2⟩ | ⟨h1, h2⟩
        · exact .inr (.inr ⟨h, .refl _⟩)
        · exact .inl h1
        · exact .inr (.inr ⟨h1, .refl _⟩)
    · have hS := hk.resolve_right hki
      rcases ih with h | ⟨h1, h2⟩ | ⟨h1, h2⟩
      · exact .inl (.step k h hS hl2)
      · exact .inr (.inl ⟨h1, .step k h2 hS hl2⟩)
      · exact .inr (.inr ⟨h1, .step k h2 hS hl2⟩)
theorem ci_one (hk : S k) : CI E S (edP E k).1 (edP E k).2 := CI.one hk (.inl rfl)
theorem ci_lab {a b : Nat} : CI E (· ∈ o) a b ↔ labO E o a = labO E o b := by
  rw [ci_cn]; exact (labL_cn _ a b).symm
/-- each edge's ends are joined by edges of the forest that are not later -/
theorem ci_upto (hs : o.Pairwise (ltE E)) : ∀ k, k ∈ o → CI E (fun l => l ∈ frs E o ∧ ¬ ltE E k l) (edP E k).1 (edP E k).2 := by
  induction o using rev_ind with
  | h0 => intro k hk; cases hk
  | h1 o i ih =>
    intro k hk
    have hs1 := List.pairwise_append.1 hs
    have hsub : ∀ l, l ∈ frs E o → l ∈ frs E (o ++ [i]) := fun l hl => by
      rw [frs_snoc]; split
      · exact List.mem_append_left _ hl
      · exact hl
    rcases List.mem_append.1 hk with hk | hk
    · exact (ih hs1.1 k hk).mono fun l hl => ⟨hsub l hl.1, hl.2⟩
    · obtain rfl : k = i := by simpa using hk
      by_cases hc : accB E (labO E o) k = true
      · exact ci_one ⟨by rw [frs_snoc, if_pos hc]; simp, fun c => ltE_asymm c c⟩
      · have hc : labO E o (edP E k).1 = labO E o (edP E k).2 := by simpa [accB] using hc
        rw [← labO_frs] at hc
        exact (ci_lab.2 hc).mono fun l hl => ⟨hsub l hl, fun c => ltE_asymm c (hs1.2.2 l ((frs_sub E o).mem hl) k (by simp))⟩
/-- the forest has the components of each beginning -/
theorem ci_down (hs : o.Pairwise (ltE E)) (hd : ∀ k l, S k → ltE E l k → S l) : CI E (fun k => k ∈ frs E o ∧ S k) a b ↔ CI E (fun k => k ∈ o ∧ S k) a b := by
  constructor
  · exact fun h => h.mono fun k hk => ⟨(frs_sub E o).mem hk.1, hk.2⟩
  · refine fun h => ci_ends (fun k hk => (ci_upto hs k hk.1).mono fun l hl => ⟨hl.1, ?_⟩) h
    by_cases e : l = k
    · rw [e]; exact hk.2
    · exact hd k l hk.2 ((ltE_total e).resolve_right hl.2)
/-- an edge is accepted if its ends are not joined by earlier ones -/
theorem mem_frs (hs : o.Pairwise (ltE E)) : i ∈ frs E o ↔ i ∈ o ∧ ¬ CI E (fun k => k ∈ o ∧ ltE E k i) (edP E i).1 (edP E i).2 := by
  induction o using rev_ind with
  | h0 => simp [frs_nil]
  | h1 o j ih =>
    have hs1 := List.pairwise_append.1 hs
    have ih := ih hs1.1
    have hjj : ¬ ltE E j j := fun c => ltE_asymm c c
    by_cases hij : i = j
    · subst hij
      have hno : i ∉ o := fun c => ltE_asymm (hs1.2.2 i c i (by simp)) (hs1.2.2 i c i (by simp))
      have hset : ∀ k, (k ∈ o ++ [i] ∧ ltE E k i) ↔ k ∈ o := fun k => by
        constructor
        · rintro ⟨h1, h2⟩
          rcases List.mem_append.1 h1 with h | h
          · exact h
          · simp at h; subst h; exact absurd h2 hjj
        · exact fun h => ⟨List.mem_append_left _ h, hs1.2.2 k h i (by simp)⟩
      have hci : CI E (fun k => k ∈ o ++ [i] ∧ ltE E k i) (edP E i).1 (edP E i).2 ↔ labO E o (edP E i).1 = labO E o (edP E i).2 := by
        rw [← ci_lab]
        exact ⟨fun h => h.mono fun k hk => (hset k).1 hk, fun h => h.mono fun k hk => (hset k).2 hk⟩
      rw [hci, frs_snoc]
      by_cases hc : accB E (labO E o) i = true
      · rw [if_pos hc]
        exact ⟨fun _ => ⟨by simp, by simpa [accB] using hc⟩, fun _ => by simp⟩
      · rw [if_neg hc]
        exact ⟨fun h => absurd ((frs_sub E o).mem h) hno, fun h => absurd (by simpa [accB] using h.2) hc⟩
    · have hmem : i ∈ o ++ [j] ↔ i ∈ o := by simp [hij]
      have hfm : i ∈ frs E (o ++ [j]) ↔ i ∈ frs E o := by
        rw [frs_snoc]; split
        · simp [hij]
        · exact Iff.rfl
      rw [hfm, ih, hmem]
      refine and_congr_right fun hi => not_congr ?_
      constructor
      · exact fun h => h.mono fun k hk => ⟨List.mem_append_left _ hk.1, hk.2⟩
      · refine fun h => h.mono fun k hk => ⟨?_, hk.2⟩
        rcases List.mem_append.1 hk.1 with h | h
        · exact h
        · simp at h; subst h; exact absurd hk.2 (fun c => ltE_asymm c (hs1.2.2 i hi k (by simp)))
end

/-! a further edge -/
section
variable {E : List Ed} {e : Ed} {S : Nat → Prop} {a b i j : Nat}
theorem eAt_app (h : i < E.length) : eAt (E ++ [e]) i = eAt E i := by
  unfold eAt; rw [List.getD_eq_getElem?_getD, List.getD_eq_getElem?_getD, List.getElem?_append_left h]
theorem eAt_last : eAt (E ++ [e]) E.length = e := by
  unfold eAt; rw [List.getD_eq_getElem?_getD, List.getElem?_append_right (Nat.le_refl _)]; simp
theorem edP_app (h : i < E.length) : edP (E ++ [e]) i = edP E i := by unfold edP; rw [eAt_app h]
theorem ltE_app (hi : i < E.length) (hj : j < E.length) : ltE (E ++ [e]) i j ↔ ltE E i j := by unfold ltE; rw [eAt_app hi, eAt_app hj]
theorem ltE_last (hi : i < E.length) : ltE (E ++ [e]) E.length i ↔ e.w < (eAt E i).w := by unfold ltE; rw [eAt_last, eAt_app hi]; omega
theorem ci_ext (hS : ∀ k, S k → k < E.length) : CI (E ++ [e]) S a b ↔ CI E S a b := by
  constructor
  · intro h
    induction h with
    | refl => exact .refl _
    | step k _ hk hl ih => exact .step k ih hk (by unfold Lnk at *; rw [edP_app (hS k hk)] at hl; exact hl)
  · intro h
    induction h with
    | refl => exact .refl _
    | step k _ hk hl ih => exact .step k ih hk (by unfold Lnk at *; rw [edP_app (hS k hk)]; exact hl)
end
/-- what is answered for an accepted graph and an accepted edge -/
def SwapX (E : List Ed) (F : List Nat) (u v : Nat) (W x : Int) : Prop :=
  (∃ j, PMax E (· ∈ F) u v (some j) ∧ W < (eAt E j).w ∧ x = (j : Nat)) ∨ (x = -1 ∧ (¬ CI E (· ∈ F) u v ∨ ∃ j, PMax E (· ∈ F) u v (some j) ∧ (eAt E j).w ≤ W))
theorem lt_down {E : List Ed} {j : Nat} : ∀ k l, ltE E k j → ltE E l k → ltE E l j := fun _ _ h1 h2 => ltE_trans h2 h1
theorem le_down {E : List Ed} {j : Nat} : ∀ k l, ¬ ltE E j k → ltE E l k → ¬ ltE E j l := fun _ _ h1 h2 c => h1 (ltE_trans c h2)
/-- the edge of the forest that is none of the forest with a further edge -/
theorem swap_doc {E : List Ed} {o o' : List Nat} {e : Ed} {x : Int} (ho : OrdOf E o) (ho' : OrdOf (E ++ [e]) o') (h : SwapX E (frs E o) e.u.toNat e.v.toNat e.w x) :
    (∀ i, i ∈ frs E o → i ∉ frs (E ++ [e]) o' → x = (i : Nat)) ∧ (x = -1 ∨ ∃ i, i ∈ frs E o ∧ i ∉ frs (E ++ [e]) o' ∧ x = (i : Nat)) := by
  obtain ⟨u, hu⟩ : ∃ u, e.u.toNat = u := ⟨_, rfl⟩
  obtain ⟨v, hv⟩ : ∃ v, e.v.toNat = v := ⟨_, rfl⟩
  rw [hu, hv] at h
  have hed : edP (E ++ [e]) E.length = (u, v) := by unfold edP; rw [eAt_last, hu, hv]
  have hlo : ∀ {k}, k ∈ o → k < E.length := fun hk => ho.mem.1 hk
  have hmem : ∀ {k}, k ∈ o' ↔ k < E.length + 1 := fun {k} => by rw [ho'.mem]; simp
  have sym : ∀ {S : Nat → Prop} {p q : Nat}, CI E S p q → CI E S q p := fun h => h.symm
  -- what such an edge is
  have key : ∀ i, i ∈ frs E o → i ∉ frs (E ++ [e]) o' → e.w < (eAt E i).w ∧ CI E (fun k => k ∈ o ∧ ¬ ltE E i k) u v ∧ ¬ CI E (fun k => k ∈ o ∧ ltE E k i) u v := by
    intro i hi hni
    obtain ⟨hio, hn1⟩ := (mem_frs ho.sorted).1 hi
    have hil := hlo hio
    have hc : CI (E ++ [e]) (fun k => k ∈ o' ∧ ltE (E ++ [e]) k i) (edP E i).1 (edP E i).2 := by
      rw [← edP_app (e := e) hil]
      exact Classical.not_not.1 fun c => hni ((mem_frs ho'.sorted).2 ⟨hmem.2 (by omega), c⟩)
    have hc2 : CI (E ++ [e]) (fun k => (k ∈ o ∧ ltE E k i) ∨ (k = E.length ∧ e.w < (eAt E i).w)) (edP E i).1 (edP E i).2 := hc.mono fun k hk => by
      have h1 := hmem.1 hk.1
      by_cases c : k = E.length
      · subst c; exact .inr ⟨rfl, (ltE_last hil).1 hk.2⟩
      · have h2 : k < E.length := by omega
        exact .inl ⟨ho.mem.2 h2, (ltE_app h2 hil).1 hk.2⟩
    have hin : ∀ k, (k ∈ o ∧ ltE E k i) → k < E.length := fun k hk => hlo hk.1
    by_cases hw : e.w < (eAt E i).w
    · have hc3 : CI (E ++ [e]) (fun k => (k ∈ o ∧ ltE E k i) ∨ k = E.length) (edP E i).1 (edP E i).2 := hc2.mono fun k hk => hk.imp id fun h => h.1
      have h3 := ci_add hed hc3
      rw [ci_ext hin, ci_ext hin, ci_ext hin, ci_ext hin, ci_ext hin] at h3
      have up : ∀ {p q}, CI E (fun k => k ∈ o ∧ ltE E k i) p q → CI E (fun k => k ∈ o ∧ ¬ ltE E i k) p q := fun h => h.mono fun k hk => ⟨hk.1, fun c => ltE_asymm c hk.2⟩
      have one : CI E (fun k => k ∈ o ∧ ¬ ltE E i k) (edP E i).1 (edP E i).2 := ci_one ⟨hio, fun c => ltE_asymm c c⟩
      refine ⟨hw, ?_, fun c => ?_⟩
      · rcases h3 with h | ⟨h1, h2⟩ | ⟨h1, h2⟩
        · exact absurd h hn1
        · exact ((up h1.symm).trans one).trans (up h2.symm)
        · exact ((up h2).trans one.symm).trans (up h1)
      · rcases h3 with h | ⟨h1, h2⟩ | ⟨h1, h2⟩
        · exact hn1 h
        · exact hn1 ((h1.trans c).trans h2)
        · exact hn1 ((h1.trans c.symm).trans h2)
    · exfalso
      have : CI (E ++ [e]) (fun k => k ∈ o ∧ ltE E k i) (edP E i).1 (edP E i).2 := hc2.mono fun k hk => hk.resolve_right fun h => hw h.2
      rw [ci_ext hin] at this
      exact hn1 this
  have pm : ∀ {j}, PMax E (· ∈ frs E o) u v (some j) → j ∈ frs E o ∧ CI E (fun k => k ∈ o ∧ ¬ ltE E j k) u v ∧ ¬ CI E (fun k => k ∈ o ∧ ltE E k j) u v := fun {j} h => by
    obtain ⟨h1, h2, h3⟩ := h
    exact ⟨h1, (ci_down ho.sorted le_down).1 h2, fun c => h3 ((ci_down ho.sorted lt_down).2 c)⟩
  have lower : ∀ {i j}, ltE E j i → CI E (fun k => k ∈ o ∧ ¬ ltE E j k) u v → CI E (fun k => k ∈ o ∧ ltE E k i) u v := fun {i j} hl h => h.mono fun k hk => ⟨hk.1, by
    by_cases c : k = j
    · rw [c]; exact hl
    · exact ltE_trans ((ltE_total c).resolve_right hk.2) hl⟩
  rcases h with ⟨j, hj, hw, rfl⟩ | ⟨rfl, h⟩
  · obtain ⟨h1, h2, h3⟩ := pm hj
    have hjo := (frs_sub E o).mem h1
    have hjl := hlo hjo
    refine ⟨fun i hi hni => ?_, .inr ⟨j, h1, fun c => ?_, rfl⟩⟩
    · obtain ⟨_, k2, k3⟩ := key i hi hni
      by_cases c : i = j
      · rw [c]
      · exfalso
        rcases ltE_total (E := E) c with d | d
        · exact h3 (lower d k2)
        · exact k3 (lower d h2)
    · refine ((mem_frs ho'.sorted).1 c).2 ?_
      rw [edP_app hjl]
      have hab : edP E j = ((edP E j).1, (edP E j).2) := rfl
      have h4 : CI E (fun k => (k ∈ o ∧ ltE E k j) ∨ k = j) u v := h2.mono fun k hk => by
        by_cases d : k = j
        · exact .inr d
        · exact .inl ⟨hk.1, (ltE_total d).resolve_right hk.2⟩
      have h5 := ci_add hab h4
      have hin : ∀ k, (k ∈ o ∧ ltE E k j) → k < E.length := fun k hk => hlo hk.1
      have up : ∀ {p q}, CI E (fun k => k ∈ o ∧ ltE E k j) p q → CI (E ++ [e]) (fun k => k ∈ o' ∧ ltE (E ++ [e]) k j) p q := fun h => ((ci_ext hin).2 h).mono fun k hk => ⟨hmem.2 (by have := hlo hk.1; omega), (ltE_app (hlo hk.1) hjl).2 hk.2⟩
      have one : CI (E ++ [e]) (fun k => k ∈ o' ∧ ltE (E ++ [e]) k j) u v := CI.one (i := E.length) ⟨hmem.2 (by omega), (ltE_last hjl).2 hw⟩ (.inl hed)
      rcases h5 with h | ⟨p, q⟩ | ⟨p, q⟩
      · exact absurd h h3
      · exact ((up p.symm).trans one).trans (up q.symm)
      · exact ((up q).trans one.symm).trans (up p)
  · refine ⟨fun i hi hni => ?_, .inl rfl⟩
    exfalso
    obtain ⟨k1, k2, k3⟩ := key i hi hni
    rcases h with h | ⟨j, hj, hw⟩
    · refine h ?_
      have := (ci_down (S := fun k => ¬ ltE E i k) ho.sorted le_down).2 k2
      exact this.mono fun k hk => hk.1
    · exact k3 (lower (.inl (by omega)) (pm hj).2.1)
/-- the document's answer -/
def swapD (E : List Ed) (e : Ed) (o o' : List Nat) : Int := match (frs E o).find? (fun i => decide (i ∉ frs (E ++ [e]) o')) with | some i => (i : Nat) | none => -1
theorem swap_eq {E : List Ed} {o o' : List Nat} {e : Ed} {x : Int} (ho : OrdOf E o) (ho' : OrdOf (E ++ [e]) o') (h : SwapX E (frs E o) e.u.toNat e.v.toNat e.w x) : x = swapD E e o o' := by
  obtain ⟨h1, h2⟩ := swap_doc ho ho' h
  unfold swapD
  cases hf : (frs E o).find? (fun i => decide (i ∉ frs (E ++ [e]) o')) with
  | some i =>
    have k1 := List.mem_of_find?_eq_some hf
    have k2 := List.find?_some hf
    exact h1 i k1 (by simpa using k2)
  | none =>
    rcases h2 with h | ⟨i, k1, k2, _⟩
    · exact h
    · have := List.find?_eq_none.1 hf i k1
      simp [k2] at this
end Go.Proofs.Ytbmcflmflmlmaaa
