/- Plain mathematics of spanning forests: ranks, forests without cycles, thresholds. No conditions. -/
import Derived.Test.YtibdggbejogciaaGreatPl
import Derived.Test.YtibdggbejogciaaGreatOrd
namespace Go.Proofs.YtibdggbejogciaaGreat

theorem cn_of_mem {E : List Ed} {o o' : List Nat} (h : ∀ i, i ∈ o → i ∈ o') {a b : Nat} (hc : Cn (o.map (edP E)) a b) : Cn (o'.map (edP E)) a b :=
  hc.mono fun p hp => by
    obtain ⟨i, hi, rfl⟩ := List.mem_map.1 hp
    exact List.mem_map_of_mem (h i hi)
/-- labels hang on the set of the edges alone -/
theorem labO_set {E : List Ed} {o o' : List Nat} (h : ∀ i, i ∈ o ↔ i ∈ o') : labO E o = labO E o' :=
  labL_same fun _ _ => ⟨cn_of_mem fun i hi => (h i).1 hi, cn_of_mem fun i hi => (h i).2 hi⟩
/-- more edges, fewer components -/
theorem cnt_mono {E : List Ed} {n : Nat} {o o' : List Nat} (h : ∀ i, i ∈ o → i ∈ o') : cntN n (labO E o') ≤ cntN n (labO E o) :=
  cntN_mono fun i _ hi => Nat.le_antisymm ((labO_ok E o).le i) (by
    have h1 := labL_least (cn_of_mem h (cn_lab (o.map (edP E)) i))
    have h2 : labO E o' i = i := hi
    unfold labO at h2
    rw [h2] at h1; exact h1)
/-- where there are as many components, they are the same -/
theorem lab_of_cnt {E : List Ed} {n : Nat} {o o' : List Nat} (hn : InE n E o') (h : ∀ i, i ∈ o → i ∈ o') (hc : cntN n (labO E o') = cntN n (labO E o)) : labO E o = labO E o' := by
  have hfix : ∀ i, labO E o' i = i → labO E o i = i := fun i hi => Nat.le_antisymm ((labO_ok E o).le i) (by
    have h1 := labL_least (cn_of_mem h (cn_lab (o.map (edP E)) i))
    have h2 : labO E o' i = i := hi
    unfold labO at h2
    rw [h2] at h1; exact h1)
  have heq := cntN_eq (fun i _ => hfix i) hc
  -- a vertex out of range is alone
  have hout : ∀ (o : List Nat), InE n E o → ∀ a b, Cn (o.map (edP E)) a b → n ≤ a → a = b := fun o ho a b hab ha => by
    induction hab with
    | refl => rfl
    | @step b c _ e ih =>
      subst ih
      rcases e with e | e
      · obtain ⟨i, hi, he⟩ := List.mem_map.1 e
        have := (ho i hi).1
        rw [he] at this
        have : a < n := this
        omega
      · obtain ⟨i, hi, he⟩ := List.mem_map.1 e
        have := (ho i hi).2
        rw [he] at this
        have : a < n := this
        omega
  have ho : InE n E o := fun i hi => hn i (h i hi)
  refine labL_same fun a b => ⟨cn_of_mem h, fun hab => ?_⟩
  -- the label of a among o is a label among o', and it is connected to b there
  have key : ∀ x, labL (o'.map (edP E)) x = labL (o.map (edP E)) x := fun x => by
    by_cases hx : x < n
    · have h1 := (labL_ok (o.map (edP E))).le x
      have h2 := (heq (labL (o.map (edP E)) x) (by omega)).1 ((labL_ok (o.map (edP E))).idem x)
      have h3 : labL (o'.map (edP E)) x = labL (o'.map (edP E)) (labL (o.map (edP E)) x) := (labL_cn _ _ _).2 (cn_of_mem h (cn_lab _ x))
      rw [h3]; exact h2
    · rw [← hout o' hn x _ (cn_lab _ x) (by omega), ← hout o ho x _ (cn_lab _ x) (by omega)]
  rw [← labL_cn] at hab ⊢
  rw [key, key] at hab
  exact hab
/-- the number of edges that the forest of some edges has -/
def rk (n : Nat) (E : List Ed) (o : List Nat) : Nat := n - cntN n (labO E o)
theorem rk_frs {n : Nat} {E : List Ed} {o : List Nat} (h : InE n E o) : (frs E o).length = rk n E o := by
  have := frs_rank h
  unfold rk; omega
theorem rk_mono {n : Nat} {E : List Ed} {o o' : List Nat} (h : ∀ i, i ∈ o → i ∈ o') : rk n E o ≤ rk n E o' := by
  have := cnt_mono (E := E) (n := n) h
  unfold rk; omega
theorem rk_set {n : Nat} {E : List Ed} {o o' : List Nat} (h : ∀ i, i ∈ o ↔ i ∈ o') : rk n E o = rk n E o' := by
  unfold rk; rw [labO_set h]
theorem rk_le {n : Nat} {E : List Ed} {o : List Nat} (h : InE n E o) : rk n E o ≤ o.length := by rw [← rk_frs h]; exact frs_len E o
/-- further edges add at most their number -/
theorem rk_app {n : Nat} {E : List Ed} {o p : List Nat} (h : InE n E (o ++ p)) : rk n E (o ++ p) ≤ rk n E o + p.length := by
  induction p using rev_ind with
  | h0 => simp
  | h1 p i ih =>
    have ih := ih fun j hj => h j (by
      rcases List.mem_append.1 hj with c | c
      · exact List.mem_append_left _ c
      · exact List.mem_append_right _ (List.mem_append_left _ c))
    have hi : InE n E (o ++ p ++ [i]) := by rw [List.append_assoc]; exact h
    rw [← List.append_assoc]
    rw [← rk_frs hi, frs_snoc]
    have hop : InE n E (o ++ p) := fun j hj => hi j (List.mem_append_left _ hj)
    have := rk_frs hop
    split
    · rw [List.length_append, List.length_singleton, List.length_append, List.length_singleton]; omega
    · rw [List.length_append, List.length_singleton]; omega
/-- edges without a cycle: all are accepted -/
def Acy (E : List Ed) (p : List Nat) : Prop := frs E p = p
theorem acy_iff {n : Nat} {E : List Ed} {p : List Nat} (h : InE n E p) : Acy E p ↔ rk n E p = p.length := by
  rw [← rk_frs h]
  constructor
  · intro e; rw [e]
  · intro e; exact (frs_sub E p).eq_of_length e
theorem acy_frs (E : List Ed) (o : List Nat) : Acy E (frs E o) := by
  unfold Acy
  induction o using rev_ind with
  | h0 => rfl
  | h1 o i ih =>
    rw [frs_snoc]
    split
    · rename_i hc
      rw [frs_snoc, labO_frs, if_pos hc, ih]
    · exact ih
/-- a part of edges without a cycle is without one -/
theorem acy_part {n : Nat} {E : List Ed} {p : List Nat} (h : InE n E p) (ha : Acy E p) (q : Nat → Bool) : Acy E (p.filter q) := by
  have h1 : InE n E (p.filter q) := fun i hi => h i (List.mem_filter.1 hi).1
  have hs : ∀ i, i ∈ p ↔ i ∈ p.filter q ++ p.filter (fun i => !q i) := fun i => by
    rw [List.mem_append, List.mem_filter, List.mem_filter]
    cases q i <;> simp
  have h2 : InE n E (p.filter q ++ p.filter (fun i => !q i)) := fun i hi => h i ((hs i).2 hi)
  have e1 := (acy_iff h).1 ha
  rw [rk_set hs] at e1
  have e2 := rk_app h2
  have e3 := rk_le h1
  have e4 : p.length = (p.filter q).length + (p.filter fun i => !q i).length := by
    induction p with
    | nil => rfl
    | cons a t ih2 =>
      have : (t.filter q).length + (t.filter fun i => !q i).length = t.length := by
        clear ih2 e1 e2 e3 hs h1 h2 ha h
        induction t with
        | nil => rfl
        | cons b t ih => cases hb : q b <;> simp [hb] <;> omega
      cases hb : q a <;> simp [hb] <;> omega
  exact (acy_iff h1).2 (by omega)
end Go.Proofs.YtibdggbejogciaaGreat
