/- Plain mathematics of neighbours: the neighbours of a vertex in increasing order, and the keys of a map that holds them. No conditions but that the graph is accepted. -/
import Derived.Test.YtemcilmefknbbaaAround
import Derived.Maps.Views
import Derived.Lib.SlKeysI
namespace Go.Proofs.Ytemcilmefknbbaa
open Go.RowKit Go.Maps

/-- are two vertices joined by an edge? -/
def nearB (E : List Ed) (x y : Int) : Bool := E.any fun e => decide (e.u = x ∧ e.v = y ∨ e.u = y ∧ e.v = x)
/-- the neighbours of a vertex -/
def nbr (o : Option (Nat × List Ed)) (v : Int) : List Int := ((List.range (gN o)).filter fun (y : Nat) => nearB (gE o) v (y : Int)).map fun (y : Nat) => (y : Int)
/-- a graph that is accepted, if there is one -/
def GoG : Option (Nat × List Ed) → Prop
  | some x => GOk x.1 x.2
  | none => True
theorem GV.good {w : World} {B : Nat} {v : Value} {o : Option (Nat × List Ed)} (h : GV w B v o) : GoG o := by
  cases o with
  | none => trivial
  | some x => obtain ⟨b, _, h2⟩ := h; exact h2.ok
theorem nearB_iff {E : List Ed} {x y : Int} : nearB E x y = true ↔ ∃ i, i < E.length ∧ ((eAt E i).u = x ∧ (eAt E i).v = y ∨ (eAt E i).u = y ∧ (eAt E i).v = x) := by
  simp only [nearB, List.any_eq_true, decide_eq_true_eq]
  constructor
  · rintro ⟨e, he, h⟩
    obtain ⟨i, hi, rfl⟩ := List.mem_iff_getElem.1 he
    exact ⟨i, hi, by rw [eAt_eq hi]; exact h⟩
  · rintro ⟨i, hi, h⟩
    rw [eAt_eq hi] at h
    exact ⟨_, List.getElem_mem hi, h⟩
theorem nearB_symm (E : List Ed) (x y : Int) : nearB E x y = nearB E y x := by
  rw [Bool.eq_iff_iff, nearB_iff, nearB_iff]
  constructor <;> rintro ⟨i, hi, h⟩ <;> exact ⟨i, hi, by omega⟩
theorem GOk.near {n : Nat} {E : List Ed} (G : GOk n E) {x y : Int} (h : nearB E x y = true) : 0 ≤ x ∧ x < n ∧ 0 ≤ y ∧ y < n ∧ x ≠ y := by
  obtain ⟨i, hi, h⟩ := nearB_iff.1 h
  have := G.ends i hi
  omega
theorem mem_nbr {o : Option (Nat × List Ed)} {v y : Int} : y ∈ nbr o v ↔ 0 ≤ y ∧ y < gN o ∧ nearB (gE o) v y = true := by
  simp only [nbr, List.mem_map, List.mem_filter, List.mem_range]
  constructor
  · rintro ⟨z, ⟨h1, h2⟩, rfl⟩; exact ⟨by omega, by omega, h2⟩
  · rintro ⟨h1, h2, h3⟩; exact ⟨y.toNat, ⟨by omega, by rw [Int.toNat_of_nonneg h1]; exact h3⟩, Int.toNat_of_nonneg h1⟩
theorem range_lt (n : Nat) : (List.range n).Pairwise (· < ·) := List.pairwise_lt_range
theorem nbr_sorted (o : Option (Nat × List Ed)) (v : Int) : (nbr o v).Pairwise (· < ·) := by
  unfold nbr
  refine List.pairwise_map.2 (((range_lt _).filter _).imp fun h => ?_)
  omega
theorem nbr_nodup (o : Option (Nat × List Ed)) (v : Int) : (nbr o v).Nodup := (nbr_sorted o v).imp fun h => by omega
theorem nbr_len (o : Option (Nat × List Ed)) (v : Int) : (nbr o v).length ≤ gN o := by
  unfold nbr
  rw [List.length_map]
  have := List.length_filter_le (fun y : Nat => nearB (gE o) v (y : Int)) (List.range (gN o))
  simpa using this
theorem GoG.n_le {o : Option (Nat × List Ed)} (h : GoG o) : gN o ≤ 4096 := by
  cases o with
  | none => exact Nat.zero_le _
  | some x => exact GOk.n_le h
theorem GoG.near {o : Option (Nat × List Ed)} (h : GoG o) {x y : Int} (hn : nearB (gE o) x y = true) : 0 ≤ x ∧ x < gN o ∧ 0 ≤ y ∧ y < gN o ∧ x ≠ y := by
  cases o with
  | none => simp [gE, nearB] at hn
  | some z => exact GOk.near h hn
theorem mem_around {o : Option (Nat × List Ed)} (h : GoG o) {v y : Int} : (∃ p, p ∈ around o v ∧ p.2 = y) ↔ y ∈ nbr o v := by
  rw [mem_nbr]
  constructor
  · rintro ⟨p, hp, rfl⟩
    obtain ⟨i, hi, rfl⟩ := List.mem_map.1 hp
    obtain ⟨k, hk, rfl⟩ := List.mem_iff_getElem.1 hi
    obtain ⟨z, x, rfl, rfl, hx, h1, h2⟩ := gAdj_at hk
    have hE := GOk.ends h _ h1
    have hne : nearB z.2 (x : Int) (oth z.2 x (gAdj (some z) (x : Int))[k]) = true := by
      refine nearB_iff.2 ⟨_, h1, ?_⟩
      simp only [inc, decide_eq_true_eq] at h2
      unfold oth
      split
      · rename_i hq; exact .inr ⟨rfl, hq⟩
      · rename_i hq; exact .inl ⟨h2.resolve_right hq, rfl⟩
    have := GOk.near h hne
    exact ⟨this.2.2.1, this.2.2.2.1, hne⟩
  · rintro ⟨h1, h2, h3⟩
    have hb := h.near h3
    cases o with
    | none => exact absurd h2 (by show ¬ y < ((0 : Nat) : Int); omega)
    | some z =>
      have h3' : nearB z.2 v y = true := h3
      obtain ⟨i, hi, h4⟩ := nearB_iff.1 h3'
      have hE := GOk.ends h i hi
      have hh : gHas (some z) v = true := gHas_yes ⟨hb.1, hb.2.1⟩
      have hm : i ∈ gAdj (some z) v := by
        rw [gAdj, if_pos hh]
        refine mem_adj.2 ⟨hi, ?_⟩
        have e : ((v.toNat : Nat) : Int) = v := Int.toNat_of_nonneg hb.1
        show decide ((eAt z.2 i).u = ((v.toNat : Nat) : Int) ∨ (eAt z.2 i).v = ((v.toNat : Nat) : Int)) = true
        rw [e, decide_eq_true_eq]
        rcases h4 with h4 | h4
        · exact .inl h4.1
        · exact .inr h4.2
      refine ⟨_, List.mem_map.2 ⟨i, hm, rfl⟩, ?_⟩
      show oth z.2 v i = y
      unfold oth
      rcases h4 with ⟨h4, h5⟩ | ⟨h4, h5⟩
      · rw [if_neg (by have := hE.2.2.2.2; omega)]; exact h5
      · rw [if_pos h5]; exact h4
theorem around_wf {o : Option (Nat × List Ed)} (h : GoG o) {v : Int} {p : Nat × Int} (hp : p ∈ around o v) : 0 ≤ p.2 ∧ p.2 < gN o := by
  have := mem_nbr.1 ((mem_around h).1 ⟨p, hp, rfl⟩)
  exact ⟨this.1, this.2.1⟩

/-- the map of the neighbours that have come -/
def seenD (pre : List (Nat × Int)) : DataW Unit := setOf (.lit (.bool true)) (pre.map fun p => .int .i64 p.2)
theorem seenD_snoc (pre : List (Nat × Int)) (x : Nat × Int) : seenD (pre ++ [x]) = (seenD pre).put (.int .i64 x.2) (.lit (.bool true)) := by
  simp [seenD, setOf_snoc]
theorem mem_insert_of {H : Type} {x : Lit × DataW H} : ∀ {l : List (Lit × DataW H)} {p : Lit × DataW H}, p ∈ DataW.insert x l → p = x ∨ p ∈ l
  | [], p, h => by simp only [DataW.insert, List.mem_singleton] at h; exact .inl h
  | y :: r, p, h => by
    simp only [DataW.insert] at h
    split at h
    · exact List.mem_cons.1 h
    · rcases List.mem_cons.1 h with h | h
      · exact .inr (by simp [h])
      · rcases mem_insert_of h with h | h
        · exact .inl h
        · exact .inr (by simp [h])
theorem keys_int (pre : List (Nat × Int)) : ∃ es, seenD pre = .map es ∧ es.Pairwise (fun p q => p.1 ≠ q.1) ∧ ∀ p ∈ es, ∃ x, p.1 = .int .i64 x := by
  induction h : pre.length generalizing pre with
  | zero =>
    obtain rfl := List.eq_nil_of_length_eq_zero h
    exact ⟨[], rfl, List.Pairwise.nil, fun _ hp => by cases hp⟩
  | succ n ih =>
    have hne : pre ≠ [] := fun e => by rw [e] at h; cases h
    have e := List.dropLast_concat_getLast hne
    obtain ⟨es, h1, h2, h3⟩ := ih pre.dropLast (by simp [h])
    obtain ⟨fs, h4, h5⟩ := tidy_setOf (.lit (.bool true) : DataW Unit) (pre.map fun p => .int .i64 p.2) (fun x hx => by obtain ⟨p, _, rfl⟩ := List.mem_map.1 hx; trivial)
    refine ⟨fs, h4, h5, ?_⟩
    have h6 : seenD pre = .map fs := h4
    rw [← e, seenD_snoc, h1] at h6
    have h7 : DataW.insert (.int .i64 (pre.getLast hne).2, .lit (.bool true)) (es.filter fun p => !p.1.sameKey (.int .i64 (pre.getLast hne).2)) = fs := by
      simpa [DataW.put] using h6
    intro p hp
    rw [← h7] at hp
    rcases mem_insert_of hp with rfl | hp
    · exact ⟨_, rfl⟩
    · exact h3 p (List.mem_filter.1 hp).1
theorem keys_nbr {o : Option (Nat × List Ed)} (h : GoG o) (v : Int) : (nbr o v).Perm (intKeys (seenD (around o v))) := by
  obtain ⟨es, h1, h2, h3⟩ := keys_int (around o v)
  rw [h1]
  refine perm_intKeys h2 h3 (nbr_nodup o v) fun x => ?_
  rw [← h1, seenD, has_setOf _ _ _ (fun y hy => by obtain ⟨p, _, rfl⟩ := List.mem_map.1 hy; trivial), ← mem_around h]
  simp only [List.any_eq_true, List.mem_map]
  constructor
  · rintro ⟨p, hp, rfl⟩; exact ⟨_, ⟨p, hp, rfl⟩, by simp [Lit.sameKey]⟩
  · rintro ⟨_, ⟨p, hp, rfl⟩, h4⟩; exact ⟨p, hp, by simpa [Lit.sameKey] using h4⟩
theorem keys_size {o : Option (Nat × List Ed)} (h : GoG o) (v : Int) : Maps.size (seenD (around o v)) ≤ 4096 := by
  have h1 := (keys_nbr h v).length_eq
  have h2 := nbr_len o v
  have h3 := h.n_le
  obtain ⟨es, h4, _⟩ := keys_int (around o v)
  rw [h4] at h1 ⊢
  simp only [intKeys, List.length_map] at h1
  simp only [Maps.size]; omega
theorem sort_nbr {o : Option (Nat × List Ed)} (h : GoG o) {v : Int} {ss : List Int} (hs : ss.Perm (intKeys (seenD (around o v)))) : ss.mergeSort (fun x y => decide (x ≤ y)) = nbr o v := by
  have e : ss.mergeSort leI = (nbr o v).mergeSort leI := mergeSort_of_perm_i (hs.trans (keys_nbr h v).symm)
  refine e.trans (List.mergeSort_of_pairwise ((nbr_sorted o v).imp fun h => ?_))
  simp only [leI, decide_eq_true_eq]; omega
end Go.Proofs.Ytemcilmefknbbaa
