/- Plain mathematics of components: labels that are joined pair by pair, connectivity, numbers of components, forests that are grown pair by pair. No conditions. -/
import Derived.Test.YtcpikabhcjkkmaaRows
namespace Go.Proofs.Ytcpikabhcjkkmaa

/-- labels after two vertices were connected -/
def joinF (k : Nat → Nat) (u v : Nat) : Nat → Nat := fun i => if k i = max (k u) (k v) then min (k u) (k v) else k i
/-- labels after pairs were connected, one after the other -/
def labL (ps : List (Nat × Nat)) : Nat → Nat := ps.foldl (fun k p => joinF k p.1 p.2) id
theorem labL_nil : labL [] = id := rfl
theorem labL_snoc (ps : List (Nat × Nat)) (u v : Nat) : labL (ps ++ [(u, v)]) = joinF (labL ps) u v := by simp [labL]
/-- labels that are least elements -/
structure LabOk (k : Nat → Nat) : Prop where
  le : ∀ i, k i ≤ i
  idem : ∀ i, k (k i) = k i
theorem LabOk.id : LabOk id := ⟨fun _ => Nat.le_refl _, fun _ => rfl⟩
theorem joinF_eq {k : Nat → Nat} (h : LabOk k) (u v i j : Nat) : joinF k u v i = joinF k u v j ↔ (k i = k j ∨ (k i = k u ∧ k j = k v) ∨ (k i = k v ∧ k j = k u)) := by
  unfold joinF
  have hu := h.idem u; have hv := h.idem v
  split <;> split <;> omega
theorem joinF_ok {k : Nat → Nat} (h : LabOk k) (u v : Nat) : LabOk (joinF k u v) := by
  refine ⟨fun i => ?_, fun i => ?_⟩
  · have := h.le i
    unfold joinF; split <;> omega
  · have hu := h.idem u; have hv := h.idem v; have hi := h.idem i
    have hm : k (min (k u) (k v)) = min (k u) (k v) := by
      rcases Nat.le_total (k u) (k v) with c | c
      · rw [Nat.min_eq_left c]; exact hu
      · rw [Nat.min_eq_right c]; exact hv
    unfold joinF
    by_cases c : k i = max (k u) (k v)
    · rw [if_pos c, hm]
      split <;> omega
    · rw [if_neg c, hi, if_neg c]
theorem labL_ok (ps : List (Nat × Nat)) : LabOk (labL ps) := by
  have key : ∀ (ps : List (Nat × Nat)) (k : Nat → Nat), LabOk k → LabOk (ps.foldl (fun k p => joinF k p.1 p.2) k) := by
    intro ps
    induction ps with
    | nil => intro k h; exact h
    | cons p ps ih => intro k h; exact ih _ (joinF_ok h p.1 p.2)
  exact key ps _ LabOk.id
theorem joinF_same {k : Nat → Nat} {u v : Nat} (h : k u = k v) : joinF k u v = k := by
  funext i
  unfold joinF
  rw [h, Nat.max_self, Nat.min_self]
  split <;> omega

/-- two vertices are connected -/
inductive Cn (ps : List (Nat × Nat)) : Nat → Nat → Prop
  | refl (a : Nat) : Cn ps a a
  | step {a b c : Nat} (h : Cn ps a b) (e : (b, c) ∈ ps ∨ (c, b) ∈ ps) : Cn ps a c
section
variable {ps qs : List (Nat × Nat)} {a b c : Nat}
theorem Cn.trans (h : Cn ps a b) (k : Cn ps b c) : Cn ps a c := by
  induction k with
  | refl => exact h
  | step _ e ih => exact .step ih e
theorem Cn.one (e : (a, b) ∈ ps ∨ (b, a) ∈ ps) : Cn ps a b := .step (.refl a) e
theorem Cn.symm (h : Cn ps a b) : Cn ps b a := by
  induction h with
  | refl => exact .refl _
  | step _ e ih => exact (Cn.one e.symm).trans ih
theorem Cn.mono (h : Cn ps a b) (hs : ∀ p, p ∈ ps → p ∈ qs) : Cn qs a b := by
  induction h with
  | refl => exact .refl _
  | step _ e ih => exact .step ih (e.imp (hs _) (hs _))
theorem cn_snoc {u v : Nat} : Cn (ps ++ [(u, v)]) a b ↔ (Cn ps a b ∨ (Cn ps a u ∧ Cn ps v b) ∨ (Cn ps a v ∧ Cn ps u b)) := by
  constructor
  · intro h
    induction h with
    | refl => exact .inl (.refl _)
    | @step b c _ e ih =>
      have e' : ((b, c) ∈ ps ∨ (c, b) ∈ ps) ∨ (b = u ∧ c = v) ∨ (b = v ∧ c = u) := by
        simp only [List.mem_append, List.mem_singleton, Prod.mk.injEq] at e
        rcases e with (e | e) | (e | e)
        · exact .inl (.inl e)
        · exact .inr (.inl e)
        · exact .inl (.inr e)
        · exact .inr (.inr ⟨e.2, e.1⟩)
      rcases e' with e | ⟨rfl, rfl⟩ | ⟨rfl, rfl⟩
      · rcases ih with h | ⟨h1, h2⟩ | ⟨h1, h2⟩
        · exact .inl (.step h e)
        · exact .inr (.inl ⟨h1, .step h2 e⟩)
        · exact .inr (.inr ⟨h1, .step h2 e⟩)
      · rcases ih with h | ⟨h1, h2⟩ | ⟨h1, h2⟩
        · exact .inr (.inl ⟨h, .refl _⟩)
        · exact .inr (.inl ⟨h1, .refl _⟩)
        · exact .inl h1
      · rcases ih with h | ⟨h1, h2⟩ | ⟨h1, h2⟩
        · exact .inr (.inr ⟨h, .refl _⟩)
        · exact .inl h1
        · exact .inr (.inr ⟨h1, .refl _⟩)
  · have up : ∀ {x y}, Cn ps x y → Cn (ps ++ [(u, v)]) x y := fun h => h.mono fun p hp => List.mem_append_left _ hp
    have uv : Cn (ps ++ [(u, v)]) u v := .one (.inl (by simp))
    rintro (h | ⟨h1, h2⟩ | ⟨h1, h2⟩)
    · exact up h
    · exact ((up h1).trans uv).trans (up h2)
    · exact ((up h1).trans uv.symm).trans (up h2)
theorem rev_ind {α : Type} {P : List α → Prop} (h0 : P []) (h1 : ∀ l a, P l → P (l ++ [a])) (l : List α) : P l := by
  have key : ∀ (n : Nat) (l : List α), l.length = n → P l := by
    intro n
    induction n with
    | zero => intro l hl; rw [List.eq_nil_of_length_eq_zero hl]; exact h0
    | succ n ih =>
      intro l hl
      have hne : l ≠ [] := fun e => by rw [e] at hl; cases hl
      rw [← List.dropLast_concat_getLast hne]
      exact h1 _ _ (ih _ (by rw [List.length_dropLast]; omega))
  exact key _ l rfl
/-- two vertices have one label exactly if they are connected -/
theorem labL_cn (ps : List (Nat × Nat)) : ∀ i j, labL ps i = labL ps j ↔ Cn ps i j := by
  induction ps using rev_ind with
  | h0 =>
    intro i j
    constructor
    · intro h; have h : i = j := h; subst h; exact .refl _
    · intro h
      induction h with
      | refl => rfl
      | step _ e => simp at e
  | h1 ps p ih =>
    obtain ⟨u, v⟩ := p
    intro i j
    rw [labL_snoc, joinF_eq (labL_ok ps), cn_snoc, ih, ih, ih, ih, ih]
    constructor
    · rintro (h | ⟨h1, h2⟩ | ⟨h1, h2⟩)
      · exact .inl h
      · exact .inr (.inl ⟨h1, h2.symm⟩)
      · exact .inr (.inr ⟨h1, h2.symm⟩)
    · rintro (h | ⟨h1, h2⟩ | ⟨h1, h2⟩)
      · exact .inl h
      · exact .inr (.inl ⟨h1, h2.symm⟩)
      · exact .inr (.inr ⟨h1, h2.symm⟩)
theorem labL_least (h : Cn ps a b) : labL ps a ≤ b := by
  rw [(labL_cn ps a b).2 h]; exact (labL_ok ps).le b
theorem cn_lab (ps : List (Nat × Nat)) (a : Nat) : Cn ps a (labL ps a) := (labL_cn ps _ _).1 ((labL_ok ps).idem a).symm
/-- the same connectivity, the same labels -/
theorem labL_same (h : ∀ a b, Cn ps a b ↔ Cn qs a b) : labL ps = labL qs := by
  funext a
  exact Nat.le_antisymm (labL_least ((h _ _).2 (cn_lab qs a))) (labL_least ((h _ _).1 (cn_lab ps a)))
theorem labL_uniq {k : Nat → Nat} (h1 : ∀ a, Cn ps a (k a)) (h2 : ∀ a b, Cn ps a b → k a ≤ b) : k = labL ps := by
  funext a
  exact Nat.le_antisymm (h2 _ _ (cn_lab ps a)) (labL_least (h1 a))
end

/-! numbers of components -/
/-- how many of the first n vertices are labels -/
def cntN (n : Nat) (k : Nat → Nat) : Nat := ((List.range n).filter fun i => decide (k i = i)).length
theorem cntN_id (n : Nat) : cntN n id = n := by
  unfold cntN
  rw [List.filter_eq_self.2 (fun i _ => by simp)]
  exact List.length_range
theorem cntN_mono {n : Nat} {k k' : Nat → Nat} (h : ∀ i, i < n → k' i = i → k i = i) : cntN n k' ≤ cntN n k := by
  unfold cntN
  induction n with
  | zero => simp
  | succ n ih =>
    rw [List.range_succ, List.filter_append, List.filter_append, List.length_append, List.length_append]
    have := ih fun i hi => h i (by omega)
    have h2 : ([n].filter fun i => decide (k' i = i)).length ≤ ([n].filter fun i => decide (k i = i)).length := by
      have := h n (by omega)
      by_cases c : k' n = n
      · simp [c, this c]
      · simp [c]
    omega
theorem cntN_eq {n : Nat} {k k' : Nat → Nat} (h : ∀ i, i < n → k' i = i → k i = i) (hc : cntN n k' = cntN n k) : ∀ i, i < n → (k i = i ↔ k' i = i) := by
  induction n with
  | zero => intro i hi; omega
  | succ n ih =>
    have h0 := cntN_mono fun i (hi : i < n) => h i (by omega)
    have e : ∀ k : Nat → Nat, cntN (n + 1) k = cntN n k + (if k n = n then 1 else 0) := fun k => by
      unfold cntN
      rw [List.range_succ, List.filter_append, List.length_append]
      split <;> simp_all
    rw [e, e] at hc
    have hn := h n (by omega)
    have e1 : (if k' n = n then 1 else 0) ≤ (if k n = n then 1 else (0 : Nat)) := by
      by_cases c : k' n = n
      · simp [c, hn c]
      · simp [c]
    have hc1 : cntN n k' = cntN n k := by omega
    intro i hi
    by_cases hin : i = n
    · subst hin
      constructor
      · intro c
        by_cases d : k' i = i
        · exact d
        · rw [if_pos c, if_neg d] at hc; omega
      · exact hn
    · exact ih (fun i hi => h i (by omega)) hc1 i (by omega)
/-- a pair of two components makes one less -/
theorem cntN_join {n : Nat} {k : Nat → Nat} (h : LabOk k) {u v : Nat} (hu : u < n) (hv : v < n) (hne : k u ≠ k v) : cntN n (joinF k u v) + 1 = cntN n k := by
  have hm : ∀ i, (joinF k u v i = i ↔ (k i = i ∧ i ≠ max (k u) (k v))) := fun i => by
    have hu' := h.idem u; have hv' := h.idem v; have hi := h.le i
    unfold joinF
    by_cases c : k i = max (k u) (k v)
    · rw [if_pos c]
      constructor
      · intro e; omega
      · rintro ⟨e1, e2⟩; omega
    · rw [if_neg c]
      constructor
      · intro e; exact ⟨e, fun d => c (e.trans d)⟩
      · exact fun e => e.1
  have hM : max (k u) (k v) < n := by have := h.le u; have := h.le v; omega
  have hMk : k (max (k u) (k v)) = max (k u) (k v) := by
    rcases Nat.le_total (k u) (k v) with c | c
    · rw [Nat.max_eq_right c]; exact h.idem v
    · rw [Nat.max_eq_left c]; exact h.idem u
  generalize max (k u) (k v) = M at *
  unfold cntN
  have e1 : (List.range n).filter (fun i => decide (joinF k u v i = i)) = ((List.range n).filter fun i => decide (k i = i)).filter fun i => decide (i ≠ M) := by
    rw [List.filter_filter]
    refine List.filter_congr fun i _ => ?_
    have := hm i
    by_cases c : k i = i <;> by_cases d : i = M
    · have e : ¬ joinF k u v i = i := fun e => (this.1 e).2 d
      simp [d, d ▸ e]
    · have e : joinF k u v i = i := this.2 ⟨c, d⟩
      simp [c, d, e]
    · have e : ¬ joinF k u v i = i := fun e => (this.1 e).2 d
      simp [d, d ▸ e]
    · have e : ¬ joinF k u v i = i := fun e => c (this.1 e).1
      simp [c, e]
  rw [e1]
  have hmem : M ∈ (List.range n).filter fun i => decide (k i = i) := List.mem_filter.2 ⟨List.mem_range.2 hM, by simpa using hMk⟩
  have hnd : ((List.range n).filter fun i => decide (k i = i)).Nodup := List.nodup_range.filter _
  generalize (List.range n).filter (fun i => decide (k i = i)) = l at *
  have e2 : l.filter (fun i => decide (i ≠ M)) = l.erase M := by
    rw [hnd.erase_eq_filter]
    refine List.filter_congr fun i _ => ?_
    simp [bne]
    by_cases hd : i = M <;> simp [hd]
  rw [e2, List.length_erase_of_mem hmem]
  have := List.length_pos_of_mem hmem
  omega
end Go.Proofs.Ytcpikabhcjkkmaa
