/- Plain mathematics of the greedy moves: the best label of a vertex, passes, and what they end in. No conditions but that the graph is accepted. -/
import Derived.Test.YtemcilmefknbbaaModL
namespace Go.Proofs.Ytemcilmefknbbaa

def stp (f : Int → Int) (p : Int × Int) (x : Int) : Int × Int := if p.2 < f x ∨ (f x = p.2 ∧ 0 < f x ∧ x < p.1) then (x, f x) else p
def stpS (f : Int → Int) (p : Int × Int) (x : Int) : Int × Int := if p.2 < f x then (x, f x) else p
def bst (f : Int → Int) (l : List Int) : Int × Int := l.foldl (stp f) (0, 0)
/-- the greatest gain, and the least label that has it, if it is above nought -/
def Best (f : Int → Int) (l : List Int) (p : Int × Int) : Prop :=
  (p.2 = 0 ∧ ∀ x, x ∈ l → f x ≤ 0) ∨ (0 < p.2 ∧ p.1 ∈ l ∧ f p.1 = p.2 ∧ ∀ x, x ∈ l → f x ≤ p.2 ∧ (f x = p.2 → p.1 ≤ x))
theorem Best.start (f : Int → Int) (b : Int) : Best f [] (b, 0) := .inl ⟨rfl, fun _ h => by cases h⟩
theorem Best.step {f : Int → Int} {l : List Int} {p : Int × Int} (h : Best f l p) (x : Int) : Best f (l ++ [x]) (stp f p x) := by
  unfold stp
  split
  · rename_i hc
    rcases h with ⟨h0, h1⟩ | ⟨h0, h1, h2, h3⟩
    · have hp : 0 < f x := by omega
      refine .inr ⟨hp, by simp, rfl, fun y hy => ?_⟩
      rcases List.mem_append.1 hy with hy | hy
      · have := h1 y hy; exact ⟨by simp only; omega, fun e => by simp only at e; omega⟩
      · rw [List.mem_singleton.1 hy]; exact ⟨Int.le_refl _, fun _ => Int.le_refl _⟩
    · refine .inr ⟨by simp only; omega, by simp, rfl, fun y hy => ?_⟩
      rcases List.mem_append.1 hy with hy | hy
      · have h4 := h3 y hy
        simp only
        refine ⟨by omega, fun e => ?_⟩
        have := h4.2
        omega
      · rw [List.mem_singleton.1 hy]; exact ⟨Int.le_refl _, fun _ => Int.le_refl _⟩
  · rename_i hc
    rcases h with ⟨h0, h1⟩ | ⟨h0, h1, h2, h3⟩
    · refine .inl ⟨h0, fun y hy => ?_⟩
      rcases List.mem_append.1 hy with hy | hy
      · exact h1 y hy
      · rw [List.mem_singleton.1 hy]; omega
    · refine .inr ⟨h0, by simp [h1], h2, fun y hy => ?_⟩
      rcases List.mem_append.1 hy with hy | hy
      · exact h3 y hy
      · rw [List.mem_singleton.1 hy]; exact ⟨by omega, fun e => by omega⟩
theorem Best.stepS {f : Int → Int} {l : List Int} {p : Int × Int} (h : Best f l p) {x : Int} (hs : ∀ y, y ∈ l → y < x) : Best f (l ++ [x]) (stpS f p x) := by
  have h2 := h.step x
  unfold stp at h2
  unfold stpS
  by_cases hc : p.2 < f x
  · rw [if_pos (.inl hc)] at h2; rw [if_pos hc]; exact h2
  · rw [if_neg hc]
    rw [if_neg] at h2
    · exact h2
    · rintro (h3 | ⟨h3, h4, h5⟩)
      · exact hc h3
      · rcases h with ⟨h0, _⟩ | ⟨_, h6, _⟩
        · omega
        · have := hs _ h6; omega
theorem Best.bst (f : Int → Int) (l : List Int) : Best f l (bst f l) := by
  unfold Proofs.Ytemcilmefknbbaa.bst
  have : ∀ (r pre : List Int) (p : Int × Int), Best f pre p → Best f (pre ++ r) (r.foldl (stp f) p) := fun r => by
    induction r with
    | nil => intro pre p h; simpa using h
    | cons x r ih =>
      intro pre p h
      have := ih (pre ++ [x]) _ (h.step x)
      rw [List.append_assoc] at this
      exact this
  have := this l [] (0, 0) (Best.start f 0)
  simpa using this
theorem Best.same {f : Int → Int} {l l' : List Int} {p p' : Int × Int} (h : Best f l p) (h' : Best f l' p') (e : ∀ x, x ∈ l ↔ x ∈ l') : p.2 = p'.2 ∧ (0 < p.2 → p.1 = p'.1) := by
  rcases h with ⟨h0, h1⟩ | ⟨h0, h1, h2, h3⟩
  · rcases h' with ⟨k0, k1⟩ | ⟨k0, k1, k2, k3⟩
    · exact ⟨by omega, fun _ => by omega⟩
    · have := h1 _ ((e _).2 k1); omega
  · rcases h' with ⟨k0, k1⟩ | ⟨k0, k1, k2, k3⟩
    · have := k1 _ ((e _).1 h1); omega
    · have a1 := h3 _ ((e _).2 k1)
      have a2 := k3 _ ((e _).1 h1)
      have e1 : p.2 = p'.2 := by omega
      exact ⟨e1, fun _ => by have := a1.2 (by omega); have := a2.2 (by omega); omega⟩

/-- the labels of the neighbours of a vertex, in the order of the edges -/
def nl (E : List Ed) (L : List Int) (v : Nat) : List Int := (adj E v).map fun i => nth L (oth E (v : Int) i).toNat
def bv (E : List Ed) (L : List Int) (v : Nat) : Int × Int := bst (gainZ E L v) (nl E L v)
def moves (E : List Ed) (L : List Int) (v : Nat) : Bool := decide (0 < (bv E L v).2)
def step1 (E : List Ed) (L : List Int) (v : Nat) : List Int := if 0 < (bv E L v).2 then L.set v (bv E L v).1 else L
def pTo (E : List Ed) (L : List Int) : Nat → List Int × Bool
  | 0 => (L, false)
  | k + 1 => (step1 E (pTo E L k).1 k, (pTo E L k).2 || moves E (pTo E L k).1 k)
def pass (E : List Ed) (L : List Int) : List Int × Bool := pTo E L L.length
def iter (E : List Ed) (L : List Int) : Nat → List Int
  | 0 => L
  | k + 1 => (pass E (iter E L k)).1
/-- what greedy moves end in -/
def Greed (E : List Ed) (L R : List Int) : Prop := ∃ k, (∀ j, j < k → (pass E (iter E L j)).2 = true) ∧ (pass E (iter E L k)).2 = false ∧ R = iter E L k
theorem Greed.same {E : List Ed} {L R R' : List Int} (h : Greed E L R) (h' : Greed E L R') : R = R' := by
  obtain ⟨k, h1, h2, rfl⟩ := h
  obtain ⟨k', h3, h4, rfl⟩ := h'
  have : k = k' := by
    rcases Nat.lt_trichotomy k k' with c | c | c
    · have := h3 k c; rw [h2] at this; cases this
    · exact c
    · have := h1 k' c; rw [h4] at this; cases this
  rw [this]
theorem step1_len (E : List Ed) (L : List Int) (v : Nat) : (step1 E L v).length = L.length := by unfold step1; split <;> simp
theorem pTo_len (E : List Ed) (L : List Int) (k : Nat) : (pTo E L k).1.length = L.length := by
  induction k with
  | zero => rfl
  | succ k ih => simp only [pTo]; rw [step1_len, ih]
theorem pass_len (E : List Ed) (L : List Int) : (pass E L).1.length = L.length := pTo_len _ _ _
theorem iter_len (E : List Ed) (L : List Int) (k : Nat) : (iter E L k).length = L.length := by
  induction k with
  | zero => rfl
  | succ k ih => simp only [iter]; rw [pass_len, ih]
theorem Greed.len {E : List Ed} {L R : List Int} (h : Greed E L R) : R.length = L.length := by obtain ⟨k, _, _, rfl⟩ := h; exact iter_len _ _ _
theorem bv_best (E : List Ed) (L : List Int) (v : Nat) : Best (gainZ E L v) (nl E L v) (bv E L v) := Best.bst _ _
theorem bv_gain {E : List Ed} {L : List Int} {v : Nat} (h : 0 < (bv E L v).2) : gainZ E L v (bv E L v).1 = (bv E L v).2 := by
  rcases bv_best E L v with ⟨h0, _⟩ | ⟨_, _, h2, _⟩
  · omega
  · exact h2
theorem step1_num (E : List Ed) (L : List Int) (v : Nat) : num E (step1 E L v) = num E L + if moves E L v then (bv E L v).2 else 0 := by
  unfold step1 moves
  by_cases h : 0 < (bv E L v).2
  · have := bv_gain h
    rw [if_pos h, decide_eq_true h, if_pos rfl]
    unfold gainZ at this; omega
  · rw [if_neg h, decide_eq_false h]; simp
theorem pTo_num (E : List Ed) (L : List Int) (k : Nat) : num E L ≤ num E (pTo E L k).1 ∧ ((pTo E L k).2 = true → num E L < num E (pTo E L k).1) ∧ ((pTo E L k).2 = false → (pTo E L k).1 = L) := by
  induction k with
  | zero => exact ⟨Int.le_refl _, fun h => (by cases h), fun _ => rfl⟩
  | succ k ih =>
    obtain ⟨h1, h2, h3⟩ := ih
    simp only [pTo]
    have h4 := step1_num E (pTo E L k).1 k
    cases hm : moves E (pTo E L k).1 k with
    | true =>
      have hp : 0 < (bv E (pTo E L k).1 k).2 := of_decide_eq_true hm
      rw [hm, if_pos rfl] at h4
      refine ⟨by omega, fun _ => by omega, fun h => by simp at h⟩
    | false =>
      rw [hm] at h4
      simp only [Bool.false_eq_true, if_false] at h4
      refine ⟨by omega, fun h => ?_, fun h => ?_⟩
      · simp only [Bool.or_false] at h
        have := h2 h; omega
      · simp only [Bool.or_false] at h
        have hn : ¬ 0 < (bv E (pTo E L k).1 k).2 := of_decide_eq_false hm
        have e := h3 h
        unfold step1
        rw [if_neg hn, e]
theorem pass_num {E : List Ed} {L : List Int} (h : (pass E L).2 = true) : num E L < num E (pass E L).1 := (pTo_num E L _).2.1 h
theorem iter_num (E : List Ed) (L : List Int) (k : Nat) : num E L ≤ num E (iter E L k) := by
  induction k with
  | zero => exact Int.le_refl _
  | succ k ih => simp only [iter]; have := (pTo_num E (iter E L k) (iter E L k).length).1; unfold pass; omega
theorem Greed.num_le {E : List Ed} {L R : List Int} (h : Greed E L R) : num E L ≤ num E R := by obtain ⟨k, _, _, rfl⟩ := h; exact iter_num _ _ _
theorem Greed.still {E : List Ed} {L R : List Int} (h : Greed E L R) : (pass E R).2 = false := by obtain ⟨k, _, h2, rfl⟩ := h; exact h2
theorem Greed.again {E : List Ed} {L R : List Int} (h : Greed E L R) : Greed E R R := ⟨0, fun j hj => absurd hj (by omega), h.still, rfl⟩
theorem pTo_still {E : List Ed} {L : List Int} {n : Nat} (h : (pTo E L n).2 = false) : ∀ k, k ≤ n → (pTo E L k).2 = false := by
  intro k hk
  induction n with
  | zero => obtain rfl : k = 0 := by omega
            rfl
  | succ n ih =>
    simp only [pTo, Bool.or_eq_false_iff] at h
    by_cases e : k = n + 1
    · subst e; simp only [pTo, Bool.or_eq_false_iff]; exact h
    · exact ih h.1 (by omega)
/-- where no vertex moves, no label of a neighbour gains -/
theorem still_gain {E : List Ed} {L : List Int} (h : (pass E L).2 = false) {v : Nat} (hv : v < L.length) {x : Int} (hx : x ∈ nl E L v) : gainZ E L v x ≤ 0 := by
  have h1 := pTo_still h (v + 1) (by omega)
  have h2 := pTo_still h v (by omega)
  have h3 := (pTo_num E L v).2.2 h2
  simp only [pTo, Bool.or_eq_false_iff] at h1
  have h4 : ¬ 0 < (bv E L v).2 := by have := h1.2; rw [h3] at this; exact of_decide_eq_false this
  rcases bv_best E L v with ⟨_, h5⟩ | ⟨h5, _⟩
  · exact h5 x hx
  · exact absurd h5 h4
end Go.Proofs.Ytemcilmefknbbaa
