/- Plain mathematics of the tree that joins the components of a graph, edge by edge of its forest: nodes, parents, least leaves, sizes. No conditions. -/
import Derived.Test.YtibdggbejogciaaGreatPl
import Derived.Test.YtibdggbejogciaaGreatDsu
namespace Go.Proofs.YtibdggbejogciaaGreat

/-- the labels behind the first edges of a forest -/
def lbI (E : List Ed) (f : List Nat) (i : Nat) : Nat → Nat := labO E (f.take i)
/-- the two labels that an edge joins -/
def mU (E : List Ed) (f : List Nat) (i : Nat) : Nat := lbI E f i (edP E (f.getD i 0)).1
def mV (E : List Ed) (f : List Nat) (i : Nat) : Nat := lbI E f i (edP E (f.getD i 0)).2
def mA (E : List Ed) (f : List Nat) (i : Nat) : Nat := min (mU E f i) (mV E f i)
def mB (E : List Ed) (f : List Nat) (i : Nat) : Nat := max (mU E f i) (mV E f i)
/-- edges that join, each, two components of those before it -/
structure Fo (n : Nat) (E : List Ed) (f : List Nat) : Prop where
  ne : ∀ i, i < f.length → mU E f i ≠ mV E f i
  lu : ∀ i, i < f.length → (edP E (f.getD i 0)).1 < n
  lv : ∀ i, i < f.length → (edP E (f.getD i 0)).2 < n
/-- the node of a label -/
def nd (E : List Ed) (f : List Nat) (n : Nat) : Nat → Nat → Nat
  | 0, a => a
  | i + 1, a => if a = mA E f i then n + i else nd E f n i a
/-- the least leaf below a node -/
def lst (E : List Ed) (f : List Nat) (n x : Nat) : Nat := if x < n then x else mA E f (x - n)
/-- which edge's node is the parent -/
def pk (E : List Ed) (f : List Nat) (n : Nat) : Nat → Nat → Option Nat
  | 0, _ => none
  | i + 1, x => if x = nd E f n i (mB E f i) ∨ x = nd E f n i (mA E f i) then some i else pk E f n i x
/-- how many leaves are below a node -/
def szT (E : List Ed) (f : List Nat) (n x : Nat) : Nat := if x < n then 1 else clsN n (lbI E f (x - n + 1)) (mA E f (x - n))

section
variable {n : Nat} {E : List Ed} {f : List Nat} {i j k x y a b : Nat}
theorem lbI_ok (E : List Ed) (f : List Nat) (i : Nat) : LabOk (lbI E f i) := labO_ok E _
theorem lbI_zero (E : List Ed) (f : List Nat) : lbI E f 0 = id := by unfold lbI; rw [List.take_zero]; rfl
theorem lbI_step (hi : i < f.length) (x : Nat) : lbI E f (i + 1) x = if lbI E f i x = mB E f i then mA E f i else lbI E f i x := by
  have h : f.take (i + 1) = f.take i ++ [f.getD i 0] := by
    rw [List.take_succ_eq_append_getElem hi]; simp [List.getD, hi]
  have h2 : lbI E f (i + 1) = joinF (lbI E f i) (edP E (f.getD i 0)).1 (edP E (f.getD i 0)).2 := by
    unfold lbI; rw [h, labO_snoc]
  rw [h2]; rfl
theorem lbI_joinF (hi : i < f.length) : lbI E f (i + 1) = joinF (lbI E f i) (edP E (f.getD i 0)).1 (edP E (f.getD i 0)).2 := by
  funext x; rw [lbI_step hi]; rfl
theorem lbI_le (E : List Ed) (f : List Nat) (i x : Nat) : lbI E f i x ≤ x := (lbI_ok E f i).le x
theorem lbI_idem (E : List Ed) (f : List Nat) (i x : Nat) : lbI E f i (lbI E f i x) = lbI E f i x := (lbI_ok E f i).idem x
theorem lbI_beyond (h : f.length ≤ i) : lbI E f i = lbI E f f.length := by
  unfold lbI; rw [List.take_of_length_le h, List.take_of_length_le (Nat.le_refl _)]
theorem mA_lab (E : List Ed) (f : List Nat) (i : Nat) : lbI E f i (mA E f i) = mA E f i := by
  unfold mA mU mV
  rcases Nat.le_total (lbI E f i (edP E (f.getD i 0)).1) (lbI E f i (edP E (f.getD i 0)).2) with h | h
  · rw [Nat.min_eq_left h]; exact lbI_idem _ _ _ _
  · rw [Nat.min_eq_right h]; exact lbI_idem _ _ _ _
theorem mB_lab (E : List Ed) (f : List Nat) (i : Nat) : lbI E f i (mB E f i) = mB E f i := by
  unfold mB mU mV
  rcases Nat.le_total (lbI E f i (edP E (f.getD i 0)).1) (lbI E f i (edP E (f.getD i 0)).2) with h | h
  · rw [Nat.max_eq_right h]; exact lbI_idem _ _ _ _
  · rw [Nat.max_eq_left h]; exact lbI_idem _ _ _ _
theorem Fo.mlt (F : Fo n E f) (hi : i < f.length) : mA E f i < mB E f i := by
  have := F.ne i hi
  unfold mA mB; omega
theorem Fo.mB_n (F : Fo n E f) (hi : i < f.length) : mB E f i < n := by
  have h1 := lbI_le E f i (edP E (f.getD i 0)).1
  have h2 := lbI_le E f i (edP E (f.getD i 0)).2
  have h3 := F.lu i hi
  have h4 := F.lv i hi
  unfold mB mU mV; omega
theorem Fo.mA_n (F : Fo n E f) (hi : i < f.length) : mA E f i < n := Nat.lt_trans (F.mlt hi) (F.mB_n hi)
/-- labels only go down -/
theorem lbI_mono (F : Fo n E f) (h : i ≤ j) (x : Nat) : lbI E f j x ≤ lbI E f i x := by
  induction j with
  | zero => rw [Nat.le_zero.1 h]; exact Nat.le_refl _
  | succ j ih =>
    by_cases e : i = j + 1
    · rw [e]; exact Nat.le_refl _
    · have := ih (by omega)
      by_cases hj : j < f.length
      · rw [lbI_step hj]
        have := F.mlt hj
        split <;> omega
      · rw [lbI_beyond (i := j + 1) (by omega), ← lbI_beyond (i := j) (by omega)]; exact this
theorem lbI_eq (h : i ≤ j) (hx : lbI E f i x = lbI E f i y) : lbI E f j x = lbI E f j y := by
  induction j with
  | zero => obtain rfl : i = 0 := by omega
            exact hx
  | succ j ih =>
    by_cases e : i = j + 1
    · rw [← e]; exact hx
    · have := ih (by omega)
      by_cases hj : j < f.length
      · rw [lbI_step hj, lbI_step hj, this]
      · rw [lbI_beyond (i := j + 1) (by omega), ← lbI_beyond (i := j) (by omega)]; exact this
theorem lbI_lbI (h : i ≤ j) (x : Nat) : lbI E f j (lbI E f i x) = lbI E f j x := lbI_eq h (lbI_idem _ _ _ _)
/-- a label of a later stage is one of each earlier stage -/
theorem lab_back (F : Fo n E f) (h : i ≤ j) (hx : lbI E f j x = x) : lbI E f i x = x := by
  have h1 := lbI_mono F h x
  have h2 := lbI_le E f i x
  omega
theorem mB_next (hi : i < f.length) : lbI E f (i + 1) (mB E f i) = mA E f i := by rw [lbI_step hi, mB_lab, if_pos rfl]
theorem mA_next (F : Fo n E f) (hi : i < f.length) : lbI E f (i + 1) (mA E f i) = mA E f i := by
  have := F.mlt hi
  rw [lbI_step hi, mA_lab, if_neg (by omega)]

theorem nd_lt (ha : a < n) : nd E f n i a < n + i := by
  induction i with
  | zero => exact ha
  | succ i ih =>
    rw [nd]; split
    · omega
    · omega
theorem nd_ge (h : i < j) : n + i ≤ nd E f n j (mA E f i) := by
  induction j with
  | zero => omega
  | succ j ih =>
    rw [nd]; split
    · omega
    · rename_i hc
      by_cases e : i = j
      · subst e; exact absurd rfl hc
      · exact ih (by omega)
theorem lst_lt (h : x < n) : lst E f n x = x := if_pos h
theorem lst_in (E : List Ed) (f : List Nat) (n i : Nat) : lst E f n (n + i) = mA E f i := by
  unfold lst; rw [if_neg (by omega), Nat.add_sub_cancel_left]
theorem lst_nd (ha : a < n) : lst E f n (nd E f n i a) = a := by
  induction i with
  | zero => exact lst_lt ha
  | succ i ih =>
    rw [nd]; split
    · rename_i h; rw [lst_in, h]
    · exact ih
theorem nd_inj (ha : a < n) (hb : b < n) (h : nd E f n i a = nd E f n j b) : a = b := by
  have := congrArg (lst E f n) h
  rwa [lst_nd ha, lst_nd hb] at this
theorem nd_same (hk : k ≤ i) (h : nd E f n i a < n + k) : nd E f n k a = nd E f n i a := by
  induction i with
  | zero => rw [Nat.le_zero.1 hk]
  | succ i ih =>
    by_cases e : k = i + 1
    · rw [e]
    · rw [nd] at h ⊢
      split at h
      · omega
      · rename_i hc; rw [if_neg hc]; exact ih (by omega) h
/-- what has been joined is no root any more -/
theorem nd_old (F : Fo n E f) (hij : i < j) (hj : j ≤ f.length) (ha : a = mB E f i ∨ a = mA E f i) (hb : lbI E f j b = b) (hbn : b < n) : nd E f n j b ≠ nd E f n i a := by
  intro h
  have hi : i < f.length := by omega
  have han : a < n := by rcases ha with rfl | rfl; exact F.mB_n hi; exact F.mA_n hi
  have e := nd_inj hbn han h
  subst e
  rcases ha with rfl | rfl
  · have h1 := lbI_mono F (show i + 1 ≤ j from hij) (mB E f i)
    rw [mB_next hi] at h1
    have := F.mlt hi
    omega
  · have h1 := nd_ge (E := E) (f := f) (n := n) hij
    have h2 := nd_lt (E := E) (f := f) (i := i) han
    omega
theorem pk_lt (h : pk E f n k x = some i) : i < k := by
  induction k with
  | zero => cases h
  | succ k ih =>
    rw [pk] at h; split at h
    · cases h; omega
    · have := ih h; omega
theorem pk_node (h : pk E f n k x = some i) : x = nd E f n i (mB E f i) ∨ x = nd E f n i (mA E f i) := by
  induction k with
  | zero => cases h
  | succ k ih =>
    rw [pk] at h; split at h
    · rename_i hc; cases h; exact hc
    · exact ih h
theorem pk_below (F : Fo n E f) (hk : k ≤ f.length) (h : pk E f n k x = some i) : x < n + i := by
  have hi := pk_lt h
  rcases pk_node h with rfl | rfl
  · exact nd_lt (F.mB_n (by omega))
  · exact nd_lt (F.mA_n (by omega))
theorem pk_of (F : Fo n E f) (hk : k ≤ f.length) (hi : i < k) (h : x = nd E f n i (mB E f i) ∨ x = nd E f n i (mA E f i)) : pk E f n k x = some i := by
  induction k with
  | zero => omega
  | succ k ih =>
    rw [pk]
    by_cases e : i = k
    · subst e; rw [if_pos h]
    · have hl := F.mlt (show k < f.length by omega)
      have hn : ∀ a, a = mB E f i ∨ a = mA E f i → x = nd E f n i a → ¬ (x = nd E f n k (mB E f k) ∨ x = nd E f n k (mA E f k)) := fun a ha hx hc => by
        rcases hc with hc | hc
        · exact nd_old F (show i < k by omega) (by omega) ha (mB_lab E f k) (F.mB_n (by omega)) (hc.symm.trans hx)
        · exact nd_old F (show i < k by omega) (by omega) ha (mA_lab E f k) (F.mA_n (by omega)) (hc.symm.trans hx)
      rw [if_neg (by rcases h with h | h; exact hn _ (.inl rfl) h; exact hn _ (.inr rfl) h)]
      exact ih (by omega) (by omega)
theorem pk_cut (F : Fo n E f) (hk : k ≤ f.length) (h : pk E f n j x = some i) (hi : i < k) : pk E f n k x = some i := pk_of F hk hi (pk_node h)
/-- a node without a parent is the node of its least leaf -/
theorem pk_root (F : Fo n E f) (hk : k ≤ f.length) (hx : x < n + k) (h : pk E f n k x = none) : lbI E f k (lst E f n x) = lst E f n x ∧ nd E f n k (lst E f n x) = x ∧ lst E f n x < n := by
  induction k with
  | zero => rw [lst_lt (by omega)]; exact ⟨by rw [lbI_zero]; rfl, rfl, by omega⟩
  | succ k ih =>
    have hkf : k < f.length := by omega
    by_cases e : x = n + k
    · subst e
      rw [lst_in]
      exact ⟨mA_next F hkf, by rw [nd, if_pos rfl], F.mA_n hkf⟩
    · rw [pk] at h
      split at h
      · cases h
      · rename_i hc
        obtain ⟨h1, h2, h3⟩ := ih (by omega) (by omega) h
        have c1 : lst E f n x ≠ mB E f k := fun e => hc (.inl (by rw [← e, h2]))
        have c2 : lst E f n x ≠ mA E f k := fun e => hc (.inr (by rw [← e, h2]))
        exact ⟨by rw [lbI_step hkf, h1, if_neg c1], by rw [nd, if_neg c2, h2], h3⟩
/-- the node of a label has no parent yet -/
theorem pk_none (F : Fo n E f) (hk : k ≤ f.length) (ha : a < n) (hl : lbI E f k a = a) : pk E f n k (nd E f n k a) = none := by
  cases h : pk E f n k (nd E f n k a) with
  | none => rfl
  | some i =>
    exfalso
    have hi := pk_lt h
    rcases pk_node h with e | e
    · exact nd_old F hi hk (.inl rfl) hl ha e
    · exact nd_old F hi hk (.inr rfl) hl ha e
/-- nodes that are roots at a stage -/
theorem alive (F : Fo n E f) (hk : k ≤ f.length) (hx : x < n + k) (h : ∀ i, pk E f n f.length x = some i → k ≤ i) : lbI E f k (lst E f n x) = lst E f n x ∧ nd E f n k (lst E f n x) = x ∧ lst E f n x < n := by
  refine pk_root F hk hx ?_
  cases hp : pk E f n k x with
  | none => rfl
  | some i =>
    have h1 := pk_lt hp
    have h2 := h i (pk_cut F (Nat.le_refl _) hp (by omega))
    omega

theorem szT_leaf (h : x < n) : szT E f n x = 1 := if_pos h
theorem szT_in (E : List Ed) (f : List Nat) (n i : Nat) : szT E f n (n + i) = clsN n (lbI E f (i + 1)) (mA E f i) := by
  unfold szT; rw [if_neg (by omega), Nat.add_sub_cancel_left]
theorem clsN_idR (h : a < n) : clsN n id a = 1 := by
  have key : ∀ n, ((List.range n).filter fun j => decide (id j = id a)).length = if a < n then 1 else 0 := by
    intro n
    induction n with
    | zero => rfl
    | succ n ih =>
      rw [List.range_succ, List.filter_append, List.length_append, ih]
      by_cases e : n = a
      · subst e; simp
      · have e2 : ([n].filter fun j => decide (id j = id a)).length = 0 := by simp [e]
        rw [e2]
        by_cases c : a < n
        · rw [if_pos c, if_pos (by omega)]
        · rw [if_neg c, if_neg (by omega)]
  unfold clsN
  rw [key, if_pos h]
theorem szT_nd (F : Fo n E f) (hi : i ≤ f.length) (ha : a < n) (hl : lbI E f i a = a) : szT E f n (nd E f n i a) = clsN n (lbI E f i) a := by
  induction i with
  | zero => rw [lbI_zero, clsN_idR ha]; exact szT_leaf ha
  | succ i ih =>
    have hif : i < f.length := by omega
    rw [nd]
    by_cases e : a = mA E f i
    · rw [if_pos e, szT_in, e]
    · rw [if_neg e]
      have h1 : lbI E f i a = a := lab_back F (Nat.le_succ i) hl
      have h2 : a ≠ mB E f i := fun c => by rw [c, mB_next hif] at hl; exact e (by rw [c, hl])
      rw [ih (by omega) h1, lbI_joinF hif]
      refine (clsN_other (lbI_ok E f i) (x := (edP E (f.getD i 0)).1) (y := (edP E (f.getD i 0)).2) ?_ ?_).symm
      · intro c; rw [h1] at c
        have c : a = mU E f i := c
        unfold mA mB at *; omega
      · intro c; rw [h1] at c
        have c : a = mV E f i := c
        unfold mA mB at *; omega
theorem clsN_label {lab : Nat → Nat} (h : lab x = lab y) : clsN n lab x = clsN n lab y := by unfold clsN; rw [h]
/-- the size of an inner node is that of its kids together -/
theorem szT_sum (F : Fo n E f) (hi : i < f.length) : szT E f n (n + i) = szT E f n (nd E f n i (mA E f i)) + szT E f n (nd E f n i (mB E f i)) := by
  rw [szT_in, szT_nd F (by omega) (F.mA_n hi) (mA_lab E f i), szT_nd F (by omega) (F.mB_n hi) (mB_lab E f i), lbI_joinF hi]
  have hne := F.ne i hi
  have key := clsN_join (n := n) (lbI_ok E f i) (x := (edP E (f.getD i 0)).1) (y := (edP E (f.getD i 0)).2) hne (mA E f i)
  have hA : mA E f i = mU E f i ∨ mA E f i = mV E f i := by unfold mA; omega
  have h1 : clsN n (lbI E f i) (edP E (f.getD i 0)).1 = clsN n (lbI E f i) (mU E f i) := clsN_label (lbI_idem _ _ _ _).symm
  have h2 : clsN n (lbI E f i) (edP E (f.getD i 0)).2 = clsN n (lbI E f i) (mV E f i) := clsN_label (lbI_idem _ _ _ _).symm
  rw [key (by rw [mA_lab]; exact hA), h1, h2]
  rcases Nat.le_total (mU E f i) (mV E f i) with h | h
  · rw [show mA E f i = mU E f i from Nat.min_eq_left h, show mB E f i = mV E f i from Nat.max_eq_right h]
  · rw [show mA E f i = mV E f i from Nat.min_eq_right h, show mB E f i = mU E f i from Nat.max_eq_left h, Nat.add_comm]
theorem clsN_pos {lab : Nat → Nat} (h : a < n) : 0 < clsN n lab a := by
  unfold clsN
  exact List.length_pos_of_mem (a := a) (List.mem_filter.2 ⟨List.mem_range.2 h, by simp⟩)
theorem szT_le (hn : 0 < n) : szT E f n x ≤ n := by
  unfold szT; split
  · exact hn
  · exact clsN_le _ _ _

/-! thresholds: k edges count -/
/-- the label of a node -/
def lbT (E : List Ed) (f : List Nat) (n k x : Nat) : Nat := if x < n + k then lbI E f k (lst E f n x) else lst E f n x
theorem lbT_up (F : Fo n E f) (h : pk E f n f.length x = some i) (hi : i < k) : lbT E f n k x = lbT E f n k (n + i) := by
  have hif := pk_lt h
  have hx := pk_below F (Nat.le_refl _) h
  unfold lbT
  rw [if_pos (by omega), if_pos (by omega), lst_in]
  rcases pk_node h with rfl | rfl
  · rw [lst_nd (F.mB_n hif)]
    exact lbI_eq (i := i + 1) (by omega) (by rw [mB_next hif, mA_next F hif])
  · rw [lst_nd (F.mA_n hif)]
theorem lbT_top (F : Fo n E f) (hk : k ≤ f.length) (h : ∀ i, pk E f n f.length x = some i → k ≤ i) : lbT E f n k x = lst E f n x := by
  unfold lbT; split
  · rename_i hx; exact (alive F hk hx h).1
  · rfl
theorem lbT_leaf (hx : x < n) : lbT E f n k x = lbI E f k x := by
  unfold lbT; rw [if_pos (by omega), lst_lt hx]
/-- is a node below that of a label? -/
def blT (E : List Ed) (f : List Nat) (n k a x : Nat) : Bool := decide (x < n + k ∧ lbI E f k (lst E f n x) = a)
theorem blT_up (F : Fo n E f) (hk : k ≤ f.length) (ha : a < n) (hl : lbI E f k a = a) (h : pk E f n f.length x = some i) : blT E f n k a x = (decide (x = nd E f n k a) || blT E f n k a (n + i)) := by
  have hif := pk_lt h
  have hx := pk_below F (Nat.le_refl _) h
  rw [Bool.eq_iff_iff]
  unfold blT
  simp only [Bool.or_eq_true, decide_eq_true_eq]
  rw [lst_in]
  by_cases hik : i < k
  · have e : lbI E f k (lst E f n x) = lbI E f k (mA E f i) := by
      rcases pk_node h with rfl | rfl
      · rw [lst_nd (F.mB_n hif)]
        exact lbI_eq (i := i + 1) (by omega) (by rw [mB_next hif, mA_next F hif])
      · rw [lst_nd (F.mA_n hif)]
    constructor
    · rintro ⟨_, h2⟩; exact .inr ⟨by omega, by rw [← e]; exact h2⟩
    · rintro (h2 | ⟨_, h2⟩)
      · rw [h2]; exact ⟨nd_lt ha, by rw [lst_nd ha]; exact hl⟩
      · exact ⟨by omega, by rw [e]; exact h2⟩
  · constructor
    · rintro ⟨h1, h2⟩
      obtain ⟨g1, g2, _⟩ := alive F hk h1 (fun j hj => by rw [h] at hj; cases hj; omega)
      rw [g1] at h2
      exact .inl (by rw [← h2]; exact g2.symm)
    · rintro (h2 | ⟨h2, _⟩)
      · rw [h2]; exact ⟨nd_lt ha, by rw [lst_nd ha]; exact hl⟩
      · omega
theorem blT_top (F : Fo n E f) (hk : k ≤ f.length) (ha : a < n) (hl : lbI E f k a = a) (h : pk E f n f.length x = none) : blT E f n k a x = decide (x = nd E f n k a) := by
  rw [Bool.eq_iff_iff]
  unfold blT
  simp only [decide_eq_true_eq]
  constructor
  · rintro ⟨h1, h2⟩
    obtain ⟨g1, g2, _⟩ := alive F hk h1 (fun j hj => by rw [h] at hj; cases hj)
    rw [g1] at h2
    rw [← h2]; exact g2.symm
  · intro h2
    rw [h2]; exact ⟨nd_lt ha, by rw [lst_nd ha]; exact hl⟩
theorem blT_leaf (hx : x < n) : blT E f n k a x = decide (lbI E f k x = a) := by
  unfold blT
  rw [lst_lt hx, Bool.eq_iff_iff]
  simp only [decide_eq_true_eq]
  constructor
  · exact fun h => h.2
  · exact fun h => ⟨by omega, h⟩
/-- the way up from a leaf -/
theorem way_up (F : Fo n E f) (hu : a < n) (hj : j ≤ f.length) (h : pk E f n f.length (nd E f n j (lbI E f j a)) = some i) : n + i = nd E f n (i + 1) (lbI E f (i + 1) a) := by
  have hif := pk_lt h
  have hla : lbI E f j a < n := Nat.lt_of_le_of_lt (lbI_le _ _ _ _) hu
  have key : ∀ b, (b = mB E f i ∨ b = mA E f i) → b < n → lbI E f i b = b → nd E f n j (lbI E f j a) = nd E f n i b → n + i = nd E f n (i + 1) (lbI E f (i + 1) a) := fun b hb hbn hbl e => by
    have e2 := nd_inj hla hbn e
    by_cases hji : j ≤ i
    · have h1 : lbI E f i a = b := by rw [← lbI_lbI hji, e2]; exact hbl
      have h2 : lbI E f (i + 1) a = mA E f i := by
        rw [lbI_step hif, h1]
        rcases hb with rfl | rfl
        · rw [if_pos rfl]
        · split <;> rfl
      rw [h2, nd, if_pos rfl]
    · exact absurd e (nd_old F (by omega) (by omega) hb (lbI_idem _ _ _ _) hla)
  rcases pk_node h with e | e
  · exact key _ (.inl rfl) (F.mB_n hif) (mB_lab _ _ _) e
  · exact key _ (.inr rfl) (F.mA_n hif) (mA_lab _ _ _) e
theorem way_top (F : Fo n E f) (hk : k ≤ f.length) (hu : a < n) (hj : j ≤ k) (h : ∀ i, pk E f n f.length (nd E f n j (lbI E f j a)) = some i → k ≤ i) : nd E f n j (lbI E f j a) = nd E f n k (lbI E f k a) := by
  have hla : lbI E f j a < n := Nat.lt_of_le_of_lt (lbI_le _ _ _ _) hu
  have hx : nd E f n j (lbI E f j a) < n + k := by have := nd_lt (E := E) (f := f) (i := j) hla; omega
  obtain ⟨g1, g2, _⟩ := alive F hk hx h
  rw [lst_nd hla] at g1 g2
  rw [← g2]
  congr 1
  rw [← g1, lbI_lbI hj]
end
end Go.Proofs.YtibdggbejogciaaGreat

/- Plain mathematics of parents that only go down to the least element of a class. No conditions. -/
namespace Go.Proofs.YtibdggbejogciaaGreat

/-- parents that lead down to the least element of each class -/
structure UL (n : Nat) (up lab : Nat → Nat) : Prop where
  le : ∀ i, i < n → up i ≤ i
  par : ∀ i, i < n → lab (up i) = lab i
  root : ∀ i, i < n → up i = i → lab i = i
section
variable {n : Nat} {up lab : Nat → Nat} {a b : Nat}
theorem UL.start (n : Nat) : UL n id id := ⟨fun _ _ => Nat.le_refl _, fun _ _ => rfl, fun _ _ _ => rfl⟩
/-- a least element is its own parent -/
theorem UL.least (U : UL n up lab) (K : LabOk lab) (ha : a < n) (h : lab a = a) : up a = a := by
  have h1 := U.le a ha
  have h2 := U.par a ha
  have h3 := K.le (up a)
  omega
theorem UL.halve (U : UL n up lab) (ha : a < n) (hr : up a ≠ a) : UL n (fun i => if i = a then up (up a) else up i) lab := by
  have h1 := U.le a ha
  have hp : up a < n := by omega
  have h2 := U.le _ hp
  refine ⟨fun i hi => ?_, fun i hi => ?_, fun i hi h => ?_⟩
  · (try dsimp only); split
    · rename_i e; omega
    · exact U.le i hi
  · (try dsimp only); split
    · rename_i e; rw [U.par _ hp, e, U.par _ ha]
    · exact U.par i hi
  · (try dsimp only at h); split at h
    · rename_i e; omega
    · exact U.root i hi h
/-- the class of b is hung below a -/
theorem UL.hang {E : List Ed} {f : List Nat} {i : Nat} (U : UL n up (lbI E f i)) (F : Fo n E f) (hi : i < f.length) : UL n (fun x => if x = mB E f i then mA E f i else up x) (lbI E f (i + 1)) := by
  have hm := F.mlt hi
  refine ⟨fun x hx => ?_, fun x hx => ?_, fun x hx h => ?_⟩
  · (try dsimp only); split
    · omega
    · exact U.le x hx
  · (try dsimp only); split
    · rename_i e; rw [e, mB_next hi, mA_next F hi]
    · exact lbI_eq (i := i) (Nat.le_succ i) (U.par x hx)
  · (try dsimp only at h); split at h
    · omega
    · rename_i e
      have h1 := U.root x hx h
      rw [lbI_step hi, h1, if_neg e]
end
end Go.Proofs.YtibdggbejogciaaGreat
