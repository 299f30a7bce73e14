/- Plain mathematics of the tree that joins the components of a graph, edge by edge of its forest: nodes, parents, least leaves, sizes. No conditions. -/
import Derived.Test.YtpbgophogneecaaGreatPl
import Derived.Test.YtpbgophogneecaaGreatDsa
import Derived.Test.YtpbgophogneecaaGreatOra
import Derived.Lib.SlicesCompact
namespace Go.Proofs.YtpbgophogneecaaGreat

/-- the labels behind the first edges of a forest -/
def lbI (E : List Ed) (f : List Nat) (i : Nat) : Nat → Nat := labO E (f.take i)
/-- the two labels that an edge joins -/
def mU (E : List Ed) (f : List Nat) (i : Nat) : Nat := lbI E f i (edP E (f.getD i 0)).1
def mV (E : List Ed) (f : List Nat) (i : Nat) : Nat := lbI E f i (edP E (f.getD i 0)).2
def mA (E : List Ed) (f : List Nat) (i : Nat) : Nat := min (mU E f i) (mV E f i)
def mB (E : List Ed) (f : List Nat) (i : Nat) : Nat := max (mU E f i) (mV E f i)
/-- edges that join, each, two components of those before it -/
structure Fo (n : Nat) (E : List Ed) (f : List Nat) : Prop where
  ne : ∀ i, i < f.length → mU E f i ≠ mV E f i
  lu : ∀ i, i < f.length → (edP E (f.getD i 0)).1 < n
  lv : ∀ i, i < f.length → (edP E (f.getD i 0)).2 < n
/-- the node of a label -/
def nd (E : List Ed) (f : List Nat) (n : Nat) : Nat → Nat → Nat
  | 0, a => a
  | i + 1, a => if a = mA E f i then n + i else nd E f n i a
/-- the least leaf below a node -/
def lst (E : List Ed) (f : List Nat) (n x : Nat) : Nat := if x < n then x else mA E f (x - n)
/-- which edge's node is the parent -/
def pk (E : List Ed) (f : List Nat) (n : Nat) : Nat → Nat → Option Nat
  | 0, _ => none
  | i + 1, x => if x = nd E f n i (mB E f i) ∨ x = nd E f n i (mA E f i) then some i else pk E f n i x
/-- how many leaves are below a node -/
def szT (E : List Ed) (f : List Nat) (n x : Nat) : Nat := if x < n then 1 else clsN n (lbI E f (x - n + 1)) (mA E f (x - n))

section
variable {n : Nat} {E : List Ed} {f : List Nat} {i j k x y a b : Nat}
theorem lbI_ok (E : List Ed) (f : List Nat) (i : Nat) : LabOk (lbI E f i) := labO_ok E _
theorem lbI_zero (E : List Ed) (f : List Nat) : lbI E f 0 = id := by unfold lbI; rw [List.take_zero]; rfl
theorem lbI_step (hi : i < f.length) (x : Nat) : lbI E f (i + 1) x = if lbI E f i x = mB E f i then mA E f i else lbI E f i x := by
  have h : f.take (i + 1) = f.take i ++ [f.getD i 0] := by
    rw [List.take_succ_eq_append_getElem hi]; simp [List.getD, hi]
  have h2 : lbI E f (i + 1) = joinF (lbI E f i) (edP E (f.getD i 0)).1 (edP E (f.getD i 0)).2 := by
    unfold lbI; rw [h, labO_snoc]
  rw [h2]; rfl
theorem lbI_joinF (hi : i < f.length) : lbI E f (i + 1) = joinF (lbI E f i) (edP E (f.getD i 0)).1 (edP E (f.getD i 0)).2 := by
  funext x; rw [lbI_step hi]; rfl
theorem lbI_le (E : List Ed) (f : List Nat) (i x : Nat) : lbI E f i x ≤ x := (lbI_ok E f i).le x
theorem lbI_idem (E : List Ed) (f : List Nat) (i x : Nat) : lbI E f i (lbI E f i x) = lbI E f i x := (lbI_ok E f i).idem x
theorem lbI_beyond (h : f.length ≤ i) : lbI E f i = lbI E f f.length := by
  unfold lbI; rw [List.take_of_length_le h, List.take_of_length_le (Nat.le_refl _)]
theorem mA_lab (E : List Ed) (f : List Nat) (i : Nat) : lbI E f i (mA E f i) = mA E f i := by
  unfold mA mU mV
  rcases Nat.le_total (lbI E f i (edP E (f.getD i 0)).1) (lbI E f i (edP E (f.getD i 0)).2) with h | h
  · rw [Nat.min_eq_left h]; exact lbI_idem _ _ _ _
  · rw [Nat.min_eq_right h]; exact lbI_idem _ _ _ _
theorem mB_lab (E : List Ed) (f : List Nat) (i : Nat) : lbI E f i (mB E f i) = mB E f i := by
  unfold mB mU mV
  rcases Nat.le_total (lbI E f i (edP E (f.getD i 0)).1) (lbI E f i (edP E (f.getD i 0)).2) with h | h
  · rw [Nat.max_eq_right h]; exact lbI_idem _ _ _ _
  · rw [Nat.max_eq_left h]; exact lbI_idem _ _ _ _
theorem Fo.mlt (F : Fo n E f) (hi : i < f.length) : mA E f i < mB E f i := by
  have := F.ne i hi
  unfold mA mB; omega
theorem Fo.mB_n (F : Fo n E f) (hi : i < f.length) : mB E f i < n := by
  have h1 := lbI_le E f i (edP E (f.getD i 0)).1
  have h2 := lbI_le E f i (edP E (f.getD i 0)).2
  have h3 := F.lu i hi
  have h4 := F.lv i hi
  unfold mB mU mV; omega
theorem Fo.mA_n (F : Fo n E f) (hi : i < f.length) : mA E f i < n := Nat.lt_trans (F.mlt hi) (F.mB_n hi)
/-- labels only go down -/
theorem lbI_mono (F : Fo n E f) (h : i ≤ j) (x : Nat) : lbI E f j x ≤ lbI E f i x := by
  induction j with
  | zero => rw [Nat.le_zero.1 h]; exact Nat.le_refl _
  | succ j ih =>
    by_cases e : i = j + 1
    · rw [e]; exact Nat.le_refl _
    · have := ih (by omega)
      by_cases hj : j < f.length
      · rw [lbI_step hj]
        have := F.mlt hj
        split <;> omega
      · rw [lbI_beyond (i := j + 1) (by omega), ← lbI_beyond (i := j) (by omega)]; exact this
theorem lbI_eq (h : i ≤ j) (hx : lbI E f i x = lbI E f i y) : lbI E f j x = lbI E f j y := by
  induction j with
  | zero => obtain rfl : i = 0 := by omega
            exact hx
  | succ j ih =>
    by_cases e : i = j + 1
    · rw [← e]; exact hx
    · have := ih (by omega)
      by_cases hj : j < f.length
      · rw [lbI_step hj, lbI_step hj, this]
      · rw [lbI_beyond (i := j + 1) (by omega), ← lbI_beyond (i := j) (by omega)]; exact this
theorem lbI_lbI (h : i ≤ j) (x : Nat) : lbI E f j (lbI E f i x) = lbI E f j x := lbI_eq h (lbI_idem _ _ _ _)
/-- a label of a later stage is one of each earlier stage -/
theorem lab_back (F : Fo n E f) (h : i ≤ j) (hx : lbI E f j x = x) : lbI E f i x = x := by
  have h1 := lbI_mono F h x
  have h2 := lbI_le E f i x
  omega
theorem mB_next (hi : i < f.length) : lbI E f (i + 1) (mB E f i) = mA E f i := by rw [lbI_step hi, mB_lab, if_pos rfl]
theorem mA_next (F : Fo n E f) (hi : i < f.length) : lbI E f (i + 1) (mA E f i) = mA E f i := by
  have := F.mlt hi
  rw [lbI_step hi, mA_lab, if_neg (by omega)]

theorem nd_lt (ha : a < n) : nd E f n i a < n + i := by
  induction i with
  | zero => exact ha
  | succ i ih =>
    rw [nd]; split
    · omega
    · omega
theorem nd_ge (h : i < j) : n + i ≤ nd E f n j (mA E f i) := by
  induction j with
  | zero => omega
  | succ j ih =>
    rw [nd]; split
    · omega
    · rename_i hc
      by_cases e : i = j
      · subst e; exact absurd rfl hc
      · exact ih (by omega)
theorem lst_lt (h : x < n) : lst E f n x = x := if_pos h
theorem lst_in (E : List Ed) (f : List Nat) (n i : Nat) : lst E f n (n + i) = mA E f i := by
  unfold lst; rw [if_neg (by omega), Nat.add_sub_cancel_left]
theorem lst_nd (ha : a < n) : lst E f n (nd E f n i a) = a := by
  induction i with
  | zero => exact lst_lt ha
  | succ i ih =>
    rw [nd]; split
    · rename_i h; rw [lst_in, h]
    · exact ih
theorem nd_inj (ha : a < n) (hb : b < n) (h : nd E f n i a = nd E f n j b) : a = b := by
  have := congrArg (lst E f n) h
  rwa [lst_nd ha, lst_nd hb] at this
theorem nd_same (hk : k ≤ i) (h : nd E f n i a < n + k) : nd E f n k a = nd E f n i a := by
  induction i with
  | zero => rw [Nat.le_zero.1 hk]
  | succ i ih =>
    by_cases e : k = i + 1
    · rw [e]
    · rw [nd] at h ⊢
      split at h
      · omega
      · rename_i hc; rw [if_neg hc]; exact ih (by omega) h
/-- what has been joined is no root any more -/
theorem nd_old (F : Fo n E f) (hij : i < j) (hj : j ≤ f.length) (ha : a = mB E f i ∨ a = mA E f i) (hb : lbI E f j b = b) (hbn : b < n) : nd E f n j b ≠ nd E f n i a := by
  intro h
  have hi : i < f.length := by omega
  have han : a < n := by rcases ha with rfl | rfl; exact F.mB_n hi; exact F.mA_n hi
  have e := nd_inj hbn han h
  subst e
  rcases ha with rfl | rfl
  · have h1 := lbI_mono F (show i + 1 ≤ j from hij) (mB E f i)
    rw [mB_next hi] at h1
    have := F.mlt hi
    omega
  · have h1 := nd_ge (E := E) (f := f) (n := n) hij
    have h2 := nd_lt (E := E) (f := f) (i := i) han
    omega
theorem pk_lt (h : pk E f n k x = some i) : i < k := by
  induction k with
  | zero => cases h
  | succ k ih =>
    rw [pk] at h; split at h
    · cases h; omega
    · have := ih h; omega
theorem pk_node (h : pk E f n k x = some i) : x = nd E f n i (mB E f i) ∨ x = nd E f n i (mA E f i) := by
  induction k with
  | zero => cases h
  | succ k ih =>
    rw [pk] at h; split at h
    · rename_i hc; cases h; exact hc
    · exact ih h
theorem pk_below (F : Fo n E f) (hk : k ≤ f.length) (h : pk E f n k x = some i) : x < n + i := by
  have hi := pk_lt h
  rcases pk_node h with rfl | rfl
  · exact nd_lt (F.mB_n (by omega))
  · exact nd_lt (F.mA_n (by omega))
theorem pk_of (F : Fo n E f) (hk : k ≤ f.length) (hi : i < k) (h : x = nd E f n i (mB E f i) ∨ x = nd E f n i (mA E f i)) : pk E f n k x = some i := by
  induction k with
  | zero => omega
  | succ k ih =>
    rw [pk]
    by_cases e : i = k
    · subst e; rw [if_pos h]
    · have hl := F.mlt (show k < f.length by omega)
      have hn : ∀ a, a = mB E f i ∨ a = mA E f i → x = nd E f n i a → ¬ (x = nd E f n k (mB E f k) ∨ x = nd E f n k (mA E f k)) := fun a ha hx hc => by
        rcases hc with hc | hc
        · exact nd_old F (show i < k by omega) (by omega) ha (mB_lab E f k) (F.mB_n (by omega)) (hc.symm.trans hx)
        · exact nd_old F (show i < k by omega) (by omega) ha (mA_lab E f k) (F.mA_n (by omega)) (hc.symm.trans hx)
      rw [if_neg (by rcases h with h | h; exact hn _ (.inl rfl) h; exact hn _ (.inr rfl) h)]
      exact ih (by omega) (by omega)
theorem pk_cut (F : Fo n E f) (hk : k ≤ f.length) (h : pk E f n j x = some i) (hi : i < k) : pk E f n k x = some i := pk_of F hk hi (pk_node h)
/-- a node without a parent is the node of its least leaf -/
theorem pk_root (F : Fo n E f) (hk : k ≤ f.length) (hx : x < n + k) (h : pk E f n k x = none) : lbI E f k (lst E f n x) = lst E f n x ∧ nd E f n k (lst E f n x) = x ∧ lst E f n x < n := by
  induction k with
  | zero => rw [lst_lt (by omega)]; exact ⟨by rw [lbI_zero]; rfl, rfl, by omega⟩
  | succ k ih =>
    have hkf : k < f.length := by omega
    by_cases e : x = n + k
    · subst e
      rw [lst_in]
      exact ⟨mA_next F hkf, by rw [nd, if_pos rfl], F.mA_n hkf⟩
    · rw [pk] at h
      split at h
      · cases h
      · rename_i hc
        obtain ⟨h1, h2, h3⟩ := ih (by omega) (by omega) h
        have c1 : lst E f n x ≠ mB E f k := fun e => hc (.inl (by rw [← e, h2]))
        have c2 : lst E f n x ≠ mA E f k := fun e => hc (.inr (by rw [← e, h2]))
        exact ⟨by rw [lbI_step hkf, h1, if_neg c1], by rw [nd, if_neg c2, h2], h3⟩
/-- the node of a label has no parent yet -/
theorem pk_none (F : Fo n E f) (hk : k ≤ f.length) (ha : a < n) (hl : lbI E f k a = a) : pk E f n k (nd E f n k a) = none := by
  cases h : pk E f n k (nd E f n k a) with
  | none => rfl
  | some i =>
    exfalso
    have hi := pk_lt h
    rcases pk_node h with e | e
    · exact nd_old F hi hk (.inl rfl) hl ha e
    · exact nd_old F hi hk (.inr rfl) hl ha e
/-- nodes that are roots at a stage -/
theorem alive (F : Fo n E f) (hk : k ≤ f.length) (hx : x < n + k) (h : ∀ i, pk E f n f.length x = some i → k ≤ i) : lbI E f k (lst E f n x) = lst E f n x ∧ nd E f n k (lst E f n x) = x ∧ lst E f n x < n := by
  refine pk_root F hk hx ?_
  cases hp : pk E f n k x with
  | none => rfl
  | some i =>
    have h1 := pk_lt hp
    have h2 := h i (pk_cut F (Nat.le_refl _) hp (by omega))
    omega

theorem szT_leaf (h : x < n) : szT E f n x = 1 := if_pos h
theorem szT_in (E : List Ed) (f : List Nat) (n i : Nat) : szT E f n (n + i) = clsN n (lbI E f (i + 1)) (mA E f i) := by
  unfold szT; rw [if_neg (by omega), Nat.add_sub_cancel_left]
theorem clsN_idR (h : a < n) : clsN n id a = 1 := by
  have key : ∀ n, ((List.range n).filter fun j => decide (id j = id a)).length = if a < n then 1 else 0 := by
    intro n
    induction n with
    | zero => rfl
    | succ n ih =>
      rw [List.range_succ, List.filter_append, List.length_append, ih]
      by_cases e : n = a
      · subst e; simp
      · have e2 : ([n].filter fun j => decide (id j = id a)).length = 0 := by simp [e]
        rw [e2]
        by_cases c : a < n
        · rw [if_pos c, if_pos (by omega)]
        · rw [if_neg c, if_neg (by omega)]
  unfold clsN
  rw [key, if_pos h]
theorem szT_nd (F : Fo n E f) (hi : i ≤ f.length) (ha : a < n) (hl : lbI E f i a = a) : szT E f n (nd E f n i a) = clsN n (lbI E f i) a := by
  induction i with
  | zero => rw [lbI_zero, clsN_idR ha]; exact szT_leaf ha
  | succ i ih =>
    have hif : i < f.length := by omega
    rw [nd]
    by_cases e : a = mA E f i
    · rw [if_pos e, szT_in, e]
    · rw [if_neg e]
      have h1 : lbI E f i a = a := lab_back F (Nat.le_succ i) hl
      have h2 : a ≠ mB E f i := fun c => by rw [c, mB_next hif] at hl; exact e (by rw [c, hl])
      rw [ih (by omega) h1, lbI_joinF hif]
      refine (clsN_other (lbI_ok E f i) (x := (edP E (f.getD i 0)).1) (y := (edP E (f.getD i 0)).2) ?_ ?_).symm
      · intro c; rw [h1] at c
        have c : a = mU E f i := c
        unfold mA mB at *; omega
      · intro c; rw [h1] at c
        have c : a = mV E f i := c
        unfold mA mB at *; omega
theorem clsN_label {lab : Nat → Nat} (h : lab x = lab y) : clsN n lab x = clsN n lab y := by unfold clsN; rw [h]
/-- the size of an inner node is that of its kids together -/
theorem szT_sum (F : Fo n E f) (hi : i < f.length) : szT E f n (n + i) = szT E f n (nd E f n i (mA E f i)) + szT E f n (nd E f n i (mB E f i)) := by
  rw [szT_in, szT_nd F (by omega) (F.mA_n hi) (mA_lab E f i), szT_nd F (by omega) (F.mB_n hi) (mB_lab E f i), lbI_joinF hi]
  have hne := F.ne i hi
  have key := clsN_join (n := n) (lbI_ok E f i) (x := (edP E (f.getD i 0)).1) (y := (edP E (f.getD i 0)).2) hne (mA E f i)
  have hA : mA E f i = mU E f i ∨ mA E f i = mV E f i := by unfold mA; omega
  have h1 : clsN n (lbI E f i) (edP E (f.getD i 0)).1 = clsN n (lbI E f i) (mU E f i) := clsN_label (lbI_idem _ _ _ _).symm
  have h2 : clsN n (lbI E f i) (edP E (f.getD i 0)).2 = clsN n (lbI E f i) (mV E f i) := clsN_label (lbI_idem _ _ _ _).symm
  rw [key (by rw [mA_lab]; exact hA), h1, h2]
  rcases Nat.le_total (mU E f i) (mV E f i) with h | h
  · rw [show mA E f i = mU E f i from Nat.min_eq_left h, show mB E f i = mV E f i from Nat.max_eq_right h]
  · rw [show mA E f i = mV E f i from Nat.min_eq_right h, show mB E f i = mU E f i from Nat.max_eq_left h, Nat.add_comm]
theorem clsN_pos {lab : Nat → Nat} (h : a < n) : 0 < clsN n lab a := by
  unfold clsN
  exact List.length_pos_of_mem (a := a) (List.mem_filter.2 ⟨List.mem_range.2 h, by simp⟩)
theorem szT_le (hn : 0 < n) : szT E f n x ≤ n := by
  unfold szT; split
  · exact hn
  · exact clsN_le _ _ _

/-! thresholds: k edges count -/
/-- the label of a node -/
def lbT (E : List Ed) (f : List Nat) (n k x : Nat) : Nat := if x < n + k then lbI E f k (lst E f n x) else lst E f n x
theorem lbT_up (F : Fo n E f) (h : pk E f n f.length x = some i) (hi : i < k) : lbT E f n k x = lbT E f n k (n + i) := by
  have hif := pk_lt h
  have hx := pk_below F (Nat.le_refl _) h
  unfold lbT
  rw [if_pos (by omega), if_pos (by omega), lst_in]
  rcases pk_node h with rfl | rfl
  · rw [lst_nd (F.mB_n hif)]
    exact lbI_eq (i := i + 1) (by omega) (by rw [mB_next hif, mA_next F hif])
  · rw [lst_nd (F.mA_n hif)]
theorem lbT_top (F : Fo n E f) (hk : k ≤ f.length) (h : ∀ i, pk E f n f.length x = some i → k ≤ i) : lbT E f n k x = lst E f n x := by
  unfold lbT; split
  · rename_i hx; exact (alive F hk hx h).1
  · rfl
theorem lbT_leaf (hx : x < n) : lbT E f n k x = lbI E f k x := by
  unfold lbT; rw [if_pos (by omega), lst_lt hx]
/-- is a node below that of a label? -/
def blT (E : List Ed) (f : List Nat) (n k a x : Nat) : Bool := decide (x < n + k ∧ lbI E f k (lst E f n x) = a)
theorem blT_up (F : Fo n E f) (hk : k ≤ f.length) (ha : a < n) (hl : lbI E f k a = a) (h : pk E f n f.length x = some i) : blT E f n k a x = (decide (x = nd E f n k a) || blT E f n k a (n + i)) := by
  have hif := pk_lt h
  have hx := pk_below F (Nat.le_refl _) h
  rw [Bool.eq_iff_iff]
  unfold blT
  simp only [Bool.or_eq_true, decide_eq_true_eq]
  rw [lst_in]
  by_cases hik : i < k
  · have e : lbI E f k (lst E f n x) = lbI E f k (mA E f i) := by
      rcases pk_node h with rfl | rfl
      · rw [lst_nd (F.mB_n hif)]
        exact lbI_eq (i := i + 1) (by omega) (by rw [mB_next hif, mA_next F hif])
      · rw [lst_nd (F.mA_n hif)]
    constructor
    · rintro ⟨_, h2⟩; exact .inr ⟨by omega, by rw [← e]; exact h2⟩
    · rintro (h2 | ⟨_, h2⟩)
      · rw [h2]; exact ⟨nd_lt ha, by rw [lst_nd ha]; exact hl⟩
      · exact ⟨by omega, by rw [e]; exact h2⟩
  · constructor
    · rintro ⟨h1, h2⟩
      obtain ⟨g1, g2, _⟩ := alive F hk h1 (fun j hj => by rw [h] at hj; cases hj; omega)
      rw [g1] at h2
      exact .inl (by rw [← h2]; exact g2.symm)
    · rintro (h2 | ⟨h2, _⟩)
      · rw [h2]; exact ⟨nd_lt ha, by rw [lst_nd ha]; exact hl⟩
      · omega
theorem blT_top (F : Fo n E f) (hk : k ≤ f.length) (ha : a < n) (hl : lbI E f k a = a) (h : pk E f n f.length x = none) : blT E f n k a x = decide (x = nd E f n k a) := by
  rw [Bool.eq_iff_iff]
  unfold blT
  simp only [decide_eq_true_eq]
  constructor
  · rintro ⟨h1, h2⟩
    obtain ⟨g1, g2, _⟩ := alive F hk h1 (fun j hj => by rw [h] at hj; cases hj)
    rw [g1] at h2
    rw [← h2]; exact g2.symm
  · intro h2
    rw [h2]; exact ⟨nd_lt ha, by rw [lst_nd ha]; exact hl⟩
theorem blT_leaf (hx : x < n) : blT E f n k a x = decide (lbI E f k x = a) := by
  unfold blT
  rw [lst_lt hx, Bool.eq_iff_iff]
  simp only [decide_eq_true_eq]
  constructor
  · exact fun h => h.2
  · exact fun h => ⟨by omega, h⟩
/-- the way up from a leaf -/
theorem way_up (F : Fo n E f) (hu : a < n) (hj : j ≤ f.length) (h : pk E f n f.length (nd E f n j (lbI E f j a)) = some i) : n + i = nd E f n (i + 1) (lbI E f (i + 1) a) := by
  have hif := pk_lt h
  have hla : lbI E f j a < n := Nat.lt_of_le_of_lt (lbI_le _ _ _ _) hu
  have key : ∀ b, (b = mB E f i ∨ b = mA E f i) → b < n → lbI E f i b = b → nd E f n j (lbI E f j a) = nd E f n i b → n + i = nd E f n (i + 1) (lbI E f (i + 1) a) := fun b hb hbn hbl e => by
    have e2 := nd_inj hla hbn e
    by_cases hji : j ≤ i
    · have h1 : lbI E f i a = b := by rw [← lbI_lbI hji, e2]; exact hbl
      have h2 : lbI E f (i + 1) a = mA E f i := by
        rw [lbI_step hif, h1]
        rcases hb with rfl | rfl
        · rw [if_pos rfl]
        · split <;> rfl
      rw [h2, nd, if_pos rfl]
    · exact absurd e (nd_old F (by omega) (by omega) hb (lbI_idem _ _ _ _) hla)
  rcases pk_node h with e | e
  · exact key _ (.inl rfl) (F.mB_n hif) (mB_lab _ _ _) e
  · exact key _ (.inr rfl) (F.mA_n hif) (mA_lab _ _ _) e
theorem way_top (F : Fo n E f) (hk : k ≤ f.length) (hu : a < n) (hj : j ≤ k) (h : ∀ i, pk E f n f.length (nd E f n j (lbI E f j a)) = some i → k ≤ i) : nd E f n j (lbI E f j a) = nd E f n k (lbI E f k a) := by
  have hla : lbI E f j a < n := Nat.lt_of_le_of_lt (lbI_le _ _ _ _) hu
  have hx : nd E f n j (lbI E f j a) < n + k := by have := nd_lt (E := E) (f := f) (i := j) hla; omega
  obtain ⟨g1, g2, _⟩ := alive F hk hx h
  rw [lst_nd hla] at g1 g2
  rw [← g2]
  congr 1
  rw [← g1, lbI_lbI hj]
end
end Go.Proofs.YtpbgophogneecaaGreat

/- Plain mathematics of spanning forests: ranks, forests without cycles, thresholds. No conditions. -/
namespace Go.Proofs.YtpbgophogneecaaGreat

theorem cn_of_mem {E : List Ed} {o o' : List Nat} (h : ∀ i, i ∈ o → i ∈ o') {a b : Nat} (hc : Cn (o.map (edP E)) a b) : Cn (o'.map (edP E)) a b :=
  hc.mono fun p hp => by
    obtain ⟨i, hi, rfl⟩ := List.mem_map.1 hp
    exact List.mem_map_of_mem (h i hi)
/-- labels hang on the set of the edges alone -/
theorem labO_set {E : List Ed} {o o' : List Nat} (h : ∀ i, i ∈ o ↔ i ∈ o') : labO E o = labO E o' :=
  labL_same fun _ _ => ⟨cn_of_mem fun i hi => (h i).1 hi, cn_of_mem fun i hi => (h i).2 hi⟩
/-- more edges, fewer components -/
theorem cnt_mono {E : List Ed} {n : Nat} {o o' : List Nat} (h : ∀ i, i ∈ o → i ∈ o') : cntN n (labO E o') ≤ cntN n (labO E o) :=
  cntN_mono fun i _ hi => Nat.le_antisymm ((labO_ok E o).le i) (by
    have h1 := labL_least (cn_of_mem h (cn_lab (o.map (edP E)) i))
    have h2 : labO E o' i = i := hi
    unfold labO at h2
    rw [h2] at h1; exact h1)
/-- where there are as many components, they are the same -/
theorem lab_of_cnt {E : List Ed} {n : Nat} {o o' : List Nat} (hn : InE n E o') (h : ∀ i, i ∈ o → i ∈ o') (hc : cntN n (labO E o') = cntN n (labO E o)) : labO E o = labO E o' := by
  have hfix : ∀ i, labO E o' i = i → labO E o i = i := fun i hi => Nat.le_antisymm ((labO_ok E o).le i) (by
    have h1 := labL_least (cn_of_mem h (cn_lab (o.map (edP E)) i))
    have h2 : labO E o' i = i := hi
    unfold labO at h2
    rw [h2] at h1; exact h1)
  have heq := cntN_eq (fun i _ => hfix i) hc
  -- a vertex out of range is alone
  have hout : ∀ (o : List Nat), InE n E o → ∀ a b, Cn (o.map (edP E)) a b → n ≤ a → a = b := fun o ho a b hab ha => by
    induction hab with
    | refl => rfl
    | @step b c _ e ih =>
      subst ih
      rcases e with e | e
      · obtain ⟨i, hi, he⟩ := List.mem_map.1 e
        have := (ho i hi).1
        rw [he] at this
        have : a < n := this
        omega
      · obtain ⟨i, hi, he⟩ := List.mem_map.1 e
        have := (ho i hi).2
        rw [he] at this
        have : a < n := this
        omega
  have ho : InE n E o := fun i hi => hn i (h i hi)
  refine labL_same fun a b => ⟨cn_of_mem h, fun hab => ?_⟩
  -- the label of a among o is a label among o', and it is connected to b there
  have key : ∀ x, labL (o'.map (edP E)) x = labL (o.map (edP E)) x := fun x => by
    by_cases hx : x < n
    · have h1 := (labL_ok (o.map (edP E))).le x
      have h2 := (heq (labL (o.map (edP E)) x) (by omega)).1 ((labL_ok (o.map (edP E))).idem x)
      have h3 : labL (o'.map (edP E)) x = labL (o'.map (edP E)) (labL (o.map (edP E)) x) := (labL_cn _ _ _).2 (cn_of_mem h (cn_lab _ x))
      rw [h3]; exact h2
    · rw [← hout o' hn x _ (cn_lab _ x) (by omega), ← hout o ho x _ (cn_lab _ x) (by omega)]
  rw [← labL_cn] at hab ⊢
  rw [key, key] at hab
  exact hab
/-- the number of edges that the forest of some edges has -/
def rk (n : Nat) (E : List Ed) (o : List Nat) : Nat := n - cntN n (labO E o)
theorem rk_frs {n : Nat} {E : List Ed} {o : List Nat} (h : InE n E o) : (frs E o).length = rk n E o := by
  have := frs_rank h
  unfold rk; omega
theorem rk_mono {n : Nat} {E : List Ed} {o o' : List Nat} (h : ∀ i, i ∈ o → i ∈ o') : rk n E o ≤ rk n E o' := by
  have := cnt_mono (E := E) (n := n) h
  unfold rk; omega
theorem rk_set {n : Nat} {E : List Ed} {o o' : List Nat} (h : ∀ i, i ∈ o ↔ i ∈ o') : rk n E o = rk n E o' := by
  unfold rk; rw [labO_set h]
theorem rk_le {n : Nat} {E : List Ed} {o : List Nat} (h : InE n E o) : rk n E o ≤ o.length := by rw [← rk_frs h]; exact frs_len E o
/-- further edges add at most their number -/
theorem rk_app {n : Nat} {E : List Ed} {o p : List Nat} (h : InE n E (o ++ p)) : rk n E (o ++ p) ≤ rk n E o + p.length := by
  induction p using rev_ind with
  | h0 => simp
  | h1 p i ih =>
    have ih := ih fun j hj => h j (by
      rcases List.mem_append.1 hj with c | c
      · exact List.mem_append_left _ c
      · exact List.mem_append_right _ (List.mem_append_left _ c))
    have hi : InE n E (o ++ p ++ [i]) := by rw [List.append_assoc]; exact h
    rw [← List.append_assoc]
    rw [← rk_frs hi, frs_snoc]
    have hop : InE n E (o ++ p) := fun j hj => hi j (List.mem_append_left _ hj)
    have := rk_frs hop
    split
    · rw [List.length_append, List.length_singleton, List.length_append, List.length_singleton]; omega
    · rw [List.length_append, List.length_singleton]; omega
/-- edges without a cycle: all are accepted -/
def Acy (E : List Ed) (p : List Nat) : Prop := frs E p = p
theorem acy_iff {n : Nat} {E : List Ed} {p : List Nat} (h : InE n E p) : Acy E p ↔ rk n E p = p.length := by
  rw [← rk_frs h]
  constructor
  · intro e; rw [e]
  · intro e; exact (frs_sub E p).eq_of_length e
theorem acy_frs (E : List Ed) (o : List Nat) : Acy E (frs E o) := by
  unfold Acy
  induction o using rev_ind with
  | h0 => rfl
  | h1 o i ih =>
    rw [frs_snoc]
    split
    · rename_i hc
      rw [frs_snoc, labO_frs, if_pos hc, ih]
    · exact ih
/-- a part of edges without a cycle is without one -/
theorem acy_part {n : Nat} {E : List Ed} {p : List Nat} (h : InE n E p) (ha : Acy E p) (q : Nat → Bool) : Acy E (p.filter q) := by
  have h1 : InE n E (p.filter q) := fun i hi => h i (List.mem_filter.1 hi).1
  have hs : ∀ i, i ∈ p ↔ i ∈ p.filter q ++ p.filter (fun i => !q i) := fun i => by
    rw [List.mem_append, List.mem_filter, List.mem_filter]
    cases q i <;> simp
  have h2 : InE n E (p.filter q ++ p.filter (fun i => !q i)) := fun i hi => h i ((hs i).2 hi)
  have e1 := (acy_iff h).1 ha
  rw [rk_set hs] at e1
  have e2 := rk_app h2
  have e3 := rk_le h1
  have e4 : p.length = (p.filter q).length + (p.filter fun i => !q i).length := by
    induction p with
    | nil => rfl
    | cons a t ih2 =>
      have : (t.filter q).length + (t.filter fun i => !q i).length = t.length := by
        clear ih2 e1 e2 e3 hs h1 h2 ha h
        induction t with
        | nil => rfl
        | cons b t ih => cases hb : q b <;> simp [hb] <;> omega
      cases hb : q a <;> simp [hb] <;> omega
  exact (acy_iff h1).2 (by omega)
end Go.Proofs.YtpbgophogneecaaGreat

/- Some of the edges, as edges of their own. No conditions. -/
namespace Go.Proofs.YtpbgophogneecaaGreat

/-- some of the edges -/
def someE (E : List Ed) (p : List Nat) : List Ed := p.map (eAt E)
theorem someE_len (E : List Ed) (p : List Nat) : (someE E p).length = p.length := by simp [someE]
theorem someE_at {E : List Ed} {p : List Nat} {i : Nat} (h : i < p.length) : eAt (someE E p) i = eAt E (p.getD i 0) := by
  unfold someE
  rw [eAt_eq (by simpa using h), List.getElem_map]
  simp [List.getD, h]
theorem someE_lab (E : List Ed) (p : List Nat) : labO (someE E p) (List.range (someE E p).length) = labO E p := by
  have h : (List.range (someE E p).length).map (edP (someE E p)) = p.map (edP E) := by
    apply List.ext_getElem
    · simp [someE]
    · intro i h1 h2
      simp only [List.length_map] at h2
      simp only [List.getElem_map, List.getElem_range]
      unfold edP
      rw [someE_at h2]
      simp [List.getD, h2]
  unfold labO; rw [h]
theorem someE_snoc (E : List Ed) (p : List Nat) (x : Nat) : someE E (p ++ [x]) = someE E p ++ [eAt E x] := by simp [someE]
theorem gok_some {k : Nat} {E : List Ed} {p : List Nat} (G : GOk k E) (hp : ∀ i, i ∈ p → i < E.length) (hl : p.length ≤ 16384) : GOk k (someE E p) :=
  ⟨G.n_le, by rw [someE_len]; exact hl, fun i hi => by
    rw [someE_len] at hi
    rw [someE_at hi]
    exact G.ends _ (hp _ (by rw [List.getD_eq_getElem?_getD, List.getElem?_eq_getElem hi]; exact List.getElem_mem _))⟩
/-- the edges up to a weight -/
def leW (E : List Ed) (θ : Int) (i : Nat) : Bool := decide ((eAt E i).w ≤ θ)
end Go.Proofs.YtpbgophogneecaaGreat

/- Plain mathematics of the tree that joins the components of a graph: Kruskal's forest is one whose edges join, and its first edges are those up to a weight. No conditions. -/
namespace Go.Proofs.YtpbgophogneecaaGreat

section
variable {E : List Ed} {S T : Nat → Prop} {o : List Nat} {a b i k n : Nat}
theorem ci_uptoK (hs : o.Pairwise (ltE E)) : ∀ k, k ∈ o → CI E (fun l => l ∈ frs E o ∧ ¬ ltE E k l) (edP E k).1 (edP E k).2 := by
  induction o using rev_ind with
  | h0 => intro k hk; cases hk
  | h1 o i ih =>
    intro k hk
    have hs1 := List.pairwise_append.1 hs
    have hsub : ∀ l, l ∈ frs E o → l ∈ frs E (o ++ [i]) := fun l hl => by
      rw [frs_snoc]; split
      · exact List.mem_append_left _ hl
      · exact hl
    rcases List.mem_append.1 hk with hk | hk
    · exact (ih hs1.1 k hk).mono fun l hl => ⟨hsub l hl.1, hl.2⟩
    · obtain rfl : k = i := by simpa using hk
      by_cases hc : accB E (labO E o) k = true
      · exact ci_one ⟨by rw [frs_snoc, if_pos hc]; simp, fun c => ltE_asymm c c⟩
      · have hc : labO E o (edP E k).1 = labO E o (edP E k).2 := by simpa [accB] using hc
        rw [← labO_frs] at hc
        exact (ci_lab.2 hc).mono fun l hl => ⟨hsub l hl, fun c => ltE_asymm c (hs1.2.2 l ((frs_sub E o).mem hl) k (by simp))⟩
theorem ci_downK (hs : o.Pairwise (ltE E)) (hd : ∀ k l, S k → ltE E l k → S l) : CI E (fun k => k ∈ frs E o ∧ S k) a b ↔ CI E (fun k => k ∈ o ∧ S k) a b := by
  constructor
  · exact fun h => h.mono fun k hk => ⟨(frs_sub E o).mem hk.1, hk.2⟩
  · refine fun h => ci_ends (fun k hk => (ci_uptoK hs k hk.1).mono fun l hl => ⟨hl.1, ?_⟩) h
    by_cases e : l = k
    · rw [e]; exact hk.2
    · exact hd k l hk.2 ((ltE_total e).resolve_right hl.2)
/-- the forest has the components of each beginning -/
theorem down_same {S : Nat → Bool} (ho : OrdOf E o) (hd : ∀ k l, S k = true → ltE E l k → S l = true) : labO E ((List.range E.length).filter S) = labO E ((frs E o).filter S) := by
  have h1 : labO E ((List.range E.length).filter S) = labO E (o.filter S) := labO_set fun i => by
    rw [List.mem_filter, List.mem_filter, List.mem_range, ho.mem]
  rw [h1]
  unfold labO
  refine labL_same fun a b => ?_
  rw [← ci_cn, ← ci_cn]
  have hd := ci_downK (S := fun i => S i = true) (a := a) (b := b) ho.sorted hd
  exact ⟨fun h => (hd.2 (h.mono fun i hi => List.mem_filter.1 hi)).mono fun i hi => List.mem_filter.2 hi, fun h => (hd.1 (h.mono fun i hi => List.mem_filter.1 hi)).mono fun i hi => List.mem_filter.2 hi⟩
end
theorem getD_app {l l' : List Nat} {i d : Nat} (h : i < l.length) : (l ++ l').getD i d = l.getD i d := by
  simp [List.getD, List.getElem?_append_left h]
theorem getD_end {l : List Nat} {x d : Nat} : (l ++ [x]).getD l.length d = x := by simp [List.getD]
theorem frs_mut (E : List Ed) (o : List Nat) : ∀ i, i < (frs E o).length → mU E (frs E o) i ≠ mV E (frs E o) i := by
  induction o using rev_ind with
  | h0 => intro i hi; rw [frs_nil] at hi; simp at hi
  | h1 o x ih =>
    intro i hi
    rw [frs_snoc] at hi ⊢
    split at hi
    · rename_i hc
      rw [if_pos hc]
      have ht : ∀ j, j ≤ (frs E o).length → (frs E o ++ [x]).take j = (frs E o).take j := fun j hj => by rw [List.take_append_of_le_length hj]
      by_cases e : i < (frs E o).length
      · have := ih i e
        unfold mU mV lbI at this ⊢
        rw [ht i (by omega), getD_app e]; exact this
      · have e : i = (frs E o).length := by simp at hi; omega
        subst e
        unfold mU mV lbI
        rw [ht _ (Nat.le_refl _), getD_end, List.take_length, labO_frs]
        simpa [accB] using hc
    · rename_i hc
      rw [if_neg hc]; exact ih i hi
/-- Kruskal's forest is such a list of edges -/
theorem frs_fo {n : Nat} {E : List Ed} {o : List Nat} (G : GOk n E) (ho : OrdOf E o) : Fo n E (frs E o) := by
  have hm : ∀ i, i < (frs E o).length → (edP E ((frs E o).getD i 0)).1 < n ∧ (edP E ((frs E o).getD i 0)).2 < n := fun i hi => by
    have h1 : (frs E o).getD i 0 ∈ frs E o := by
      rw [List.getD_eq_getElem?_getD, List.getElem?_eq_getElem hi]; exact List.getElem_mem _
    obtain ⟨u, v, hu, hv, h2, h3, _⟩ := G.nats (ho.mem.1 ((frs_sub E o).mem h1))
    unfold edP; rw [hu, hv]; simp; omega
  exact ⟨frs_mut E o, fun i hi => (hm i hi).1, fun i hi => (hm i hi).2⟩
/-- a beginning of a list -/
theorem filt_take {p : Nat → Bool} : ∀ {l : List Nat}, l.Pairwise (fun x y => p y = true → p x = true) → l.filter p = l.take (l.filter p).length ∧ ∀ i, i < l.length → (p (l.getD i 0) = true ↔ i < (l.filter p).length)
  | [], _ => ⟨rfl, fun i hi => by simp at hi⟩
  | x :: t, h => by
    have ⟨h1, h2⟩ := List.pairwise_cons.1 h
    obtain ⟨i1, i2⟩ := filt_take h2
    by_cases c : p x = true
    · have e : (x :: t).filter p = x :: t.filter p := by simp [c]
      rw [e]
      refine ⟨by rw [List.length_cons, List.take_succ_cons, ← i1], fun i hi => ?_⟩
      cases i with
      | zero => simp [c]
      | succ i =>
        have := i2 i (by simp at hi; omega)
        simp only [List.getD_cons_succ, List.length_cons, Nat.add_lt_add_iff_right]; exact this
    · have hn : t.filter p = [] := List.filter_eq_nil_iff.2 fun y hy hc => c (h1 y hy hc)
      have e : (x :: t).filter p = [] := by simp [c, hn]
      rw [e]
      refine ⟨rfl, fun i hi => ?_⟩
      simp only [List.length_nil, Nat.not_lt_zero, iff_false]
      cases i with
      | zero => simpa using c
      | succ i =>
        intro hc
        have hi : i < t.length := by simp at hi; omega
        have := (i2 i hi).1 (by simpa using hc)
        rw [hn] at this; simp at this
/-- how many of the forest's edges are in a beginning -/
def kOf (f : List Nat) (S : Nat → Bool) : Nat := (f.filter S).length
theorem kOf_le (f : List Nat) (S : Nat → Bool) : kOf f S ≤ f.length := List.length_filter_le _ _
section
variable {E : List Ed} {o : List Nat} {S : Nat → Bool}
theorem frs_pair (ho : OrdOf E o) (hd : ∀ k l, S k = true → ltE E l k → S l = true) : (frs E o).Pairwise (fun x y => S y = true → S x = true) :=
  (ho.sorted.sublist (frs_sub E o)).imp fun {a b} hab hb => hd b a hb hab
theorem kOf_iff (ho : OrdOf E o) (hd : ∀ k l, S k = true → ltE E l k → S l = true) {i : Nat} (hi : i < (frs E o).length) : S ((frs E o).getD i 0) = true ↔ i < kOf (frs E o) S := (filt_take (frs_pair ho hd)).2 i hi
/-- the components of the edges in a beginning -/
theorem lbI_kOf (ho : OrdOf E o) (hd : ∀ k l, S k = true → ltE E l k → S l = true) : lbI E (frs E o) (kOf (frs E o) S) = labO E ((List.range E.length).filter S) := by
  rw [down_same ho hd, (filt_take (frs_pair ho hd)).1]; rfl
end
/-- up to a weight, and below it -/
theorem leW_down {E : List Ed} {θ : Int} : ∀ k l, leW E θ k = true → ltE E l k → leW E θ l = true := fun k l hk hl => by
  unfold leW at *
  simp only [decide_eq_true_eq] at *
  unfold ltE at hl; omega
def ltW (E : List Ed) (θ : Int) (i : Nat) : Bool := decide ((eAt E i).w < θ)
theorem ltW_down {E : List Ed} {θ : Int} : ∀ k l, ltW E θ k = true → ltE E l k → ltW E θ l = true := fun k l hk hl => by
  unfold ltW at *
  simp only [decide_eq_true_eq] at *
  unfold ltE at hl; omega
/-- how many components there are behind the first edges -/
theorem cnt_lbI {n : Nat} {E : List Ed} {f : List Nat} (F : Fo n E f) : ∀ {i : Nat}, i ≤ f.length → cntN n (lbI E f i) + i = n
  | 0, _ => by rw [lbI_zero, cntN_id]; rfl
  | i + 1, h => by
    have ih := cnt_lbI F (show i ≤ f.length by omega)
    have hi : i < f.length := by omega
    have := cntN_join (n := n) (lbI_ok E f i) (F.lu i hi) (F.lv i hi) (F.ne i hi)
    rw [lbI_joinF hi]; omega
/-- the weight of a node -/
def hgt (E : List Ed) (f : List Nat) (n x : Nat) : Int := if x < n then 0 else (eAt E (f.getD (x - n) 0)).w
theorem hgt_in (E : List Ed) (f : List Nat) (n i : Nat) : hgt E f n (n + i) = (eAt E (f.getD i 0)).w := by
  unfold hgt; rw [if_neg (by omega), Nat.add_sub_cancel_left]
theorem hgt_leaf {E : List Ed} {f : List Nat} {n x : Nat} (h : x < n) : hgt E f n x = 0 := if_pos h
theorem frs_ws {E : List Ed} {o : List Nat} (ho : OrdOf E o) {i j : Nat} (hij : i < j) (hj : j < (frs E o).length) : (eAt E ((frs E o).getD i 0)).w ≤ (eAt E ((frs E o).getD j 0)).w := by
  have h := ho.sorted.sublist (frs_sub E o)
  have := List.pairwise_iff_getElem.1 h i j (by omega) hj hij
  rw [List.getD_eq_getElem?_getD, List.getElem?_eq_getElem (show i < (frs E o).length by omega), List.getD_eq_getElem?_getD, List.getElem?_eq_getElem hj]
  simp only [Option.getD_some]
  unfold ltE at this; omega
theorem hgt_le {E : List Ed} {o : List Nat} {n : Nat} (ho : OrdOf E o) {i : Nat} (hi : i < (frs E o).length) (θ : Int) : hgt E (frs E o) n (n + i) ≤ θ ↔ i < kOf (frs E o) (leW E θ) := by
  rw [hgt_in, ← kOf_iff ho leW_down hi]
  unfold leW; simp
end Go.Proofs.YtpbgophogneecaaGreat

/- Plain mathematics of the thresholds at which components change: the weights of the forest's edges, each once. No conditions. -/
namespace Go.Proofs.YtpbgophogneecaaGreat
open Go.Lib

/-- the labels of the edges up to a weight, and below it -/
def lbW (E : List Ed) (θ : Int) : Nat → Nat := labO E ((List.range E.length).filter (leW E θ))
def lbB (E : List Ed) (θ : Int) : Nat → Nat := labO E ((List.range E.length).filter (ltW E θ))
theorem leW_iff {E : List Ed} {θ : Int} {i : Nat} : leW E θ i = true ↔ (eAt E i).w ≤ θ := by unfold leW; simp
theorem ltW_iff {E : List Ed} {θ : Int} {i : Nat} : ltW E θ i = true ↔ (eAt E i).w < θ := by unfold ltW; simp
/-- a weight at which components merge -/
def mrg (n : Nat) (E : List Ed) (w : Int) : Bool := decide (cntN n (lbW E w) ≠ cntN n (lbB E w))
/-- the steps of a graph -/
structure IsSteps (n : Nat) (E : List Ed) (l : List Int) : Prop where
  up : l.Pairwise (· < ·)
  wt : ∀ x, x ∈ l → ∃ i, i < E.length ∧ (eAt E i).w = x
  at_ : ∀ i, i < E.length → ((eAt E i).w ∈ l ↔ mrg n E (eAt E i).w = true)
theorem IsSteps.mem {n : Nat} {E : List Ed} {l : List Int} (h : IsSteps n E l) (x : Int) : x ∈ l ↔ (∃ i, i < E.length ∧ (eAt E i).w = x) ∧ mrg n E x = true := by
  constructor
  · intro hx
    obtain ⟨i, hi, e⟩ := h.wt x hx
    exact ⟨⟨i, hi, e⟩, by rw [← e]; exact (h.at_ i hi).1 (by rw [e]; exact hx)⟩
  · rintro ⟨⟨i, hi, e⟩, hm⟩
    rw [← e] at hm ⊢
    exact (h.at_ i hi).2 hm
theorem up_ext : ∀ {l m : List Int}, l.Pairwise (· < ·) → m.Pairwise (· < ·) → (∀ x, x ∈ l ↔ x ∈ m) → l = m
  | [], [], _, _, _ => rfl
  | [], b :: m, _, _, h => absurd ((h b).2 (by simp)) (by simp)
  | a :: l, [], _, _, h => absurd ((h a).1 (by simp)) (by simp)
  | a :: l, b :: m, hl, hm, h => by
    have ⟨h1, h2⟩ := List.pairwise_cons.1 hl
    have ⟨h3, h4⟩ := List.pairwise_cons.1 hm
    have e : a = b := by
      rcases List.mem_cons.1 ((h a).1 (by simp)) with c | c
      · exact c
      · rcases List.mem_cons.1 ((h b).2 (by simp)) with d | d
        · exact d.symm
        · have := h1 b d; have := h3 a c; omega
    subst e
    rw [up_ext h2 h4 fun x => ?_]
    constructor
    · intro hx
      rcases List.mem_cons.1 ((h x).1 (by simp [hx])) with c | c
      · have := h1 x hx; omega
      · exact c
    · intro hx
      rcases List.mem_cons.1 ((h x).2 (by simp [hx])) with c | c
      · have := h3 x hx; omega
      · exact c
theorem IsSteps.one {n : Nat} {E : List Ed} {l m : List Int} (h : IsSteps n E l) (h' : IsSteps n E m) : l = m := up_ext h.up h'.up fun x => by rw [h.mem, h'.mem]
/-- a list without repetitions next to one another -/
theorem cpt_mem {d : Array Int} {x : Int} : ∀ {m : Nat}, x ∈ compactUpTo d m ↔ ∃ j, j < m ∧ d[j]! = x
  | 0 => by simp [compactUpTo]
  | m + 1 => by
    rw [compactUpTo_succ, List.mem_append, cpt_mem]
    constructor
    · rintro (⟨j, hj, e⟩ | h)
      · exact ⟨j, by omega, e⟩
      · split at h
        · have h : x = d[m]! := by simpa using h
          exact ⟨m, by omega, h.symm⟩
        · cases h
    · rintro ⟨j, hj, e⟩
      by_cases c : j < m
      · exact .inl ⟨j, c, e⟩
      · obtain rfl : j = m := by omega
        by_cases hk : keeps d j = true
        · rw [if_pos hk]; exact .inr (by simp [e])
        · have h2 : ¬ (j = 0 ∨ d[j]! ≠ d[j - 1]!) := fun c => hk (by unfold keeps; exact decide_eq_true c)
          have h0 : j ≠ 0 := fun c => h2 (.inl c)
          have h1 : d[j]! = d[j - 1]! := Classical.byContradiction fun c => h2 (.inr c)
          exact .inl ⟨j - 1, by omega, by rw [← h1]; exact e⟩
theorem cpt_up {d : Array Int} {N : Nat} (hd : ∀ i j, i < j → j < N → d[i]! ≤ d[j]!) : ∀ {m : Nat}, m ≤ N → (compactUpTo d m).Pairwise (· < ·)
  | 0, _ => by simp [compactUpTo]
  | m + 1, h => by
    rw [compactUpTo_succ]
    have ih := cpt_up hd (m := m) (by omega)
    split
    · rename_i hk
      refine List.pairwise_append.2 ⟨ih, by simp, fun x hx y hy => ?_⟩
      obtain rfl : y = d[m]! := by simpa using hy
      obtain ⟨j, hj, e⟩ := cpt_mem.1 hx
      have hk : m = 0 ∨ d[m]! ≠ d[m - 1]! := by unfold keeps at hk; exact of_decide_eq_true hk
      have h0 : m ≠ 0 := by omega
      have h1 := hk.resolve_left h0
      have h2 := hd (m - 1) m (by omega) (by omega)
      by_cases c : j = m - 1
      · rw [← e, c]; omega
      · have := hd j (m - 1) (by omega) (by omega)
        omega
    · rw [List.append_nil]; exact ih
/-- the weights of some edges, in their order, and each once -/
def ws (E : List Ed) (f : List Nat) : List Int := f.map fun i => (eAt E i).w
def stp (E : List Ed) (f : List Nat) : List Int := compactUpTo (ws E f).toArray (ws E f).length
theorem ws_len (E : List Ed) (f : List Nat) : (ws E f).length = f.length := by simp [ws]
theorem ws_at {E : List Ed} {f : List Nat} {i : Nat} (h : i < f.length) : (ws E f).toArray[i]! = (eAt E (f.getD i 0)).w := by simp [ws, h]
theorem stp_mem {E : List Ed} {f : List Nat} {x : Int} : x ∈ stp E f ↔ ∃ j, j < f.length ∧ (eAt E (f.getD j 0)).w = x := by
  unfold stp
  rw [cpt_mem, ws_len]
  constructor
  · rintro ⟨j, hj, e⟩; exact ⟨j, hj, by rw [← ws_at hj]; exact e⟩
  · rintro ⟨j, hj, e⟩; exact ⟨j, hj, by rw [ws_at hj]; exact e⟩
section
variable {n : Nat} {E : List Ed} {o : List Nat}
theorem stp_up (ho : OrdOf E o) : (stp E (frs E o)).Pairwise (· < ·) := by
  unfold stp
  refine cpt_up (N := (frs E o).length) (fun i j hij hj => ?_) (by rw [ws_len]; exact Nat.le_refl _)
  rw [ws_at (by omega), ws_at hj]
  exact frs_ws ho hij hj
theorem lbI_W (ho : OrdOf E o) (θ : Int) : lbI E (frs E o) (kOf (frs E o) (leW E θ)) = lbW E θ := lbI_kOf ho leW_down
theorem lbI_B (ho : OrdOf E o) (θ : Int) : lbI E (frs E o) (kOf (frs E o) (ltW E θ)) = lbB E θ := lbI_kOf ho ltW_down
theorem cntW_k (G : GOk n E) (ho : OrdOf E o) (θ : Int) : cntN n (lbW E θ) + kOf (frs E o) (leW E θ) = n := by
  rw [← lbI_W ho]; exact cnt_lbI (frs_fo G ho) (kOf_le _ _)
theorem cntB_k (G : GOk n E) (ho : OrdOf E o) (θ : Int) : cntN n (lbB E θ) + kOf (frs E o) (ltW E θ) = n := by
  rw [← lbI_B ho]; exact cnt_lbI (frs_fo G ho) (kOf_le _ _)
theorem frs_lt (ho : OrdOf E o) {j : Nat} (hj : j < (frs E o).length) : (frs E o).getD j 0 < E.length := by
  have h1 : (frs E o).getD j 0 ∈ frs E o := by
    rw [List.getD_eq_getElem?_getD, List.getElem?_eq_getElem hj]; exact List.getElem_mem _
  exact ho.mem.1 ((frs_sub E o).mem h1)
theorem kOf_mono {f : List Nat} {S T : Nat → Bool} (h : ∀ i, S i = true → T i = true) : kOf f S ≤ kOf f T := by
  unfold kOf
  induction f with
  | nil => exact Nat.le_refl _
  | cons a t ih =>
    by_cases c : S a = true
    · rw [List.filter_cons_of_pos c, List.filter_cons_of_pos (h a c)]; simpa using ih
    · rw [List.filter_cons_of_neg c]
      refine Nat.le_trans ih (List.Sublist.length_le (List.Sublist.filter _ (List.sublist_cons_self a t)))
/-- between two thresholds there is a step just if there are more edges -/
theorem step_between (ho : OrdOf E o) (θ η : Int) : (∃ s, s ∈ stp E (frs E o) ∧ θ < s ∧ s ≤ η) ↔ kOf (frs E o) (leW E θ) < kOf (frs E o) (leW E η) := by
  have hle : ∀ i (x : Int), leW E x i = true ↔ (eAt E i).w ≤ x := fun i x => by unfold leW; simp
  constructor
  · rintro ⟨s, hs, h1, h2⟩
    obtain ⟨j, hj, e⟩ := stp_mem.1 hs
    have a1 := (kOf_iff ho leW_down (S := leW E η) hj).1 ((hle _ _).2 (by omega))
    have a2 : ¬ j < kOf (frs E o) (leW E θ) := fun c => by
      have := (hle _ _).1 ((kOf_iff ho leW_down (S := leW E θ) hj).2 c)
      omega
    omega
  · intro hk
    have hj : kOf (frs E o) (leW E θ) < (frs E o).length := Nat.lt_of_lt_of_le hk (kOf_le _ _)
    have a1 := (hle _ _).1 ((kOf_iff ho leW_down (S := leW E η) hj).2 hk)
    have a2 : ¬ (eAt E ((frs E o).getD (kOf (frs E o) (leW E θ)) 0)).w ≤ θ := fun c => by
      have := (kOf_iff ho leW_down (S := leW E θ) hj).1 ((hle _ _).2 c)
      omega
    exact ⟨_, stp_mem.2 ⟨_, hj, rfl⟩, by omega, a1⟩
theorem stp_is (G : GOk n E) (ho : OrdOf E o) : IsSteps n E (stp E (frs E o)) := by
  refine ⟨stp_up ho, fun x hx => ?_, fun i hi => ?_⟩
  · obtain ⟨j, hj, e⟩ := stp_mem.1 hx
    exact ⟨_, frs_lt ho hj, e⟩
  · generalize (eAt E i).w = x
    have h1 := cntW_k G ho x
    have h2 := cntB_k G ho x
    have hmn : kOf (frs E o) (ltW E x) ≤ kOf (frs E o) (leW E x) := kOf_mono fun i hi => by
      unfold ltW at hi; unfold leW
      simp only [decide_eq_true_eq] at hi ⊢; omega
    have hm : mrg n E x = true ↔ kOf (frs E o) (ltW E x) < kOf (frs E o) (leW E x) := by
      unfold mrg; rw [decide_eq_true_eq]; omega
    rw [hm, stp_mem]
    constructor
    · rintro ⟨j, hj, e⟩
      have a1 := (kOf_iff ho leW_down (S := leW E x) hj).1 (by unfold leW; exact decide_eq_true (by omega))
      have a2 : ¬ j < kOf (frs E o) (ltW E x) := fun c => by
        have := (kOf_iff ho ltW_down (S := ltW E x) hj).2 c
        unfold ltW at this
        have := of_decide_eq_true this
        omega
      omega
    · intro hk
      have hj : kOf (frs E o) (ltW E x) < (frs E o).length := Nat.lt_of_lt_of_le hk (kOf_le _ _)
      have a1 := (kOf_iff ho leW_down (S := leW E x) hj).2 hk
      have a2 : ¬ ltW E x ((frs E o).getD (kOf (frs E o) (ltW E x)) 0) = true := fun c => by
        have := (kOf_iff ho ltW_down (S := ltW E x) hj).1 c
        omega
      rw [leW_iff] at a1; rw [ltW_iff] at a2
      exact ⟨_, hj, by omega⟩
/-- two thresholds have the same labels just if they have as many edges -/
theorem lbW_same (ho : OrdOf E o) {θ η : Int} (h : kOf (frs E o) (leW E θ) = kOf (frs E o) (leW E η)) : lbW E θ = lbW E η := by rw [← lbI_W ho, h, lbI_W ho]
theorem cntN_congr {k k' : Nat → Nat} (h : ∀ i, i < n → k i = k' i) : cntN n k = cntN n k' := by
  unfold cntN
  congr 1
  refine List.filter_congr fun i hi => ?_
  rw [h i (List.mem_range.1 hi)]
end
end Go.Proofs.YtpbgophogneecaaGreat
