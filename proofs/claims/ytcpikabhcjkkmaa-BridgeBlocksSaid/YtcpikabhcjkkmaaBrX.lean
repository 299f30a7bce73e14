/- Plain mathematics: what Bridges, Cuts, Labels and Blocks answer, as lists that are reckoned. Conditions: the graph is one that is accepted. -/
import Derived.Test.YtcpikabhcjkkmaaBrL
namespace Go.Proofs.Ytcpikabhcjkkmaa

/-- the edges but one; the edges that leave a vertex alone -/
def ocE (E : List Ed) (i : Nat) : List Nat := (List.range E.length).filter fun j => decide (j ≠ i)
def ocV (E : List Ed) (x : Nat) : List Nat := (List.range E.length).filter fun j => decide ((edP E j).1 ≠ x ∧ (edP E j).2 ≠ x)
theorem mem_ocE {E : List Ed} {i j : Nat} : j ∈ ocE E i ↔ noE E i j := by simp [ocE, noE]
theorem mem_ocV {E : List Ed} {x j : Nat} : j ∈ ocV E x ↔ noV E x j := by simp [ocV, noV]
theorem ci_congr {E : List Ed} {S T : Nat → Prop} (h : ∀ i, S i ↔ T i) {a b : Nat} : CI E S a b ↔ CI E T a b := ⟨fun c => c.mono fun i hi => (h i).1 hi, fun c => c.mono fun i hi => (h i).2 hi⟩
theorem ci_noE {E : List Ed} {i a b : Nat} : CI E (noE E i) a b ↔ labO E (ocE E i) a = labO E (ocE E i) b := by
  rw [← ci_lab]; exact ci_congr fun j => mem_ocE.symm
theorem ci_noV {E : List Ed} {x a b : Nat} : CI E (noV E x) a b ↔ labO E (ocV E x) a = labO E (ocV E x) b := by
  rw [← ci_lab]; exact ci_congr fun j => mem_ocV.symm
/-- is an edge a bridge? the bridges -/
def briB (E : List Ed) (i : Nat) : Bool := decide (labO E (ocE E i) (edP E i).1 ≠ labO E (ocE E i) (edP E i).2)
def briL (E : List Ed) : List Nat := (List.range E.length).filter (briB E)
theorem bri_iff {E : List Ed} {i : Nat} : Bri E i ↔ i < E.length ∧ briB E i = true := by
  unfold Bri briB
  rw [ci_noE, decide_eq_true_eq]
theorem mem_briL {E : List Ed} {i : Nat} : i ∈ briL E ↔ Bri E i := by
  rw [bri_iff, briL, List.mem_filter, List.mem_range]
theorem briL_sorted (E : List Ed) : (briL E).Pairwise (· < ·) := List.pairwise_lt_range.filter _
theorem bri_list {E : List Ed} {l : List Nat} (h1 : l.Pairwise (· < ·)) (h2 : ∀ i, i ∈ l ↔ Bri E i) : l = briL E :=
  sorted_uniq h1 (briL_sorted E) fun i => by rw [h2, mem_briL]
/-- does the component of a vertex fall apart without it? -/
def cutB (E : List Ed) (x : Nat) : Bool := (adj E x).any fun i => (adj E x).any fun j => decide (labO E (ocV E x) (oN E x i) ≠ labO E (ocV E x) (oN E x j))
def cutL (n : Nat) (E : List Ed) : List Nat := (List.range n).filter (cutB E)
def CutP (E : List Ed) (x : Nat) : Prop := ∃ i j y z, i < E.length ∧ j < E.length ∧ Lnk E i x y ∧ Lnk E j x z ∧ ¬ CI E (noV E x) y z
section
variable {n : Nat} {E : List Ed} {x k : Nat}
theorem oN_of (G : GOk n E) {i y : Nat} (hi : i < E.length) (hl : Lnk E i x y) : oN E x i = y ∧ i ∈ adj E x := by
  have ha := inc_lnk G hi hl
  have h1 := oN_lnk G hi (mem_adj.1 ha).2
  refine ⟨?_, ha⟩
  rcases lnk_two h1.1 hl with ⟨_, e⟩ | ⟨_, e⟩
  · exact e
  · exact absurd e.symm h1.2.1
theorem cutB_iff (G : GOk n E) : cutB E x = true ↔ CutP E x := by
  unfold cutB CutP
  simp only [List.any_eq_true, decide_eq_true_eq]
  constructor
  · rintro ⟨i, hi, j, hj, h⟩
    obtain ⟨i1, i2⟩ := mem_adj.1 hi
    obtain ⟨j1, j2⟩ := mem_adj.1 hj
    exact ⟨i, j, _, _, i1, j1, (oN_lnk G i1 i2).1, (oN_lnk G j1 j2).1, fun c => h (ci_noV.1 c)⟩
  · rintro ⟨i, j, y, z, hi, hj, h1, h2, h⟩
    obtain ⟨e1, a1⟩ := oN_of G hi h1
    obtain ⟨e2, a2⟩ := oN_of G hj h2
    exact ⟨i, a1, j, a2, by rw [e1, e2]; exact fun c => h (ci_noV.2 c)⟩
theorem cut_iff (h : CutC E x k) : 1 < k ↔ CutP E x := by
  obtain ⟨Ps, rfl, hp, hc⟩ := h
  constructor
  · intro hk
    match Ps, hp, hk with
    | a :: b :: r, hp, _ =>
      obtain ⟨i, hi, hl⟩ := hp.nb a (by simp)
      obtain ⟨j, hj, hm⟩ := hp.nb b (by simp)
      exact ⟨i, j, a, b, hi, hj, hl, hm, (List.pairwise_cons.1 hp.pw).1 b (by simp)⟩
  · rintro ⟨i, j, y, z, hi, hj, h1, h2, h⟩
    obtain ⟨c, hcm, hcy⟩ := hc i y hi h1
    obtain ⟨d, hdm, hdz⟩ := hc j z hj h2
    match Ps, hcm, hdm with
    | [a], hcm, hdm =>
      rw [List.mem_singleton.1 hcm] at hcy
      rw [List.mem_singleton.1 hdm] at hdz
      exact absurd (hcy.symm.trans hdz) h
    | a :: b :: r, _, _ => simp
theorem cut_list (G : GOk n E) {f : Nat → Nat} (h : ∀ x, x < n → CutC E x (f x)) : (selN n fun x => 1 < f x) = cutL n E := by
  unfold selN cutL
  refine List.filter_congr fun x hx => ?_
  have hx := List.mem_range.1 hx
  rw [Bool.eq_iff_iff, decide_eq_true_eq, cutB_iff G]
  exact cut_iff (h x hx)
end
/-- the labels -/
def nbL (E : List Ed) : List Nat := (List.range E.length).filter fun i => !briB E i
theorem mem_nbL {E : List Ed} {i : Nat} : i ∈ nbL E ↔ NB E i := by
  unfold nbL NB
  rw [List.mem_filter, List.mem_range, bri_iff]
  simp only [Bool.not_eq_true', not_and, Bool.not_eq_true]
  constructor
  · rintro ⟨h1, h2⟩; exact ⟨h1, fun _ => h2⟩
  · rintro ⟨h1, h2⟩; exact ⟨h1, h2 h1⟩
theorem lab_list {E : List Ed} {k : Nat → Nat} (h : LeastL E (NB E) k) : k = labO E (nbL E) := h.uniq ((leastL_lab E (nbL E)).congr fun _ => mem_nbL)
/-! the blocks -/
/-- are two edges on a common cycle, at an end that they share? -/
def nearB (E : List Ed) (a b v : Nat) : Bool := decide (oN E v a = oN E v b) || decide (labO E (ocV E v) (oN E v a) = labO E (ocV E v) (oN E v b))
def nearE (E : List Ed) (a b : Nat) : Bool := inc E (edP E a).1 b && nearB E a b (edP E a).1 || inc E (edP E a).2 b && nearB E a b (edP E a).2
/-- pairs of near edges -/
def bkP (E : List Ed) : List (Nat × Nat) := (List.range E.length).flatMap fun a => ((List.range a).filter (nearE E a)).map fun b => (a, b)
/-- the first edge of an edge's block -/
def bkK (E : List Ed) : Nat → Nat := labL (bkP E)
def bkL (E : List Ed) : List (List Nat) := ((List.range E.length).filter fun a => decide (bkK E a = a)).map fun a => (List.range E.length).filter fun b => decide (bkK E b = a)
section
variable {n : Nat} {E : List Ed}
theorem nearE_iff (G : GOk n E) {a b : Nat} (ha : a < E.length) (hb : b < E.length) : nearE E a b = true ↔ Near E a b := by
  have key : ∀ v w, Lnk E a v w → ((inc E v b && nearB E a b v) = true ↔ ∃ x y, Lnk E a v x ∧ Lnk E b v y ∧ (x = y ∨ CI E (noV E v) x y)) := fun v w hl => by
    obtain ⟨e1, _⟩ := oN_of G ha hl
    rw [Bool.and_eq_true, nearB, Bool.or_eq_true, decide_eq_true_eq, decide_eq_true_eq]
    constructor
    · rintro ⟨h1, h2⟩
      refine ⟨oN E v a, oN E v b, by rw [e1]; exact hl, (oN_lnk G hb h1).1, h2.imp id ci_noV.2⟩
    · rintro ⟨x, y, h1, h2, h3⟩
      obtain ⟨e2, _⟩ := oN_of G ha h1
      obtain ⟨e3, h4⟩ := oN_of G hb h2
      rw [e2, e3]
      exact ⟨(mem_adj.1 h4).2, h3.imp id ci_noV.1⟩
  unfold nearE
  rw [Bool.or_eq_true, key (edP E a).1 (edP E a).2 (.inl rfl), key (edP E a).2 (edP E a).1 (.inr rfl)]
  constructor
  · rintro (⟨x, y, h⟩ | ⟨x, y, h⟩)
    · exact ⟨ha, hb, _, x, y, h⟩
    · exact ⟨ha, hb, _, x, y, h⟩
  · rintro ⟨_, _, v, x, y, h1, h2, h3⟩
    rcases lnk_two h1 (.inl rfl : Lnk E a (edP E a).1 (edP E a).2) with ⟨e, _⟩ | ⟨e, _⟩
    · subst e; exact .inl ⟨x, y, h1, h2, h3⟩
    · subst e; exact .inr ⟨x, y, h1, h2, h3⟩
theorem mem_bkP (G : GOk n E) {a b : Nat} : (a, b) ∈ bkP E ↔ b < a ∧ Near E a b := by
  unfold bkP
  simp only [List.mem_flatMap, List.mem_range, List.mem_map, List.mem_filter]
  constructor
  · rintro ⟨a', h1, b', ⟨h2, h3⟩, e⟩
    cases e
    exact ⟨h2, (nearE_iff G h1 (by omega)).1 h3⟩
  · rintro ⟨h1, h2⟩
    exact ⟨a, h2.1, b, ⟨h1, (nearE_iff G h2.1 h2.2.1).2 h2⟩, rfl⟩
theorem bkK_iff (G : GOk n E) {a b : Nat} : bkK E a = bkK E b ↔ NearC E a b := by
  unfold bkK
  rw [labL_cn]
  constructor
  · intro h
    induction h with
    | refl => exact .refl _
    | step _ e ih =>
      rcases e with e | e
      · exact .step ih ((mem_bkP G).1 e).2
      · exact .step ih ((mem_bkP G).1 e).2.symm
  · intro h
    induction h with
    | refl => exact .refl _
    | @step b c _ k ih =>
      rcases Nat.lt_trichotomy b c with h | h | h
      · exact .step ih (.inr ((mem_bkP G).2 ⟨h, k.symm⟩))
      · subst h; exact ih
      · exact .step ih (.inl ((mem_bkP G).2 ⟨h, k⟩))
theorem sorted_head : ∀ {l : List Nat} {a : Nat}, l.Pairwise (· < ·) → a ∈ l → (∀ b, b ∈ l → a ≤ b) → l.headD 0 = a
  | [], _, _, h, _ => absurd h (by simp)
  | c :: l, a, h, ha, hb => by
    have h1 := hb c (by simp)
    rcases List.mem_cons.1 ha with e | e
    · exact e.symm
    · have := (List.pairwise_cons.1 h).1 a e; omega
theorem bkL_ok (G : GOk n E) : BlkL E (bkL E) := by
  have hle : ∀ b, bkK E b ≤ b := (labL_ok _).le
  have hid : ∀ b, bkK E (bkK E b) = bkK E b := (labL_ok _).idem
  have hcls : ∀ a, a < E.length → bkK E a = a → ((List.range E.length).filter fun b => decide (bkK E b = a)).Pairwise (· < ·) ∧ (∀ f, f ∈ ((List.range E.length).filter fun b => decide (bkK E b = a)) ↔ NearC E a f) ∧ ((List.range E.length).filter fun b => decide (bkK E b = a)).headD 0 = a := fun a ha hk => by
    have hm : ∀ f, f ∈ ((List.range E.length).filter fun b => decide (bkK E b = a)) ↔ NearC E a f := fun f => by
      rw [List.mem_filter, List.mem_range, decide_eq_true_eq, ← bkK_iff G, hk]
      constructor
      · rintro ⟨_, h⟩; exact h.symm
      · intro h
        exact ⟨nearC_lt ((bkK_iff G).1 (hk.trans h)) ha, h.symm⟩
    refine ⟨List.pairwise_lt_range.filter _, hm, ?_⟩
    refine sorted_head (List.pairwise_lt_range.filter _) ((hm a).2 (.refl a)) fun b hb => ?_
    have := (List.mem_filter.1 hb).2
    rw [decide_eq_true_eq] at this
    have := hle b
    omega
  refine ⟨fun B hB => ?_, ?_, fun i hi => ?_⟩
  · obtain ⟨a, ha, rfl⟩ := List.mem_map.1 hB
    rw [List.mem_filter, List.mem_range, decide_eq_true_eq] at ha
    obtain ⟨h1, h2, _⟩ := hcls a ha.1 ha.2
    exact ⟨h1, a, (h2 a).2 (.refl a), ha.1, h2⟩
  · unfold bkL
    rw [List.pairwise_map]
    refine (List.pairwise_lt_range.filter _).imp_of_mem fun {a b} ha hb hab => ?_
    rw [List.mem_filter, List.mem_range, decide_eq_true_eq] at ha hb
    rw [(hcls a ha.1 ha.2).2.2, (hcls b hb.1 hb.2).2.2]
    exact hab
  · have hk := hid i
    have hkl : bkK E i < E.length := by have := hle i; omega
    refine ⟨_, List.mem_map.2 ⟨bkK E i, ?_, rfl⟩, ?_⟩
    · rw [List.mem_filter, List.mem_range, decide_eq_true_eq]; exact ⟨hkl, hk⟩
    · rw [List.mem_filter, List.mem_range, decide_eq_true_eq]; exact ⟨hi, rfl⟩
/-- there is one such list -/
theorem blk_uniq : ∀ {X Y : List (List Nat)}, X.Pairwise (fun B C => B.headD 0 < C.headD 0) → Y.Pairwise (fun B C => B.headD 0 < C.headD 0) → (∀ B, B ∈ X ↔ B ∈ Y) → X = Y
  | [], [], _, _, _ => rfl
  | [], B :: Y, _, _, h => absurd ((h B).2 (by simp)) (by simp)
  | B :: X, [], _, _, h => absurd ((h B).1 (by simp)) (by simp)
  | B :: X, C :: Y, h1, h2, h => by
    rw [List.pairwise_cons] at h1 h2
    have e : B = C := by
      rcases List.mem_cons.1 ((h B).1 (by simp)) with e | e
      · exact e
      · rcases List.mem_cons.1 ((h C).2 (by simp)) with e2 | e2
        · exact e2.symm
        · have := h1.1 C e2
          have := h2.1 B e
          omega
    subst e
    rw [blk_uniq h1.2 h2.2 fun D => ?_]
    constructor
    · intro hD
      rcases List.mem_cons.1 ((h D).1 (List.mem_cons_of_mem _ hD)) with e | e
      · have := h1.1 D hD; rw [e] at this; omega
      · exact e
    · intro hD
      rcases List.mem_cons.1 ((h D).2 (List.mem_cons_of_mem _ hD)) with e | e
      · have := h2.1 D hD; rw [e] at this; omega
      · exact e
theorem blkL_mem {X : List (List Nat)} (h : BlkL E X) (B : List Nat) : B ∈ X ↔ B.Pairwise (· < ·) ∧ ∃ e, e ∈ B ∧ e < E.length ∧ ∀ f, f ∈ B ↔ NearC E e f := by
  constructor
  · exact h.cls B
  · rintro ⟨h1, e, he, hel, hf⟩
    obtain ⟨C, hC, heC⟩ := h.all e hel
    obtain ⟨c1, d, _, _, hd⟩ := h.cls C hC
    have : B = C := sorted_uniq h1 c1 fun x => by
      rw [hf, hd]
      have hde := (hd e).1 heC
      exact ⟨fun k => hde.trans k, fun k => hde.symm.trans k⟩
    rw [this]; exact hC
theorem blk_list (G : GOk n E) {X : List (List Nat)} (h : BlkL E X) : X = bkL E :=
  blk_uniq h.ord (bkL_ok G).ord fun B => by rw [blkL_mem h, blkL_mem (bkL_ok G)]
end
end Go.Proofs.Ytcpikabhcjkkmaa
