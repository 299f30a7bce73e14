/- Plain mathematics: blocks of one edge, and the blocks at a vertex. Conditions: the graph is one that is accepted. -/
import Derived.Test.YtcpikabhcjkkmaaBpA
namespace Go.Proofs.Ytcpikabhcjkkmaa

section
variable {n : Nat} {E : List Ed} {a b e f g v x y : Nat}
/-- the first edge of a path that does not come back to where it began -/
theorem ci_leave {S : Nat → Prop} {t : Nat} (h : CI E S a t) (hne : a ≠ t) : ∃ i x, S i ∧ Lnk E i a x ∧ CI E (fun j => S j ∧ (edP E j).1 ≠ a ∧ (edP E j).2 ≠ a) x t := by
  induction h with
  | refl => exact absurd rfl hne
  | @step b c e _ he hl ih =>
    by_cases hb : a = b
    · subst hb; exact ⟨e, c, he, hl, .refl _⟩
    · obtain ⟨i, x, h1, h2, h3⟩ := ih hb
      exact ⟨i, x, h1, h2, .step e h3 ⟨he, lnk_back (P := fun z => z ≠ a) hl (fun c => hb c.symm) (fun c => hne c.symm)⟩ hl⟩
theorem bri_near (hb : Bri E e) (h : Near E e g) : g = e := by
  apply Classical.byContradiction
  intro hne
  obtain ⟨h1, h2, v, x, y, l1, l2, h3⟩ := h
  refine hb.2 ((ci_lnk l1).2 ?_)
  have c : CI E (noE E e) v y := CI.one ⟨h2, hne⟩ l2
  rcases h3 with rfl | h3
  · exact c
  · refine c.trans (h3.mono fun j hj => ⟨hj.1, fun d => ?_⟩).symm
    subst d
    exact (lnk_and (P := fun z => z ≠ v) l1 hj.2.1 hj.2.2).1 rfl
theorem bri_nearC (hb : Bri E e) (h : NearC E e f) : f = e := by
  induction h with
  | refl => rfl
  | step _ k ih =>
    subst ih
    exact bri_near hb k
/-- an edge that is no bridge is near another one -/
theorem near_other (G : GOk n E) (he : e < E.length) (hb : ¬ Bri E e) : ∃ f, f ≠ e ∧ Near E e f := by
  have hc : CI E (noE E e) (edP E e).1 (edP E e).2 := Classical.byContradiction fun c => hb ⟨he, c⟩
  have hl : Lnk E e (edP E e).1 (edP E e).2 := .inl rfl
  obtain ⟨i, x, h1, h2, h3⟩ := ci_leave hc (ends_ne G he hl).1
  exact ⟨i, h1.2, he, h1.1, _, _, x, hl, h2, .inr (h3.mono fun j hj => (⟨hj.1.1, hj.2⟩ : noV E _ j)).symm⟩
/-- a block has one edge if that is a bridge -/
theorem one_bri (G : GOk n E) {B : List Nat} (hB : B ∈ bkL E) : B.headD 0 ∈ briL E ↔ B.length = 1 := by
  obtain ⟨hp, e, he, hel, hf⟩ := (bkL_ok G).cls B hB
  rw [mem_briL]
  match B, he, hp, hf with
  | [a], he, hp, hf =>
    obtain rfl : e = a := by simpa using he
    refine ⟨fun _ => rfl, fun _ => ?_⟩
    show Bri E e
    apply Classical.byContradiction
    intro hb
    obtain ⟨f, h1, h2⟩ := near_other G hel hb
    exact h1 (by simpa using (hf f).2 (.one h2))
  | a :: b :: r, he, hp, hf =>
    constructor
    · intro hb
      have hb : Bri E a := hb
      have h1 := (hf a).1 (by simp)
      have h2 := (hf b).1 (by simp)
      have := bri_nearC hb (h1.symm.trans h2)
      have := (List.pairwise_cons.1 hp).1 b (by simp)
      omega
    · intro h; simp at h
theorem nov_ne (h : CI E (noV E v) y x) (hy : y ≠ v) : x ≠ v := fun c => by
  subst c
  exact hy (ci_alone h.symm)
/-- what is near an edge of a part touches the part -/
theorem near_touch (hy : y ≠ v) (h : Near E a b) (ha : ∃ x w, Lnk E a x w ∧ CI E (noV E v) y x) : ∃ x w, Lnk E b x w ∧ CI E (noV E v) y x := by
  obtain ⟨x, w, hl, hc⟩ := ha
  obtain ⟨h1, h2, u, p, q, l1, l2, h3⟩ := h
  have hxv := nov_ne hc hy
  by_cases hu : u = v
  · rcases lnk_two hl l1 with ⟨e, _⟩ | ⟨e, _⟩
    · exact absurd (e.trans hu) hxv
    · subst e
      rcases h3 with rfl | h3
      · exact ⟨_, _, l2.symm, hc⟩
      · rw [hu] at h3; exact ⟨q, u, l2.symm, hc.trans h3⟩
  · have : CI E (noV E v) y u := by
      rcases lnk_two hl l1 with ⟨e, _⟩ | ⟨e, _⟩
      · rw [← e]; exact hc
      · rw [e] at hc hxv
        exact .step a hc (noV_of h1 l1 hu hxv) l1.symm
    exact ⟨u, q, l2, this⟩
theorem nearC_touch (hy : y ≠ v) (h : NearC E a b) (ha : ∃ x w, Lnk E a x w ∧ CI E (noV E v) y x) : ∃ x w, Lnk E b x w ∧ CI E (noV E v) y x := by
  induction h with
  | refl => exact ha
  | step _ k ih => exact near_touch hy k ih
/-- two edges of a vertex are in one block if their other ends are joined without it -/
theorem near_at (G : GOk n E) {i j z : Nat} (hi : i < E.length) (hj : j < E.length) (hli : Lnk E i v y) (hlj : Lnk E j v z) : NearC E i j ↔ CI E (noV E v) y z := by
  have hyv := (ends_ne G hi hli).1.symm
  constructor
  · intro h
    obtain ⟨x, w, hl, hc⟩ := nearC_touch hyv h ⟨y, v, hli.symm, .refl _⟩
    rcases lnk_two hl hlj with ⟨e, _⟩ | ⟨e, _⟩
    · exact absurd e (nov_ne hc hyv)
    · rw [← e]; exact hc
  · intro h
    exact .one ⟨hi, hj, v, y, z, hli, hlj, .inr h⟩
/-- a vertex is a cut vertex if its edges are in several blocks -/
theorem cut_blocks (G : GOk n E) (hv : v < n) : v ∈ cutL n E ↔ ∃ i j, i ∈ adj E v ∧ j ∈ adj E v ∧ bkK E i ≠ bkK E j := by
  rw [cutL, List.mem_filter, List.mem_range, cutB_iff G]
  constructor
  · rintro ⟨_, i, j, y, z, hi, hj, l1, l2, h⟩
    exact ⟨i, j, (oN_of G hi l1).2, (oN_of G hj l2).2, fun c => h ((near_at G hi hj l1 l2).1 ((bkK_iff G).1 c))⟩
  · rintro ⟨i, j, hi, hj, h⟩
    obtain ⟨i1, i2⟩ := mem_adj.1 hi
    obtain ⟨j1, j2⟩ := mem_adj.1 hj
    have k1 := (oN_lnk G i1 i2).1
    have k2 := (oN_lnk G j1 j2).1
    exact ⟨hv, i, j, _, _, i1, j1, k1, k2, fun c => h ((bkK_iff G).2 ((near_at G i1 j1 k1 k2).2 c))⟩
end
/-- the number of the block of an edge, counted from 1, among the first k blocks -/
def inF (X : List (List Nat)) : Nat → Nat → Nat
  | 0, _ => 0
  | k + 1, i => if i ∈ X.getD k [] then k + 1 else inF X k i
theorem inF_le (X : List (List Nat)) (k i : Nat) : inF X k i ≤ k := by
  induction k with
  | zero => exact Nat.le_refl _
  | succ k ih => simp only [inF]; split <;> omega
theorem inF_zero {X : List (List Nat)} {k i : Nat} : inF X k i = 0 ↔ ∀ j, j < k → i ∉ X.getD j [] := by
  induction k with
  | zero => simp [inF]
  | succ k ih =>
    simp only [inF]
    split
    · rename_i h
      exact ⟨fun c => by omega, fun c => absurd h (c k (by omega))⟩
    · rename_i h
      rw [ih]
      constructor
      · intro c j hj
        by_cases e : j = k
        · rw [e]; exact h
        · exact c j (by omega)
      · exact fun c j hj => c j (by omega)
theorem inF_mem {X : List (List Nat)} {k i : Nat} (h : inF X k i ≠ 0) : i ∈ X.getD (inF X k i - 1) [] ∧ inF X k i - 1 < k := by
  induction k with
  | zero => exact absurd rfl h
  | succ k ih =>
    simp only [inF] at h ⊢
    by_cases c : i ∈ X.getD k []
    · rw [if_pos c]; exact ⟨c, by omega⟩
    · rw [if_neg c] at h ⊢
      have := ih h
      exact ⟨this.1, by omega⟩
section
variable {n : Nat} {E : List Ed}
theorem getD_mem {X : List (List Nat)} {k : Nat} (h : k < X.length) : X.getD k [] ∈ X := by
  rw [List.getD_eq_getElem?_getD, List.getElem?_eq_getElem h]; exact List.getElem_mem _
theorem mem_getD {X : List (List Nat)} {B : List Nat} (h : B ∈ X) : ∃ k, k < X.length ∧ X.getD k [] = B := by
  obtain ⟨k, hk, rfl⟩ := List.mem_iff_getElem.1 h
  exact ⟨k, hk, by rw [List.getD_eq_getElem?_getD, List.getElem?_eq_getElem hk]; rfl⟩
theorem blk_class (G : GOk n E) {B : List Nat} (hB : B ∈ bkL E) {i j : Nat} (hi : i ∈ B) : j ∈ B ↔ bkK E i = bkK E j := by
  obtain ⟨_, e, _, _, hf⟩ := (bkL_ok G).cls B hB
  rw [bkK_iff G, hf]
  have := (hf i).1 hi
  exact ⟨fun h => this.symm.trans h, fun h => this.trans h⟩
theorem blk_lt (G : GOk n E) {B : List Nat} (hB : B ∈ bkL E) {i : Nat} (hi : i ∈ B) : i < E.length := by
  obtain ⟨_, e, _, hel, hf⟩ := (bkL_ok G).cls B hB
  exact nearC_lt ((hf i).1 hi) hel
theorem blk_ne (G : GOk n E) {B : List Nat} (hB : B ∈ bkL E) : 0 < B.length := by
  obtain ⟨_, e, he, _⟩ := (bkL_ok G).cls B hB
  exact List.length_pos_of_mem he
/-- an edge of two blocks: they are one -/
theorem blk_same (G : GOk n E) {j k : Nat} (hj : j < (bkL E).length) (hk : k < (bkL E).length) {i : Nat} (h1 : i ∈ (bkL E).getD j []) (h2 : i ∈ (bkL E).getD k []) : j = k := by
  have e : (bkL E).getD j [] = (bkL E).getD k [] := by
    refine sorted_uniq ((bkL_ok G).cls _ (getD_mem hj)).1 ((bkL_ok G).cls _ (getD_mem hk)).1 fun x => ?_
    rw [blk_class G (getD_mem hj) h1, blk_class G (getD_mem hk) h2]
  have ho := (bkL_ok G).ord
  rw [List.pairwise_iff_getElem] at ho
  have gd : ∀ {q : Nat} (h : q < (bkL E).length), (bkL E).getD q [] = (bkL E)[q] := fun h => by
    rw [List.getD_eq_getElem?_getD, List.getElem?_eq_getElem h]; rfl
  rcases Nat.lt_trichotomy j k with h | h | h
  · have := ho j k hj hk h
    rw [← gd hj, ← gd hk, e] at this; omega
  · exact h
  · have := ho k j hk hj h
    rw [← gd hj, ← gd hk, e] at this; omega
theorem inF_all (G : GOk n E) {i : Nat} (hi : i < E.length) : inF (bkL E) (bkL E).length i ≠ 0 := by
  obtain ⟨B, hB, hiB⟩ := (bkL_ok G).all i hi
  obtain ⟨k, hk, rfl⟩ := mem_getD hB
  exact fun c => inF_zero.1 c k hk hiB
theorem inF_eq (G : GOk n E) {i j : Nat} (hi : i < E.length) (hj : j < E.length) : inF (bkL E) (bkL E).length i = inF (bkL E) (bkL E).length j ↔ bkK E i = bkK E j := by
  have i0 := inF_all G hi
  have j0 := inF_all G hj
  obtain ⟨i1, i2⟩ := inF_mem i0
  obtain ⟨j1, j2⟩ := inF_mem j0
  constructor
  · intro h
    rw [← h] at j1
    exact (blk_class G (getD_mem i2) i1).1 j1
  · intro h
    have := (blk_class G (getD_mem i2) i1).2 h
    have := blk_same G i2 j2 this j1
    omega
end
end Go.Proofs.Ytcpikabhcjkkmaa
