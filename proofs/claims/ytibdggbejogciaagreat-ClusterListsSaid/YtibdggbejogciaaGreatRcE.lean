/- Plain mathematics of the tree that joins the components of a graph: Kruskal's forest is one whose edges join, and its first edges are those up to a weight. No conditions. -/
import Derived.Test.YtibdggbejogciaaGreatRc
import Derived.Test.YtibdggbejogciaaGreatRank
import Derived.Test.YtibdggbejogciaaGreatSmE
namespace Go.Proofs.YtibdggbejogciaaGreat

section
variable {E : List Ed} {S T : Nat → Prop} {o : List Nat} {a b i k n : Nat}
theorem ci_uptoK (hs : o.Pairwise (ltE E)) : ∀ k, k ∈ o → CI E (fun l => l ∈ frs E o ∧ ¬ ltE E k l) (edP E k).1 (edP E k).2 := by
  induction o using rev_ind with
  | h0 => intro k hk; cases hk
  | h1 o i ih =>
    intro k hk
    have hs1 := List.pairwise_append.1 hs
    have hsub : ∀ l, l ∈ frs E o → l ∈ frs E (o ++ [i]) := fun l hl => by
      rw [frs_snoc]; split
      · exact List.mem_append_left _ hl
      · exact hl
    rcases List.mem_append.1 hk with hk | hk
    · exact (ih hs1.1 k hk).mono fun l hl => ⟨hsub l hl.1, hl.2⟩
    · obtain rfl : k = i := by simpa using hk
      by_cases hc : accB E (labO E o) k = true
      · exact ci_one ⟨by rw [frs_snoc, if_pos hc]; simp, fun c => ltE_asymm c c⟩
      · have hc : labO E o (edP E k).1 = labO E o (edP E k).2 := by simpa [accB] using hc
        rw [← labO_frs] at hc
        exact (ci_lab.2 hc).mono fun l hl => ⟨hsub l hl, fun c => ltE_asymm c (hs1.2.2 l ((frs_sub E o).mem hl) k (by simp))⟩
theorem ci_downK (hs : o.Pairwise (ltE E)) (hd : ∀ k l, S k → ltE E l k → S l) : CI E (fun k => k ∈ frs E o ∧ S k) a b ↔ CI E (fun k => k ∈ o ∧ S k) a b := by
  constructor
  · exact fun h => h.mono fun k hk => ⟨(frs_sub E o).mem hk.1, hk.2⟩
  · refine fun h => ci_ends (fun k hk => (ci_uptoK hs k hk.1).mono fun l hl => ⟨hl.1, ?_⟩) h
    by_cases e : l = k
    · rw [e]; exact hk.2
    · exact hd k l hk.2 ((ltE_total e).resolve_right hl.2)
/-- the forest has the components of each beginning -/
theorem down_same {S : Nat → Bool} (ho : OrdOf E o) (hd : ∀ k l, S k = true → ltE E l k → S l = true) : labO E ((List.range E.length).filter S) = labO E ((frs E o).filter S) := by
  have h1 : labO E ((List.range E.length).filter S) = labO E (o.filter S) := labO_set fun i => by
    rw [List.mem_filter, List.mem_filter, List.mem_range, ho.mem]
  rw [h1]
  unfold labO
  refine labL_same fun a b => ?_
  rw [← ci_cn, ← ci_cn]
  have hd := ci_downK (S := fun i => S i = true) (a := a) (b := b) ho.sorted hd
  exact ⟨fun h => (hd.2 (h.mono fun i hi => List.mem_filter.1 hi)).mono fun i hi => List.mem_filter.2 hi, fun h => (hd.1 (h.mono fun i hi => List.mem_filter.1 hi)).mono fun i hi => List.mem_filter.2 hi⟩
end
theorem getD_app {l l' : List Nat} {i d : Nat} (h : i < l.length) : (l ++ l').getD i d = l.getD i d := by
  simp [List.getD, List.getElem?_append_left h]
theorem getD_end {l : List Nat} {x d : Nat} : (l ++ [x]).getD l.length d = x := by simp [List.getD]
theorem frs_mut (E : List Ed) (o : List Nat) : ∀ i, i < (frs E o).length → mU E (frs E o) i ≠ mV E (frs E o) i := by
  induction o using rev_ind with
  | h0 => intro i hi; rw [frs_nil] at hi; simp at hi
  | h1 o x ih =>
    intro i hi
    rw [frs_snoc] at hi ⊢
    split at hi
    · rename_i hc
      rw [if_pos hc]
      have ht : ∀ j, j ≤ (frs E o).length → (frs E o ++ [x]).take j = (frs E o).take j := fun j hj => by rw [List.take_append_of_le_length hj]
      by_cases e : i < (frs E o).length
      · have := ih i e
        unfold mU mV lbI at this ⊢
        rw [ht i (by omega), getD_app e]; exact this
      · have e : i = (frs E o).length := by simp at hi; omega
        subst e
        unfold mU mV lbI
        rw [ht _ (Nat.le_refl _), getD_end, List.take_length, labO_frs]
        simpa [accB] using hc
    · rename_i hc
      rw [if_neg hc]; exact ih i hi
/-- Kruskal's forest is such a list of edges -/
theorem frs_fo {n : Nat} {E : List Ed} {o : List Nat} (G : GOk n E) (ho : OrdOf E o) : Fo n E (frs E o) := by
  have hm : ∀ i, i < (frs E o).length → (edP E ((frs E o).getD i 0)).1 < n ∧ (edP E ((frs E o).getD i 0)).2 < n := fun i hi => by
    have h1 : (frs E o).getD i 0 ∈ frs E o := by
      rw [List.getD_eq_getElem?_getD, List.getElem?_eq_getElem hi]; exact List.getElem_mem _
    obtain ⟨u, v, hu, hv, h2, h3, _⟩ := G.nats (ho.mem.1 ((frs_sub E o).mem h1))
    unfold edP; rw [hu, hv]; simp; omega
  exact ⟨frs_mut E o, fun i hi => (hm i hi).1, fun i hi => (hm i hi).2⟩
/-- a beginning of a list -/
theorem filt_take {p : Nat → Bool} : ∀ {l : List Nat}, l.Pairwise (fun x y => p y = true → p x = true) → l.filter p = l.take (l.filter p).length ∧ ∀ i, i < l.length → (p (l.getD i 0) = true ↔ i < (l.filter p).length)
  | [], _ => ⟨rfl, fun i hi => by simp at hi⟩
  | x :: t, h => by
    have ⟨h1, h2⟩ := List.pairwise_cons.1 h
    obtain ⟨i1, i2⟩ := filt_take h2
    by_cases c : p x = true
    · have e : (x :: t).filter p = x :: t.filter p := by simp [c]
      rw [e]
      refine ⟨by rw [List.length_cons, List.take_succ_cons, ← i1], fun i hi => ?_⟩
      cases i with
      | zero => simp [c]
      | succ i =>
        have := i2 i (by simp at hi; omega)
        simp only [List.getD_cons_succ, List.length_cons, Nat.add_lt_add_iff_right]; exact this
    · have hn : t.filter p = [] := List.filter_eq_nil_iff.2 fun y hy hc => c (h1 y hy hc)
      have e : (x :: t).filter p = [] := by simp [c, hn]
      rw [e]
      refine ⟨rfl, fun i hi => ?_⟩
      simp only [List.length_nil, Nat.not_lt_zero, iff_false]
      cases i with
      | zero => simpa using c
      | succ i =>
        intro hc
        have hi : i < t.length := by simp at hi; omega
        have := (i2 i hi).1 (by simpa using hc)
        rw [hn] at this; simp at this
/-- how many of the forest's edges are in a beginning -/
def kOf (f : List Nat) (S : Nat → Bool) : Nat := (f.filter S).length
theorem kOf_le (f : List Nat) (S : Nat → Bool) : kOf f S ≤ f.length := List.length_filter_le _ _
section
variable {E : List Ed} {o : List Nat} {S : Nat → Bool}
theorem frs_pair (ho : OrdOf E o) (hd : ∀ k l, S k = true → ltE E l k → S l = true) : (frs E o).Pairwise (fun x y => S y = true → S x = true) :=
  (ho.sorted.sublist (frs_sub E o)).imp fun {a b} hab hb => hd b a hb hab
theorem kOf_iff (ho : OrdOf E o) (hd : ∀ k l, S k = true → ltE E l k → S l = true) {i : Nat} (hi : i < (frs E o).length) : S ((frs E o).getD i 0) = true ↔ i < kOf (frs E o) S := (filt_take (frs_pair ho hd)).2 i hi
/-- the components of the edges in a beginning -/
theorem lbI_kOf (ho : OrdOf E o) (hd : ∀ k l, S k = true → ltE E l k → S l = true) : lbI E (frs E o) (kOf (frs E o) S) = labO E ((List.range E.length).filter S) := by
  rw [down_same ho hd, (filt_take (frs_pair ho hd)).1]; rfl
end
/-- up to a weight, and below it -/
theorem leW_down {E : List Ed} {θ : Int} : ∀ k l, leW E θ k = true → ltE E l k → leW E θ l = true := fun k l hk hl => by
  unfold leW at *
  simp only [decide_eq_true_eq] at *
  unfold ltE at hl; omega
def ltW (E : List Ed) (θ : Int) (i : Nat) : Bool := decide ((eAt E i).w < θ)
theorem ltW_down {E : List Ed} {θ : Int} : ∀ k l, ltW E θ k = true → ltE E l k → ltW E θ l = true := fun k l hk hl => by
  unfold ltW at *
  simp only [decide_eq_true_eq] at *
  unfold ltE at hl; omega
/-- how many components there are behind the first edges -/
theorem cnt_lbI {n : Nat} {E : List Ed} {f : List Nat} (F : Fo n E f) : ∀ {i : Nat}, i ≤ f.length → cntN n (lbI E f i) + i = n
  | 0, _ => by rw [lbI_zero, cntN_id]; rfl
  | i + 1, h => by
    have ih := cnt_lbI F (show i ≤ f.length by omega)
    have hi : i < f.length := by omega
    have := cntN_join (n := n) (lbI_ok E f i) (F.lu i hi) (F.lv i hi) (F.ne i hi)
    rw [lbI_joinF hi]; omega
/-- the weight of a node -/
def hgt (E : List Ed) (f : List Nat) (n x : Nat) : Int := if x < n then 0 else (eAt E (f.getD (x - n) 0)).w
theorem hgt_in (E : List Ed) (f : List Nat) (n i : Nat) : hgt E f n (n + i) = (eAt E (f.getD i 0)).w := by
  unfold hgt; rw [if_neg (by omega), Nat.add_sub_cancel_left]
theorem hgt_leaf {E : List Ed} {f : List Nat} {n x : Nat} (h : x < n) : hgt E f n x = 0 := if_pos h
theorem frs_ws {E : List Ed} {o : List Nat} (ho : OrdOf E o) {i j : Nat} (hij : i < j) (hj : j < (frs E o).length) : (eAt E ((frs E o).getD i 0)).w ≤ (eAt E ((frs E o).getD j 0)).w := by
  have h := ho.sorted.sublist (frs_sub E o)
  have := List.pairwise_iff_getElem.1 h i j (by omega) hj hij
  rw [List.getD_eq_getElem?_getD, List.getElem?_eq_getElem (show i < (frs E o).length by omega), List.getD_eq_getElem?_getD, List.getElem?_eq_getElem hj]
  simp only [Option.getD_some]
  unfold ltE at this; omega
theorem hgt_le {E : List Ed} {o : List Nat} {n : Nat} (ho : OrdOf E o) {i : Nat} (hi : i < (frs E o).length) (θ : Int) : hgt E (frs E o) n (n + i) ≤ θ ↔ i < kOf (frs E o) (leW E θ) := by
  rw [hgt_in, ← kOf_iff ho leW_down hi]
  unfold leW; simp
end Go.Proofs.YtibdggbejogciaaGreat
