/- Plain mathematics: a graph with every edge twice. Conditions: the graph is one that is accepted. -/
import Derived.Test.YtcpikabhcjkkmaaBpB
namespace Go.Proofs.Ytcpikabhcjkkmaa

section
variable {n : Nat} {E : List Ed} {a b i j v x y : Nat}
theorem dbl_len (E : List Ed) : (E ++ E).length = 2 * E.length := by rw [List.length_append]; omega
theorem dbl_mod (hi : i < (E ++ E).length) : i % E.length < E.length ∧ eAt (E ++ E) i = eAt E (i % E.length) := by
  rw [dbl_len] at hi
  have hm : 0 < E.length := by omega
  refine ⟨Nat.mod_lt _ hm, ?_⟩
  by_cases c : i < E.length
  · rw [Nat.mod_eq_of_lt c, eAt_eq (by rw [dbl_len]; omega), eAt_eq c, List.getElem_append_left c]
  · have e : i % E.length = i - E.length := by
      rw [Nat.mod_eq_sub_mod (by omega), Nat.mod_eq_of_lt (by omega)]
    rw [e, eAt_eq (by rw [dbl_len]; omega), eAt_eq (by omega), List.getElem_append_right (by omega)]
theorem dbl_edP (hi : i < (E ++ E).length) : edP (E ++ E) i = edP E (i % E.length) := by unfold edP; rw [(dbl_mod hi).2]
theorem dbl_lnk (hi : i < (E ++ E).length) : Lnk (E ++ E) i a b ↔ Lnk E (i % E.length) a b := by unfold Lnk; rw [dbl_edP hi]
theorem dbl_lt (hi : i < E.length) : i < (E ++ E).length ∧ i % E.length = i := ⟨by rw [dbl_len]; omega, Nat.mod_eq_of_lt hi⟩
theorem dbl_ok (G : GOk n E) (h : 2 * E.length ≤ 16384) : GOk n (E ++ E) :=
  ⟨G.n_le, by rw [dbl_len]; exact h, fun i hi => by rw [(dbl_mod hi).2]; exact G.ends _ (dbl_mod hi).1⟩
theorem dbl_ci {S T : Nat → Prop} (h1 : ∀ i, S i → i < (E ++ E).length ∧ T (i % E.length)) (h2 : ∀ i, T i → i < E.length ∧ S i) : CI (E ++ E) S a b ↔ CI E T a b := by
  constructor
  · intro h
    induction h with
    | refl => exact .refl _
    | step i _ hi hl ih => exact .step _ ih (h1 i hi).2 ((dbl_lnk (h1 i hi).1).1 hl)
  · intro h
    induction h with
    | refl => exact .refl _
    | step i _ hi hl ih =>
      have := dbl_lt (h2 i hi).1
      exact .step i ih (h2 i hi).2 ((dbl_lnk this.1).2 (by rw [this.2]; exact hl))
theorem dbl_noV : CI (E ++ E) (noV (E ++ E) v) a b ↔ CI E (noV E v) a b :=
  dbl_ci (fun i hi => by
    refine ⟨hi.1, (dbl_mod hi.1).1, ?_⟩
    rw [← dbl_edP hi.1]; exact hi.2) (fun i hi => by
    have := dbl_lt hi.1
    refine ⟨hi.1, this.1, ?_⟩
    rw [dbl_edP this.1, this.2]; exact hi.2)
theorem dbl_near : Near (E ++ E) i j ↔ i < (E ++ E).length ∧ j < (E ++ E).length ∧ Near E (i % E.length) (j % E.length) := by
  constructor
  · rintro ⟨h1, h2, v, x, y, l1, l2, h3⟩
    exact ⟨h1, h2, (dbl_mod h1).1, (dbl_mod h2).1, v, x, y, (dbl_lnk h1).1 l1, (dbl_lnk h2).1 l2, h3.imp id dbl_noV.1⟩
  · rintro ⟨h1, h2, _, _, v, x, y, l1, l2, h3⟩
    exact ⟨h1, h2, v, x, y, (dbl_lnk h1).2 l1, (dbl_lnk h2).2 l2, h3.imp id dbl_noV.2⟩
theorem near_refl (h : i < E.length) : Near E i i := ⟨h, h, _, _, _, .inl rfl, .inl rfl, .inl rfl⟩
theorem dbl_nearC (hi : i < (E ++ E).length) : NearC (E ++ E) i j ↔ j < (E ++ E).length ∧ NearC E (i % E.length) (j % E.length) := by
  constructor
  · intro h
    induction h with
    | refl => exact ⟨hi, .refl _⟩
    | step _ k ih => exact ⟨k.2.1, .step ih.2 (dbl_near.1 k).2.2⟩
  · rintro ⟨hj, h⟩
    have key : ∀ a b, NearC E a b → ∀ i j, i < (E ++ E).length → j < (E ++ E).length → i % E.length = a → j % E.length = b → NearC (E ++ E) i j := by
      intro a b h
      induction h with
      | refl => intro i j hi hj h1 h2; exact .one (dbl_near.2 ⟨hi, hj, by rw [h1, h2]; exact near_refl (by rw [← h1]; exact (dbl_mod hi).1)⟩)
      | @step b c _ k ih =>
        intro i j hi hj h1 h2
        have hb := dbl_lt k.1
        exact .step (ih i b hi hb.1 h1 hb.2) (dbl_near.2 ⟨hb.1, hj, by rw [hb.2, h2]; exact k⟩)
    exact key _ _ h i j hi hj rfl rfl
/-- there is no bridge -/
theorem dbl_bri : briL (E ++ E) = [] := by
  apply List.eq_nil_iff_forall_not_mem.2
  intro i hi
  have hb := mem_briL.1 hi
  have hl := hb.1
  have hm := (dbl_mod hl).1
  rw [dbl_len] at hl
  have key : ∀ j, j < (E ++ E).length → j % E.length = i % E.length → j = i := fun j hj e =>
    bri_near hb (dbl_near.2 ⟨hb.1, hj, by rw [e]; exact near_refl hm⟩)
  by_cases c : i < E.length
  · have := key (i + E.length) (by rw [dbl_len]; omega) (by simp)
    omega
  · have := key (i - E.length) (by rw [dbl_len]; omega) (by rw [← Nat.mod_eq_sub_mod (by omega)])
    omega
theorem dbl_cutP : CutP (E ++ E) v ↔ CutP E v := by
  constructor
  · rintro ⟨i, j, y, z, hi, hj, l1, l2, h⟩
    exact ⟨_, _, y, z, (dbl_mod hi).1, (dbl_mod hj).1, (dbl_lnk hi).1 l1, (dbl_lnk hj).1 l2, fun c => h (dbl_noV.2 c)⟩
  · rintro ⟨i, j, y, z, hi, hj, l1, l2, h⟩
    have ei := dbl_lt hi
    have ej := dbl_lt hj
    exact ⟨i, j, y, z, ei.1, ej.1, (dbl_lnk ei.1).2 (by rw [ei.2]; exact l1), (dbl_lnk ej.1).2 (by rw [ej.2]; exact l2), fun c => h (dbl_noV.1 c)⟩
theorem dbl_cut (G : GOk n E) (h : 2 * E.length ≤ 16384) : cutL n (E ++ E) = cutL n E := by
  unfold cutL
  refine List.filter_congr fun x _ => ?_
  rw [Bool.eq_iff_iff, cutB_iff (dbl_ok G h), cutB_iff G, dbl_cutP]
theorem dbl_lab : labO (E ++ E) (nbL (E ++ E)) = labO E (List.range E.length) := by
  have hb : ∀ i, i < (E ++ E).length → ¬ Bri (E ++ E) i := fun i _ hb => by
    have := mem_briL.2 hb
    rw [dbl_bri] at this
    exact absurd this (by simp)
  refine labO_eq fun a b => dbl_ci (fun i hi => ?_) fun i hi => ?_
  · have := (mem_nbL.1 hi).1
    exact ⟨this, List.mem_range.2 (dbl_mod this).1⟩
  · have hi := List.mem_range.1 hi
    exact ⟨hi, mem_nbL.2 ⟨(dbl_lt hi).1, hb i (dbl_lt hi).1⟩⟩
/-- a block twice -/
def dblB (m : Nat) (B : List Nat) : List Nat := B ++ B.map (· + m)
theorem mem_dblB {m f : Nat} {B : List Nat} (hB : ∀ i, i ∈ B → i < m) (hf : f < 2 * m) : f ∈ dblB m B ↔ f % m ∈ B := by
  have hm : 0 < m := by omega
  unfold dblB
  rw [List.mem_append, List.mem_map]
  by_cases c : f < m
  · rw [Nat.mod_eq_of_lt c]
    constructor
    · rintro (h | ⟨g, _, rfl⟩)
      · exact h
      · omega
    · exact .inl
  · have e : f % m = f - m := by rw [Nat.mod_eq_sub_mod (by omega), Nat.mod_eq_of_lt (by omega)]
    rw [e]
    constructor
    · rintro (h | ⟨g, h, rfl⟩)
      · exact absurd (hB f h) c
      · rw [Nat.add_sub_cancel]; exact h
    · intro h; exact .inr ⟨_, h, by omega⟩
theorem dblB_lt {m f : Nat} {B : List Nat} (hB : ∀ i, i ∈ B → i < m) (hf : f ∈ dblB m B) : f < 2 * m := by
  unfold dblB at hf
  rw [List.mem_append, List.mem_map] at hf
  rcases hf with h | ⟨g, h, rfl⟩
  · have := hB f h; omega
  · have := hB g h; omega
theorem dbl_blk (G : GOk n E) (h : 2 * E.length ≤ 16384) : bkL (E ++ E) = (bkL E).map (dblB E.length) := by
  symm
  have K := bkL_ok G
  refine blk_list (dbl_ok G h) ⟨fun B hB => ?_, ?_, fun i hi => ?_⟩
  · obtain ⟨C, hC, rfl⟩ := List.mem_map.1 hB
    obtain ⟨h1, e, he, hel, hf⟩ := K.cls C hC
    have hlt := fun i (hi : i ∈ C) => blk_lt G hC hi
    refine ⟨?_, e, by unfold dblB; exact List.mem_append_left _ he, (dbl_lt hel).1, fun f => ?_⟩
    · unfold dblB
      rw [List.pairwise_append]
      refine ⟨h1, ?_, fun a ha b hb => ?_⟩
      · rw [List.pairwise_map]; exact h1.imp fun h => by omega
      · obtain ⟨c, hc, rfl⟩ := List.mem_map.1 hb
        have := hlt a ha; omega
    · rw [dbl_nearC (dbl_lt hel).1, (dbl_lt hel).2, dbl_len]
      constructor
      · intro hm
        have hl := dblB_lt hlt hm
        exact ⟨hl, (hf _).1 ((mem_dblB hlt hl).1 hm)⟩
      · rintro ⟨hl, hn⟩
        exact (mem_dblB hlt hl).2 ((hf _).2 hn)
  · rw [List.pairwise_map]
    refine K.ord.imp_of_mem fun {B C} hB hC hlt => ?_
    have hd : ∀ B, B ∈ bkL E → (dblB E.length B).headD 0 = B.headD 0 := fun B hB => by
      have := blk_ne G hB
      cases B with
      | nil => simp at this
      | cons x r => rfl
    rw [hd B hB, hd C hC]; exact hlt
  · obtain ⟨hm, _⟩ := dbl_mod hi
    obtain ⟨B, hB, hiB⟩ := K.all _ hm
    rw [dbl_len] at hi
    exact ⟨_, List.mem_map_of_mem hB, (mem_dblB (fun i hi => blk_lt G hB hi) hi).2 hiB⟩
end
end Go.Proofs.Ytcpikabhcjkkmaa
