/- Plain mathematics: how many components there are without an edge, and without the edges of a vertex. Conditions: the graph is one that is accepted. -/
import Derived.Test.YtcpikabhcjkkmaaBrX
import Derived.Test.YtcpikabhcjkkmaaCyc
namespace Go.Proofs.Ytcpikabhcjkkmaa

section
variable {n : Nat} {E E' : List Ed} {o o' : List Nat} {a b v x p : Nat}
theorem labO_eq (h : ∀ a b, CI E (· ∈ o) a b ↔ CI E' (· ∈ o') a b) : labO E o = labO E' o' := by
  unfold labO
  refine labL_same fun a b => ?_
  rw [← ci_cn, ← ci_cn]; exact h a b
theorem ci_range : CI E (· ∈ List.range E.length) a b ↔ CI E (· < E.length) a b := ci_congr fun _ => List.mem_range
theorem ci_cut (h : p < E.length) : CI (cutE E p) (· < (cutE E p).length) a b ↔ CI E (noE E p) a b := by
  constructor
  · intro hc
    obtain ⟨k, hk⟩ := ci_wk hc
    exact wk_ci ((wk_cut h).1 hk)
  · intro hc
    obtain ⟨k, hk⟩ := ci_wk hc
    exact wk_ci ((wk_cut h).2 hk)
theorem lab_cut (h : p < E.length) : labO (cutE E p) (List.range (cutE E p).length) = labO E (ocE E p) := labO_eq fun a b => by
  rw [ci_range, ci_cut h]; exact ci_congr fun _ => mem_ocE.symm
theorem lab_all (h : p < E.length) : labO E (List.range E.length) = joinF (labO E (ocE E p)) (edP E p).1 (edP E p).2 := by
  rw [← labO_snoc]
  refine labO_eq fun a b => ci_congr fun i => ?_
  rw [List.mem_range, List.mem_append, List.mem_singleton, mem_ocE]
  unfold noE
  by_cases c : i = p
  · subst c; simp [h]
  · simp [c]
/-- without an edge there is one component more, if it is a bridge -/
theorem cnt_cut (G : GOk n E) (h : p < E.length) : cntN n (labO (cutE E p) (List.range (cutE E p).length)) = cntN n (labO E (List.range E.length)) + if p ∈ briL E then 1 else 0 := by
  rw [lab_cut h, lab_all h]
  obtain ⟨u, w, hu, hw, h1, h2, h3⟩ := G.nats h
  have e : edP E p = (u, w) := by unfold edP; rw [hu, hw]; rfl
  by_cases c : labO E (ocE E p) (edP E p).1 = labO E (ocE E p) (edP E p).2
  · rw [joinF_same c, if_neg]
    · rfl
    · rw [mem_briL, bri_iff]
      unfold briB
      simp [c]
  · rw [if_pos]
    · have := cntN_join (n := n) (labO_ok E (ocE E p)) (u := (edP E p).1) (v := (edP E p).2) (by rw [e]; exact h1) (by rw [e]; exact h2) c
      omega
    · rw [mem_briL, bri_iff]
      unfold briB
      simp [c, h]
/-- an edge is a bridge if its ends have different labels -/
theorem bri_lab (h : p < E.length) : p ∈ briL E ↔ labO E (nbL E) (edP E p).1 ≠ labO E (nbL E) (edP E p).2 := by
  rw [mem_briL]
  constructor
  · rintro ⟨_, hb⟩ hc
    refine hb ((ci_lab.2 hc).mono fun i hi => ?_)
    have := mem_nbL.1 hi
    exact ⟨this.1, fun c => this.2 (by rw [c]; exact ⟨h, hb⟩)⟩
  · intro hne
    by_cases c : Bri E p
    · exact c
    · exact absurd (ci_lab.1 (ci_one (mem_nbL.2 ⟨h, c⟩))) hne
/-! the edges of a vertex, laid to the edges that leave it alone -/
theorem ci_star (G : GOk n E) {l : List Nat} (hl : ∀ j, j ∈ l → j ∈ adj E v) : CI E (fun i => i ∈ ocV E v ∨ i ∈ l) v x ↔ x = v ∨ ∃ j, j ∈ l ∧ CI E (noV E v) (oN E v j) x := by
  constructor
  · intro h
    induction h with
    | refl => exact .inl rfl
    | @step b c i _ hi hb ih =>
      rcases hi with hi | hi
      · have hi := mem_ocV.1 hi
        have hbv : b ≠ v := (lnk_and (P := fun z => z ≠ v) hb hi.2.1 hi.2.2).1
        rcases ih with ih | ⟨j, hj, ih⟩
        · exact absurd ih hbv
        · exact .inr ⟨j, hj, .step i ih hi hb⟩
      · obtain ⟨h1, h2⟩ := mem_adj.1 (hl i hi)
        have h3 := oN_lnk G h1 h2
        rcases lnk_two hb h3.1 with ⟨_, e⟩ | ⟨_, e⟩
        · exact .inr ⟨i, hi, by rw [e]; exact .refl _⟩
        · exact .inl e
  · rintro (rfl | ⟨j, hj, h⟩)
    · exact .refl _
    · obtain ⟨h1, h2⟩ := mem_adj.1 (hl j hj)
      exact (CI.one (i := j) (.inr hj) (oN_lnk G h1 h2).1).trans (h.mono fun i hi => .inl (mem_ocV.2 hi))
theorem ci_alone (h : CI E (noV E v) v x) : x = v := by
  induction h with
  | refl => rfl
  | @step b c i _ hi hb ih => subst ih; exact absurd rfl (lnk_and (P := fun z => z ≠ b) hb hi.2.1 hi.2.2).1
theorem ci_app {a b : Nat} {l : List Nat} : CI E (· ∈ ocV E v ++ l) a b ↔ CI E (fun i => i ∈ ocV E v ∨ i ∈ l) a b := ci_congr fun _ => List.mem_append
theorem cnt_star (G : GOk n E) (l : List Nat) : (∀ j, j ∈ l → j ∈ adj E v) →
    ∃ k, cntN n (labO E (ocV E v ++ l)) + k = cntN n (labO E (ocV E v)) ∧ (k = 0 ↔ l = []) ∧ (k ≤ 1 ↔ ∀ i j, i ∈ l → j ∈ l → CI E (noV E v) (oN E v i) (oN E v j)) := by
  induction l using rev_ind with
  | h0 => intro _; exact ⟨0, by rw [List.append_nil]; rfl, by simp, by simp⟩
  | h1 l i ih =>
    intro hl
    obtain ⟨k, h1, h2, h3⟩ := ih fun j hj => hl j (List.mem_append_left _ hj)
    have hla : ∀ j, j ∈ l → j ∈ adj E v := fun j hj => hl j (List.mem_append_left _ hj)
    obtain ⟨m1, m2⟩ := mem_adj.1 (hl i (by simp))
    have hk := oN_lnk G m1 m2
    have hj : labO E (ocV E v ++ (l ++ [i])) = joinF (labO E (ocV E v ++ l)) (edP E i).1 (edP E i).2 := by rw [← List.append_assoc, labO_snoc]
    have hcon : CI E (· ∈ ocV E v ++ l) (edP E i).1 (edP E i).2 ↔ ∃ j, j ∈ l ∧ CI E (noV E v) (oN E v j) (oN E v i) := by
      rw [ci_lnk hk.1, ci_app, ci_star G hla]
      constructor
      · rintro (c | c)
        · exact absurd c.symm hk.2.1
        · exact c
      · exact .inr
    have he : (edP E i).1 < n ∧ (edP E i).2 < n := lnk_back (P := fun z => z < n) hk.1 hk.2.2.2 hk.2.2.1
    by_cases c : labO E (ocV E v ++ l) (edP E i).1 = labO E (ocV E v ++ l) (edP E i).2
    · obtain ⟨j, hjl, hjc⟩ := hcon.1 (ci_lab.2 c)
      have hne : l ≠ [] := fun e => by rw [e] at hjl; exact absurd hjl (by simp)
      refine ⟨k, by rw [hj, joinF_same c]; exact h1, ?_, ?_⟩
      · constructor
        · intro e; exact absurd (h2.1 e) hne
        · intro e; exact absurd e (by simp)
      · rw [h3]
        constructor
        · intro h a b ha hb
          have key : ∀ a, a ∈ l ++ [i] → CI E (noV E v) (oN E v j) (oN E v a) := fun a ha => by
            rcases List.mem_append.1 ha with ha | ha
            · exact h j a hjl ha
            · rw [List.mem_singleton.1 ha]; exact hjc
          exact (key a ha).symm.trans (key b hb)
        · intro h a b ha hb
          exact h a b (List.mem_append_left _ ha) (List.mem_append_left _ hb)
    · have hno : ¬ ∃ j, j ∈ l ∧ CI E (noV E v) (oN E v j) (oN E v i) := fun d => c (ci_lab.1 (hcon.2 d))
      have hjn := cntN_join (n := n) (labO_ok E (ocV E v ++ l)) he.1 he.2 c
      refine ⟨k + 1, by rw [hj]; omega, ?_, ?_⟩
      · constructor
        · intro e; omega
        · intro e; exact absurd e (by simp)
      · constructor
        · intro hk1 a b ha hb
          have : l = [] := h2.1 (by omega)
          subst this
          simp only [List.nil_append, List.mem_singleton] at ha hb
          rw [ha, hb]; exact .refl _
        · intro h
          by_cases d : l = []
          · have := h2.2 d; omega
          · obtain ⟨j, hjl⟩ := List.exists_mem_of_ne_nil l d
            exact absurd ⟨j, hjl, h j i (List.mem_append_left _ hjl) (by simp)⟩ hno
theorem lab_adj (G : GOk n E) : labO E (List.range E.length) = labO E (ocV E v ++ adj E v) := by
  refine labO_eq fun a b => ci_congr fun i => ?_
  rw [List.mem_range, List.mem_append, mem_ocV, mem_adj]
  constructor
  · intro h
    obtain ⟨a, b, ha, hb, _⟩ := G.nats h
    unfold noV inc edP
    rw [ha, hb]
    simp only [decide_eq_true_eq, Int.toNat_natCast]
    by_cases c : a = v ∨ b = v
    · exact .inr ⟨h, by omega⟩
    · exact .inl ⟨h, by omega⟩
  · rintro (h | h)
    · exact h.1
    · exact h.1
/-- a vertex is a cut vertex if without its edges there are more components -/
theorem cnt_cuts (G : GOk n E) (hv : v < n) : ∃ k, cntN n (labO E (List.range E.length)) + k = cntN n (labO E (ocV E v)) ∧ (k = 0 ↔ deg E v = 0) ∧ (v ∈ cutL n E ↔ 1 < k) := by
  obtain ⟨k, h1, h2, h3⟩ := cnt_star G (adj E v) fun _ h => h
  rw [← lab_adj G] at h1
  refine ⟨k, h1, by rw [h2, deg, List.length_eq_zero_iff], ?_⟩
  have hk : 1 < k ↔ ¬ k ≤ 1 := by omega
  rw [cutL, List.mem_filter, List.mem_range, cutB_iff G, hk, h3]
  unfold CutP
  constructor
  · rintro ⟨_, i, j, y, z, hi, hj, hl1, hl2, hn⟩ h
    obtain ⟨e1, a1⟩ := oN_of G hi hl1
    obtain ⟨e2, a2⟩ := oN_of G hj hl2
    have := h i j a1 a2
    rw [e1, e2] at this
    exact hn this
  · intro h
    refine ⟨hv, ?_⟩
    apply Classical.byContradiction
    intro hn
    refine h fun i j hi hj => ?_
    apply Classical.byContradiction
    intro hc
    obtain ⟨i1, i2⟩ := mem_adj.1 hi
    obtain ⟨j1, j2⟩ := mem_adj.1 hj
    exact hn ⟨i, j, _, _, i1, j1, (oN_lnk G i1 i2).1, (oN_lnk G j1 j2).1, hc⟩
end
end Go.Proofs.Ytcpikabhcjkkmaa
