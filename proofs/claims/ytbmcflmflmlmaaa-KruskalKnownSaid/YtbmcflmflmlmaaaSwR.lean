/- Plain mathematics of the rows around the vertices of a forest (kruskal.Swap). No conditions. -/
import Derived.Test.YtbmcflmflmlmaaaPth
import Derived.Test.YtbmcflmflmlmaaaFor
import Derived.Test.YtbmcflmflmlmaaaOwnR
namespace Go.Proofs.Ytbmcflmflmlmaaa
open Go.RowKit

/-- the edges at a vertex -/
def rowF (E : List Ed) (F : List Nat) (v : Nat) : List Nat := F.filter fun i => decide ((edP E i).1 = v ∨ (edP E i).2 = v)
theorem rowF_snoc (E : List Ed) (F : List Nat) (x v : Nat) : rowF E (F ++ [x]) v = if (edP E x).1 = v ∨ (edP E x).2 = v then rowF E F v ++ [x] else rowF E F v := by
  unfold rowF
  rw [List.filter_append, List.filter_cons, List.filter_nil]
  by_cases h : (edP E x).1 = v ∨ (edP E x).2 = v
  · rw [if_pos (by simpa using h), if_pos h]
  · rw [if_neg (by simpa using h), if_neg h, List.append_nil]
theorem rowF_mem {E : List Ed} {F : List Nat} {v i : Nat} : i ∈ rowF E F v ↔ i ∈ F ∧ ∃ u, Lnk E i v u := by
  unfold rowF
  rw [List.mem_filter, decide_eq_true_eq]
  refine and_congr_right fun _ => ⟨fun h => ?_, fun h => ?_⟩
  · rcases h with h | h
    · exact ⟨(edP E i).2, .inl (by rw [← h])⟩
    · exact ⟨(edP E i).1, .inr (by rw [← h])⟩
  · obtain ⟨u, h | h⟩ := h
    · exact .inl (by rw [h])
    · exact .inr (by rw [h])
theorem rowF_len (E : List Ed) (F : List Nat) (v : Nat) : (rowF E F v).length ≤ F.length := List.length_filter_le _ _
/-- the rows when an edge has been laid at its first end alone -/
theorem rowF_first {E : List Ed} {F : List Nat} {x u w : Nat} (h : edP E x = (u, w)) (hne : u ≠ w) (v : Nat) :
    (if v = w then (if v = u then rowF E F v ++ [x] else rowF E F v) ++ [x] else (if v = u then rowF E F v ++ [x] else rowF E F v)) = rowF E (F ++ [x]) v := by
  rw [rowF_snoc, h]
  by_cases h1 : v = w
  · subst h1
    rw [if_pos rfl, if_neg (fun e => hne e.symm), if_pos (.inr rfl)]
  · rw [if_neg h1]
    by_cases h2 : v = u
    · subst h2; rw [if_pos rfl, if_pos (.inl rfl)]
    · rw [if_neg h2, if_neg (fun c => c.elim (fun e => h2 e.symm) (fun e => h1 e.symm))]
theorem rows_ints {E : List Ed} {F : List Nat} {x u w : Nat} (h : edP E x = (u, w)) (hne : u ≠ w) (v : Nat) :
    (if v = w then (if w = u then intsN (rowF E F u) ++ [(x : Int)] else intsN (rowF E F w)) ++ [(x : Int)] else (if v = u then intsN (rowF E F u) ++ [(x : Int)] else intsN (rowF E F v))) = intsN (rowF E (F ++ [x]) v) := by
  rw [← rowF_first h hne v]
  by_cases h1 : v = w
  · subst h1
    rw [if_pos rfl, if_pos rfl, if_neg (fun e => hne e.symm), if_neg (fun e => hne e.symm), intsN_snoc]
  · rw [if_neg h1, if_neg h1]
    by_cases h2 : v = u
    · subst h2; rw [if_pos rfl, if_pos rfl, intsN_snoc]
    · rw [if_neg h2, if_neg h2]
theorem GOk.inE {n : Nat} {E : List Ed} (G : GOk n E) {p : List Nat} (h : ∀ i, i ∈ p → i < E.length) : InE n E p := fun i hi => by
  have h1 := G.ends i (h i hi)
  show (eAt E i).u.toNat < n ∧ (eAt E i).v.toNat < n
  omega
theorem cut_frs {n : Nat} {E : List Ed} {o : List Nat} (G : GOk n E) (ho : OrdOf E o) : Cut E (· ∈ frs E o) :=
  acy_cut (G.inE fun _ hi => ho.mem.1 ((frs_sub E o).mem hi)) (acy_frs E o)
/-- what lies in memory behind an append to one of the rows around -/
theorem rows_push {W w1 : World} {eb ab n i g cp : Nat} {R : Nat → List Int} {v : Value} {x : Int} {u : Value} (hR : OwnRows 24 3 1 encI eb eb n R W) (hX : Boxed W ab 59 u) (hab : ab ≠ eb) (hi : i < n) (hv : W.cell? ⟨eb, i, none⟩ = some v) (hown : W.ownsRow eb 3 1 v (R i).length ((R i).map (Value.int .i64)))
    (hown1 : w1.ownsRow eb 3 1 (.slice (some ⟨g, 0, none⟩) ((R i).length + 1 : Nat) cp) ((R i).length + 1) ((R i).map (Value.int .i64) ++ [.int .i64 x])) (hg : W.grownBy w1 v.ownBlock) (hm : Moved W v g) :
    OwnRows 24 3 1 encI eb eb n (fun j => if j = i then R i ++ [x] else R j) (w1.setCell ⟨eb, i, none⟩ (.slice (some ⟨g, 0, none⟩) ((R i).length + 1 : Nat) cp)) ∧
      Boxed w1 ab 59 u ∧ Boxed (w1.setCell ⟨eb, i, none⟩ (.slice (some ⟨g, 0, none⟩) ((R i).length + 1 : Nat) cp)) ab 59 u ∧
      Below eb W w1 ∧ Below eb W (w1.setCell ⟨eb, i, none⟩ (.slice (some ⟨g, 0, none⟩) ((R i).length + 1 : Nat) cp)) ∧
      w1.cell? ⟨eb, i, none⟩ = some v ∧ w1.frozen? ⟨eb, i, none⟩ = false := by
  have hne1 : v.ownBlock ≠ some ab := fun e => by
    rcases hown.2 with ⟨e1, _⟩ | ⟨g, cap, cur, e1, _, e3, _⟩
    · rw [e1] at e; cases e
    · rw [e1] at e
      have e : g = ab := Option.some.inj e
      subst e
      have h : W.heap[g]? = _ := hX
      rw [h] at e3
      simp at e3
  have X1 : Boxed w1 ab 59 u := grown_box hg hX hne1
  have b1 : Below eb W w1 := (Below.refl eb W).grown hg (Nat.le_of_lt hR.lt) (fun j e => (hown.lt j e).1)
  have hne2 : v.ownBlock ≠ some eb := fun e => by
    rcases hown.2 with ⟨e1, _⟩ | ⟨g, cap, cur, e1, _, e3, _⟩
    · rw [e1] at e; cases e
    · rw [e1] at e
      have e : g = eb := Option.some.inj e
      subst e
      obtain ⟨V', ⟨cc, k1, _⟩, _⟩ := hR.ex
      rw [k1] at e3
      simp at e3
  obtain ⟨v2, k1, k2, _⟩ := hR.at hi
  have hEb : w1.heap[eb]? = W.heap[eb]? := hg.block _ hR.lt (fun e => hne2 e.symm)
  exact ⟨OwnRows.push hR hi hv (by rw [encI_map]; exact hown1) rfl hg hm, X1, box_far X1 hab _, b1, b1.setCell (p := ⟨eb, i, none⟩) (Nat.le_refl _) _, (World.cell?_of_block hEb).trans hv, (World.frozen?_of_block hEb).trans k2⟩
end Go.Proofs.Ytbmcflmflmlmaaa
