/- Plain mathematics of the forest that Kruskal grows. No conditions. -/
import Derived.Test.YtcpikabhcjkkmaaUf
import Derived.Test.YtcpikabhcjkkmaaGm
namespace Go.Proofs.Ytcpikabhcjkkmaa

/-- the ends of an edge -/
def edP (E : List Ed) (i : Nat) : Nat × Nat := ((eAt E i).u.toNat, (eAt E i).v.toNat)
/-- the labels behind some edges -/
def labO (E : List Ed) (o : List Nat) : Nat → Nat := labL (o.map (edP E))
/-- is an edge accepted? -/
def accB (E : List Ed) (k : Nat → Nat) (i : Nat) : Bool := decide (k (edP E i).1 ≠ k (edP E i).2)
def fstep (E : List Ed) (s : (Nat → Nat) × List Nat) (i : Nat) : (Nat → Nat) × List Nat :=
  (joinF s.1 (edP E i).1 (edP E i).2, if accB E s.1 i then s.2 ++ [i] else s.2)
/-- the edges that are accepted -/
def frs (E : List Ed) (o : List Nat) : List Nat := (o.foldl (fstep E) (id, [])).2
theorem foldl_lab (E : List Ed) (o : List Nat) : (o.foldl (fstep E) (id, [])).1 = labO E o := by
  induction o using rev_ind with
  | h0 => rfl
  | h1 o i ih =>
    rw [List.foldl_append, List.foldl_cons, List.foldl_nil]
    unfold labO at *
    rw [List.map_append, List.map_cons, List.map_nil, labL_snoc, ← ih]
    rfl
theorem labO_snoc (E : List Ed) (o : List Nat) (i : Nat) : labO E (o ++ [i]) = joinF (labO E o) (edP E i).1 (edP E i).2 := by
  unfold labO
  rw [List.map_append, List.map_cons, List.map_nil, labL_snoc]
theorem frs_snoc (E : List Ed) (o : List Nat) (i : Nat) : frs E (o ++ [i]) = if accB E (labO E o) i then frs E o ++ [i] else frs E o := by
  unfold frs
  rw [List.foldl_append, List.foldl_cons, List.foldl_nil, ← foldl_lab]
  rfl
theorem frs_nil (E : List Ed) : frs E [] = [] := rfl
theorem labO_nil (E : List Ed) : labO E [] = id := rfl
theorem labO_ok (E : List Ed) (o : List Nat) : LabOk (labO E o) := labL_ok _
theorem frs_sub (E : List Ed) (o : List Nat) : (frs E o).Sublist o := by
  induction o using rev_ind with
  | h0 => exact List.Sublist.refl _
  | h1 o i ih =>
    rw [frs_snoc]
    split
    · exact ih.append (List.Sublist.refl _)
    · exact ih.trans (List.sublist_append_left _ _)
theorem frs_len (E : List Ed) (o : List Nat) : (frs E o).length ≤ o.length := (frs_sub E o).length_le
/-- the accepted edges connect what all connect -/
theorem labO_frs (E : List Ed) (o : List Nat) : labO E (frs E o) = labO E o := by
  induction o using rev_ind with
  | h0 => rfl
  | h1 o i ih =>
    rw [frs_snoc, labO_snoc]
    split
    · rw [labO_snoc, ih]
    · rename_i h
      have h : labO E o (edP E i).1 = labO E o (edP E i).2 := by simpa [accB] using h
      rw [joinF_same h, ih]
/-- edges whose ends are vertices -/
def InE (n : Nat) (E : List Ed) (o : List Nat) : Prop := ∀ i, i ∈ o → (edP E i).1 < n ∧ (edP E i).2 < n
/-- each accepted edge makes one component less -/
theorem frs_rank {n : Nat} {E : List Ed} {o : List Nat} (h : InE n E o) : (frs E o).length + cntN n (labO E o) = n := by
  induction o using rev_ind with
  | h0 => rw [frs_nil, labO_nil, cntN_id]; simp
  | h1 o i ih =>
    have ih := ih fun j hj => h j (List.mem_append_left _ hj)
    have hi := h i (by simp)
    rw [frs_snoc, labO_snoc]
    split
    · rename_i hc
      have hc : labO E o (edP E i).1 ≠ labO E o (edP E i).2 := by simpa [accB] using hc
      have := cntN_join (labO_ok E o) hi.1 hi.2 hc
      rw [List.length_append, List.length_singleton]; omega
    · rename_i hc
      have hc : labO E o (edP E i).1 = labO E o (edP E i).2 := by simpa [accB] using hc
      rw [joinF_same hc]; exact ih
end Go.Proofs.Ytcpikabhcjkkmaa
