/- Plain mathematics of the order of edges: by weight, and then by index. No conditions. -/
import Derived.Test.YtibdggbejogciaaGreatPl
import Derived.Test.YtibdggbejogciaaGreatCmp
namespace Go.Proofs.YtibdggbejogciaaGreat

/-- edge i comes before edge j -/
def ltE (E : List Ed) (i j : Nat) : Prop := (eAt E i).w < (eAt E j).w ∨ ((eAt E i).w = (eAt E j).w ∧ i < j)
instance (E : List Ed) (i j : Nat) : Decidable (ltE E i j) := by unfold ltE; infer_instance
theorem ltE_asymm {E : List Ed} {i j : Nat} (h : ltE E i j) (h' : ltE E j i) : False := by unfold ltE at *; omega
theorem ltE_trans {E : List Ed} {i j k : Nat} (h : ltE E i j) (h' : ltE E j k) : ltE E i k := by unfold ltE at *; omega
theorem ltE_total {E : List Ed} {i j : Nat} (h : i ≠ j) : ltE E i j ∨ ltE E j i := by unfold ltE; omega
/-- the indexes in order -/
structure OrdOf (E : List Ed) (o : List Nat) : Prop where
  perm : o.Perm (List.range E.length)
  sorted : o.Pairwise (ltE E)
theorem perm_sorted_eq {R : Nat → Nat → Prop} (irr : ∀ a b, R a b → R b a → False) : ∀ (l l' : List Nat), l.Perm l' → l.Pairwise R → l'.Pairwise R → l = l'
  | [], l', p, _, _ => (List.nil_perm.1 p).symm
  | a :: t, l', p, h1, h2 => by
    cases l' with
    | nil => exact absurd p.length_eq (by simp)
    | cons b t' =>
      by_cases e : a = b
      · subst e
        rw [perm_sorted_eq irr t t' (List.perm_cons a |>.1 p) (List.pairwise_cons.1 h1).2 (List.pairwise_cons.1 h2).2]
      · exfalso
        have ha : a ∈ b :: t' := p.mem_iff.1 (List.mem_cons_self ..)
        have hb : b ∈ a :: t := p.mem_iff.2 (List.mem_cons_self ..)
        have ha : a ∈ t' := (List.mem_cons.1 ha).resolve_left e
        have hb : b ∈ t := (List.mem_cons.1 hb).resolve_left (fun c => e c.symm)
        exact irr a b ((List.pairwise_cons.1 h1).1 b hb) ((List.pairwise_cons.1 h2).1 a ha)
theorem OrdOf.uniq {E : List Ed} {o o' : List Nat} (h : OrdOf E o) (h' : OrdOf E o') : o = o' :=
  perm_sorted_eq (fun _ _ => ltE_asymm) _ _ (h.perm.trans h'.perm.symm) h.sorted h'.sorted
theorem OrdOf.len {E : List Ed} {o : List Nat} (h : OrdOf E o) : o.length = E.length := by rw [h.perm.length_eq, List.length_range]
theorem OrdOf.mem {E : List Ed} {o : List Nat} (h : OrdOf E o) {i : Nat} : i ∈ o ↔ i < E.length := by rw [h.perm.mem_iff, List.mem_range]
/-- what the comparison answers -/
def cfE (E : List Ed) (i j : Nat) : Int := if cmpI (eAt E i).w (eAt E j).w = 0 then cmpI (i : Int) (j : Int) else cmpI (eAt E i).w (eAt E j).w
theorem cmpI_zero {x y : Int} : cmpI x y = 0 ↔ x = y := by
  unfold cmpI
  split
  · omega
  · split <;> omega
theorem cmpI_neg {x y : Int} : cmpI x y < 0 ↔ x < y := by
  unfold cmpI
  split
  · omega
  · split <;> omega
theorem cfE_lt (E : List Ed) (i j : Nat) : cfE E i j < 0 ↔ ltE E i j := by
  unfold cfE ltE
  split
  · rename_i h
    rw [cmpI_neg]
    have := cmpI_zero.1 h
    omega
  · rename_i h
    rw [cmpI_neg]
    have : (eAt E i).w ≠ (eAt E j).w := fun e => h (cmpI_zero.2 e)
    omega
end Go.Proofs.YtibdggbejogciaaGreat
