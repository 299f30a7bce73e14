/- Some of the edges, as edges of their own. No conditions. -/
import Derived.Test.YtibdggbejogciaaGreatPl
namespace Go.Proofs.YtibdggbejogciaaGreat

/-- some of the edges -/
def someE (E : List Ed) (p : List Nat) : List Ed := p.map (eAt E)
theorem someE_len (E : List Ed) (p : List Nat) : (someE E p).length = p.length := by simp [someE]
theorem someE_at {E : List Ed} {p : List Nat} {i : Nat} (h : i < p.length) : eAt (someE E p) i = eAt E (p.getD i 0) := by
  unfold someE
  rw [eAt_eq (by simpa using h), List.getElem_map]
  simp [List.getD, h]
theorem someE_lab (E : List Ed) (p : List Nat) : labO (someE E p) (List.range (someE E p).length) = labO E p := by
  have h : (List.range (someE E p).length).map (edP (someE E p)) = p.map (edP E) := by
    apply List.ext_getElem
    · simp [someE]
    · intro i h1 h2
      simp only [List.length_map] at h2
      simp only [List.getElem_map, List.getElem_range]
      unfold edP
      rw [someE_at h2]
      simp [List.getD, h2]
  unfold labO; rw [h]
theorem someE_snoc (E : List Ed) (p : List Nat) (x : Nat) : someE E (p ++ [x]) = someE E p ++ [eAt E x] := by simp [someE]
theorem gok_some {k : Nat} {E : List Ed} {p : List Nat} (G : GOk k E) (hp : ∀ i, i ∈ p → i < E.length) (hl : p.length ≤ 16384) : GOk k (someE E p) :=
  ⟨G.n_le, by rw [someE_len]; exact hl, fun i hi => by
    rw [someE_len] at hi
    rw [someE_at hi]
    exact G.ends _ (hp _ (by rw [List.getD_eq_getElem?_getD, List.getElem?_eq_getElem hi]; exact List.getElem_mem _))⟩
/-- the edges up to a weight -/
def leW (E : List Ed) (θ : Int) (i : Nat) : Bool := decide ((eAt E i).w ≤ θ)
end Go.Proofs.YtibdggbejogciaaGreat
