/- Plain mathematics of the tree that joins the components of a graph: its parents are those of a forest, and climbing from a leaf up to a weight ends at the node of its component. No conditions. -/
import Derived.Test.YtibdggbejogciaaGreatRcE
import Derived.Test.YtibdggbejogciaaGreatLfN
import Derived.Test.YtibdggbejogciaaGreatLfC
namespace Go.Proofs.YtibdggbejogciaaGreat
open Go.RowKit

def pvI (n : Nat) : Option Nat → Int
  | none => -1
  | some i => ((n + i : Nat) : Int)
/-- the parents, the weights, the sizes -/
def pT (E : List Ed) (f : List Nat) (n : Nat) : List Int := (List.range (n + f.length)).map fun x => pvI n (pk E f n f.length x)
def hT (E : List Ed) (f : List Nat) (n : Nat) : List Int := (List.range (n + f.length)).map fun x => hgt E f n x
section
variable {E : List Ed} {f : List Nat} {n x u k j i : Nat}
theorem pT_len (E : List Ed) (f : List Nat) (n : Nat) : (pT E f n).length = n + f.length := by simp [pT]
theorem hT_len (E : List Ed) (f : List Nat) (n : Nat) : (hT E f n).length = n + f.length := by simp [hT]
theorem pT_nth (h : x < n + f.length) : nth (pT E f n) x = pvI n (pk E f n f.length x) := by simp [nth, pT, h]
theorem hT_nth (h : x < n + f.length) : nth (hT E f n) x = hgt E f n x := by simp [nth, hT, h]
theorem pT_pa (h : x < n + f.length) : pa (pT E f n) x = (pk E f n f.length x).map (n + ·) := by
  have e : (pT E f n)[x]? = some (pvI n (pk E f n f.length x)) := by simp [pT, h]
  cases hp : pk E f n f.length x with
  | none =>
    rw [hp] at e
    have hl : x < (pT E f n).length := by rw [pT_len]; exact h
    rw [Option.map_none, pa_none hl]
    rw [List.getElem?_eq_getElem hl] at e
    rw [Option.some.inj e]; exact (by decide : (-1 : Int) < 0)
  | some i => rw [hp] at e; rw [Option.map_some, pa_some, e]; rfl
theorem pT_pa_none (h : pk E f n f.length x = none) (hx : x < n + f.length) : pa (pT E f n) x = none := by rw [pT_pa hx, h]; rfl
theorem pT_pa_some (h : pk E f n f.length x = some i) (hx : x < n + f.length) : pa (pT E f n) x = some (n + i) := by rw [pT_pa hx, h]; rfl
theorem Fo.tree (F : Fo n E f) : Tree (pT E f n) := by
  refine tree_of_rank (fun v => n + f.length - v) fun v u h => ?_
  have hv := pa_lt h
  rw [pT_len] at hv
  rw [pT_pa hv] at h
  cases hp : pk E f n f.length v with
  | none => rw [hp] at h; cases h
  | some i =>
    rw [hp] at h
    have e : n + i = u := by simpa using h
    have h1 := pk_below F (Nat.le_refl _) hp
    have h2 := pk_lt hp
    rw [pT_len]; omega
theorem Fo.newE (F : Fo n E f) (h : n + f.length ≤ 8192) : newE (pT E f n) = 0 := by
  unfold Go.Proofs.YtibdggbejogciaaGreat.newE
  have h1 : inRB (pT E f n) = true := inRB_iff.2 fun i hi => by
    rw [pT_len] at hi
    rw [pT_nth hi, pT_len]
    cases hp : pk E f n f.length i with
    | none => show -1 ≤ (-1 : Int) ∧ (-1 : Int) < ((n + f.length : Nat) : Int); omega
    | some j => have := pk_lt hp; show -1 ≤ ((n + j : Nat) : Int) ∧ ((n + j : Nat) : Int) < ((n + f.length : Nat) : Int); omega
  rw [if_neg (by rw [pT_len]; omega), h1, treeB_iff.2 F.tree]; rfl
theorem climb_nd {θ : Int} (F : Fo n E f) (hk : k ≤ f.length) (hh : ∀ i, i < f.length → (hgt E f n (n + i) ≤ θ ↔ i < k)) (hu : u < n) : climb (pT E f n) (hT E f n) θ u = nd E f n k (lbI E f k u) := by
  have key : ∀ (N j : Nat), j ≤ k → n + f.length - nd E f n j (lbI E f j u) = N → climb (pT E f n) (hT E f n) θ (nd E f n j (lbI E f j u)) = nd E f n k (lbI E f k u) := by
    intro N
    induction N using Nat.strongRecOn with
    | ind N ih =>
      intro j hj hN
      have hla : lbI E f j u < n := Nat.lt_of_le_of_lt (lbI_le _ _ _ _) hu
      have hx : nd E f n j (lbI E f j u) < n + f.length := by have := nd_lt (E := E) (f := f) (i := j) hla; omega
      cases hp : pk E f n f.length (nd E f n j (lbI E f j u)) with
      | none =>
        rw [climb_stop (by unfold onward; rw [pT_pa_none hp hx])]
        exact way_top F hk hu hj fun i hi => by rw [hp] at hi; cases hi
      | some i =>
        have hif := pk_lt hp
        by_cases hik : i < k
        · have h1 : onward (pT E f n) (hT E f n) θ (nd E f n j (lbI E f j u)) = true := by
            unfold onward; rw [pT_pa_some hp hx]
            simp only [decide_eq_true_eq]
            rw [hT_nth (by omega)]; exact (hh i hif).2 hik
          obtain ⟨y, hy, _, _, e⟩ := climb_go F.tree (by rw [pT_len]; exact hx) h1
          rw [pT_pa_some hp hx] at hy
          cases hy
          have hw := way_up F hu (by omega) hp
          have hb := pk_below F (Nat.le_refl _) hp
          rw [e, hw]
          exact ih _ (by rw [← hw]; omega) (i + 1) hik rfl
        · have h1 : onward (pT E f n) (hT E f n) θ (nd E f n j (lbI E f j u)) = false := by
            unfold onward; rw [pT_pa_some hp hx]
            simp only [decide_eq_false_iff_not]
            rw [hT_nth (by omega), hh i hif]; exact hik
          rw [climb_stop h1]
          exact way_top F hk hu hj fun a ha => by rw [hp] at ha; cases ha; omega
  have := key _ 0 (Nat.zero_le _) rfl
  rwa [lbI_zero] at this
/-- what Climb answers at a leaf, and elsewhere -/
theorem inB_leaf (hu : u < n) : inB (pT E f n) u = true := inB_iff.2 ⟨u, rfl, by rw [pT_len]; omega⟩
theorem clE_leaf (hu : u < n) : clE (pT E f n) u (hT E f n) = 0 := by unfold clE; rw [if_pos (inB_leaf hu), hT_len, pT_len, if_pos rfl]
theorem clV_leaf {θ : Int} (hu : u < n) : clV (pT E f n) u (hT E f n) θ = climb (pT E f n) (hT E f n) θ u := by unfold clV; rw [if_pos (clE_leaf hu)]; rfl
end
end Go.Proofs.YtibdggbejogciaaGreat
