/- Plain mathematics of the known examples of the statements about kruskal. No conditions. -/
import Derived.Test.YtbmcflmflmlmaaaKWorks
namespace Go.Proofs.Ytbmcflmflmlmaaa

/-- three edges of the greatest weight -/
def hE : List Ed := [⟨0, 1, 9223372036854775807⟩, ⟨1, 2, 9223372036854775807⟩, ⟨0, 2, 9223372036854775807⟩]
theorem hE_err : gErr 3 hE = 0 := by decide +kernel
theorem hE_ord {o : List Nat} (h : OrdOf hE o) : o = [0, 1, 2] := h.uniq ⟨by decide, by decide⟩
theorem hE_frs : frs hE [0, 1, 2] = [0, 1] := by decide +kernel
theorem hE_in : ∀ i, i < hE.length → inR (eAt hE i).w := by
  intro i hi
  have hl : hE.length = 3 := rfl
  match i, hi with
  | 0, _ => unfold inR; decide
  | 1, _ => unfold inR; decide
  | 2, _ => unfold inR; decide
  | n + 3, h => omega
theorem hE_sum : sumO (wSum hE [0, 1]) = 7 := by decide +kernel
theorem hE_min : minB hE [0, 1, 2] [2, 1] = true ∧ spE hE.length [2, 1] = 0 := by
  refine ⟨?_, by decide +kernel⟩
  have h1 : wsOf hE (toN [2, 1]) = wsOf hE (frs hE [0, 1, 2]) := by decide +kernel
  have h2 : spB hE [2, 1] (frs hE [0, 1, 2]).length = true := by decide +kernel
  rw [minB, h1, h2]; simp
theorem nil_err : gErr 0 ([] : List Ed) = 0 := by decide +kernel
theorem loop_err : gErr 2 [⟨1, 1, 0⟩] = 9 := by decide +kernel
/-- the picks of the example -/
def pk : Nat → List Int
  | 0 => [4, 3, 2]
  | 1 => [4, 1, 2]
  | 2 => [4, 3]
  | _ => [3, 0, 4]
theorem pk_sp : ∀ i, i < 4 → spB wE (pk i) (frs wE [4, 3, 1, 2, 0]).length = decide (i < 2) ∧ spE wE.length (pk i) = 0 := by decide +kernel
theorem pk_len : ∀ i, i < 4 → (pk i).length ≤ 3 := by decide +kernel
theorem pk_min : ∀ i, i < 4 → minB wE [4, 3, 1, 2, 0] (pk i) = decide (i < 1) := by
  intro i hi
  rw [minB, (pk_sp i hi).1]
  match i, hi with
  | 0, _ =>
    have h1 : wsOf wE (toN (pk 0)) = wsOf wE (frs wE [4, 3, 1, 2, 0]) := by decide +kernel
    rw [h1]; simp
  | 1, _ =>
    have h1 : srt (wsOf wE (toN (pk 1))) ≠ srt (wsOf wE (frs wE [4, 3, 1, 2, 0])) := fun c => by
      have := congrArg List.sum c
      rw [srt_sum, srt_sum] at this
      exact absurd this (by decide +kernel)
    rw [decide_eq_false h1]; rfl
  | 2, _ => rfl
  | 3, _ => rfl
  | n + 4, h => omega
theorem bad_sp : spE wE.length [1, 1, 5] = 3 ∧ spE wE.length [4, 1, 4] = 6 := by decide +kernel
theorem wE_swap2 {o : List Nat} {x : Int} (ho : OrdOf wE o) (h : SwapX wE (frs wE o) (0 : Int).toNat (2 : Int).toNat 2 x) : x = -1 := by
  have ho' : OrdOf (wE ++ [⟨0, 2, 2⟩]) [4, 3, 1, 2, 5, 0] := ⟨by decide, by decide⟩
  rw [swap_eq (e := ⟨0, 2, 2⟩) ho ho' h, wE_ord ho]
  decide +kernel
theorem wE_swap5 {o : List Nat} {x : Int} (ho : OrdOf wE o) (h : SwapX wE (frs wE o) (0 : Int).toNat (5 : Int).toNat 0 x) : x = -1 := by
  have ho' : OrdOf (wE ++ [⟨0, 5, 0⟩]) [4, 5, 3, 1, 2, 0] := ⟨by decide, by decide⟩
  rw [swap_eq (e := ⟨0, 5, 0⟩) ho ho' h, wE_ord ho]
  decide +kernel
/-- parallel edges, each heavier than the one before -/
def parE (n : Nat) : List Ed := (List.range n).map fun (r : Nat) => (⟨0, 1, (r : Int) + 5⟩ : Ed)
theorem parE_len (n : Nat) : (parE n).length = n := by simp [parE]
theorem parE_at {n i : Nat} (h : i < n) : eAt (parE n) i = ⟨0, 1, (i : Int) + 5⟩ := by
  rw [eAt_eq (by rw [parE_len]; exact h)]
  simp [parE]
theorem parE_ok {n : Nat} (hn : n ≤ 16384) : GOk 2 (parE n) := ⟨by decide, by rw [parE_len]; exact hn, fun i hi => by
  rw [parE_len] at hi
  rw [parE_at hi]
  exact ⟨Int.le_refl _, by show (0 : Int) < 2; decide, by show (0 : Int) ≤ 1; decide, by show (1 : Int) < 2; decide, by show (0 : Int) ≠ 1; decide⟩⟩
theorem parE_err {n : Nat} (hn : n ≤ 16384) : gErr 2 (parE n) = 0 := gErr_ok (parE_ok hn)
theorem parE_ord {n : Nat} {o : List Nat} (h : OrdOf (parE n) o) : o = List.range n := by
  refine h.uniq ⟨by rw [parE_len], ?_⟩
  refine (List.pairwise_lt_range (n := n)).imp_of_mem fun {a b} ha hb hab => ?_
  rw [List.mem_range] at ha hb
  left
  rw [parE_at ha, parE_at hb]
  show (a : Int) + 5 < (b : Int) + 5
  omega
theorem parE_frs (n : Nat) : ∀ k, k + 1 ≤ n → frs (parE n) (List.range (k + 1)) = [0] := by
  intro k hk
  have hp : ∀ i, i < n → edP (parE n) i = (0, 1) := fun i hi => by unfold edP; rw [parE_at hi]; rfl
  have hlab : ∀ k, k + 1 ≤ n → labO (parE n) (List.range (k + 1)) 0 = labO (parE n) (List.range (k + 1)) 1 := fun k hk => by
    refine (labL_cn _ _ _).2 (ci_cn.1 (CI.one (i := 0) (by simp) (.inl (hp 0 (by omega)))))
  induction k with
  | zero =>
    rw [List.range_succ, frs_snoc, List.range_zero, labO_nil, frs_nil, accB, hp 0 (by omega)]
    rfl
  | succ k ih =>
    rw [List.range_succ, frs_snoc, accB, hp (k + 1) (by omega), if_neg, ih (by omega)]
    have := hlab k (by omega)
    simpa using this
theorem parE_swap {n : Nat} (hn : 1 ≤ n) {o : List Nat} {x : Int} (ho : OrdOf (parE n) o) (h : SwapX (parE n) (frs (parE n) o) (1 : Int).toNat (0 : Int).toNat 4 x) : x = 0 := by
  have hf : frs (parE n) o = [0] := by
    rw [parE_ord ho]
    have := parE_frs n (n - 1) (by omega)
    rw [Nat.sub_add_cancel hn] at this
    exact this
  rw [hf] at h
  have h0 : edP (parE n) 0 = (0, 1) := by unfold edP; rw [parE_at (by omega)]; rfl
  rcases h with ⟨j, hj, _, rfl⟩ | ⟨_, hn | ⟨j, hj, hw⟩⟩
  · have : j = 0 := by simpa using hj.1
    rw [this]; rfl
  · exact absurd (CI.one (i := 0) (by simp) (.inr h0)) hn
  · have : j = 0 := by simpa using hj.1
    rw [this, parE_at (by omega)] at hw
    exact absurd hw (by decide)
end Go.Proofs.Ytbmcflmflmlmaaa
