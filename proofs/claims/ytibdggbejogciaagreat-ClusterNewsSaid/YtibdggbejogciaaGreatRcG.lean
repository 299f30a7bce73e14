/- Plain mathematics: what the rows of the tree hold while it is built. No conditions. -/
import Derived.Test.YtibdggbejogciaaGreatRc
import Derived.Test.YtibdggbejogciaaGreatRcP
namespace Go.Proofs.YtibdggbejogciaaGreat

def stL (E : List Ed) (f : List Nat) (n i y : Nat) : Int := if n ≤ y ∧ y < n + i then ((nd E f n (y - n) (mA E f (y - n)) : Nat) : Int) else -1
def stR (E : List Ed) (f : List Nat) (n i y : Nat) : Int := if n ≤ y ∧ y < n + i then ((nd E f n (y - n) (mB E f (y - n)) : Nat) : Int) else -1
def stP (E : List Ed) (f : List Nat) (n i y : Nat) : Int := pvI n (pk E f n i y)
def stH (E : List Ed) (f : List Nat) (n i y : Nat) : Int := if n ≤ y ∧ y < n + i then (eAt E (f.getD (y - n) 0)).w else 0
def stZ (E : List Ed) (f : List Nat) (n i y : Nat) : Int := if y < n + i then ((szT E f n y : Nat) : Int) else 0
section
variable {E : List Ed} {f : List Nat} {n i y : Nat}
theorem stL_zero : stL E f n 0 y = -1 := by unfold stL; rw [if_neg (by omega)]
theorem stR_zero : stR E f n 0 y = -1 := by unfold stR; rw [if_neg (by omega)]
theorem stP_zero : stP E f n 0 y = -1 := rfl
theorem stH_zero : stH E f n 0 y = 0 := by unfold stH; rw [if_neg (by omega)]
theorem stZ_zero : stZ E f n 0 y = if y < n then 1 else 0 := by
  unfold stZ
  by_cases h : y < n
  · rw [if_pos h, if_pos (by omega), szT_leaf h]; rfl
  · rw [if_neg h, if_neg (by omega)]
theorem st_in {c : Prop} [Decidable c] {a b : Int} : (if n ≤ y ∧ y < n + (i + 1) then a else b) = if y = n + i then a else if n ≤ y ∧ y < n + i then a else b := by
  by_cases h : y = n + i
  · rw [if_pos h, if_pos (by omega)]
  · rw [if_neg h]
    by_cases h2 : n ≤ y ∧ y < n + i
    · rw [if_pos h2, if_pos (by omega)]
    · rw [if_neg h2, if_neg (by omega)]
theorem stL_step : (if y = n + i then ((nd E f n i (mA E f i) : Nat) : Int) else stL E f n i y) = stL E f n (i + 1) y := by
  unfold stL
  rw [st_in (c := True)]
  by_cases h : y = n + i
  · rw [if_pos h, if_pos h, h, Nat.add_sub_cancel_left]
  · rw [if_neg h, if_neg h]
theorem stR_step : (if y = n + i then ((nd E f n i (mB E f i) : Nat) : Int) else stR E f n i y) = stR E f n (i + 1) y := by
  unfold stR
  rw [st_in (c := True)]
  by_cases h : y = n + i
  · rw [if_pos h, if_pos h, h, Nat.add_sub_cancel_left]
  · rw [if_neg h, if_neg h]
theorem stH_step : (if y = n + i then (eAt E (f.getD i 0)).w else stH E f n i y) = stH E f n (i + 1) y := by
  unfold stH
  rw [st_in (c := True)]
  by_cases h : y = n + i
  · rw [if_pos h, if_pos h, h, Nat.add_sub_cancel_left]
  · rw [if_neg h, if_neg h]
theorem stZ_step : (if y = n + i then ((szT E f n (n + i) : Nat) : Int) else stZ E f n i y) = stZ E f n (i + 1) y := by
  unfold stZ
  by_cases h : y = n + i
  · rw [if_pos h, if_pos (by omega), h]
  · rw [if_neg h]
    by_cases h2 : y < n + i
    · rw [if_pos h2, if_pos (by omega)]
    · rw [if_neg h2, if_neg (by omega)]
theorem stP_step : (if y = nd E f n i (mB E f i) then ((n + i : Nat) : Int) else if y = nd E f n i (mA E f i) then ((n + i : Nat) : Int) else stP E f n i y) = stP E f n (i + 1) y := by
  unfold stP
  rw [pk]
  by_cases h : y = nd E f n i (mB E f i)
  · rw [if_pos h, if_pos (.inl h)]; rfl
  · rw [if_neg h]
    by_cases h2 : y = nd E f n i (mA E f i)
    · rw [if_pos h2, if_pos (.inr h2)]; rfl
    · rw [if_neg h2, if_neg (by rintro (c | c); exact h c; exact h2 c)]
theorem nd_step {a : Nat} : (if a = mA E f i then n + i else nd E f n i a) = nd E f n (i + 1) a := rfl
end
end Go.Proofs.YtibdggbejogciaaGreat
