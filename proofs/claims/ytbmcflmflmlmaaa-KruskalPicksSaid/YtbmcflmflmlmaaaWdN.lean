/- Plain mathematics of numbers of many digits. No conditions. -/
import Derived.Test.YtbmcflmflmlmaaaRows
namespace Go.Proofs.Ytbmcflmflmlmaaa

/-- a magnitude without its lowest digits -/
def up (U : Nat) : Nat → Nat
  | 0 => U
  | i + 1 => up U i / 4294967296
/-- a digit -/
def dg (U i : Nat) : Nat := up U i % 4294967296
theorem up_split (U i : Nat) : up U i = 4294967296 * up U (i + 1) + dg U i := by
  have : up U (i + 1) = up U i / 4294967296 := rfl
  unfold dg; omega
theorem dg_lt (U i : Nat) : dg U i < 4294967296 := Nat.mod_lt _ (by decide)
theorem up_mono {U V : Nat} (h : V ≤ U) : ∀ i, up V i ≤ up U i
  | 0 => h
  | i + 1 => Nat.div_le_div_right (up_mono h i)
/-- what is carried -/
def cy (U V : Nat) : Nat → Nat
  | 0 => 0
  | i + 1 => (dg U i + dg V i + cy U V i) / 4294967296
theorem cy_le (U V : Nat) : ∀ i, cy U V i ≤ 1
  | 0 => Nat.zero_le _
  | i + 1 => by have := cy_le U V i; have := dg_lt U i; have := dg_lt V i; show (_ / _ : Nat) ≤ 1; omega
theorem up_add (U V : Nat) : ∀ i, up (U + V) i = up U i + up V i + cy U V i
  | 0 => rfl
  | i + 1 => by
    have h := up_add U V i
    have h1 := up_split U i; have h2 := up_split V i
    have h3 : up (U + V) (i + 1) = up (U + V) i / 4294967296 := rfl
    have h4 : cy U V (i + 1) = (dg U i + dg V i + cy U V i) / 4294967296 := rfl
    omega
theorem dg_add (U V i : Nat) : dg (U + V) i = (dg U i + dg V i + cy U V i) % 4294967296 := by
  have h := up_add U V i
  have h1 := up_split U i; have h2 := up_split V i
  have h3 : dg (U + V) i = up (U + V) i % 4294967296 := rfl
  omega
/-- what is borrowed -/
def bw (U V : Nat) : Nat → Nat
  | 0 => 0
  | i + 1 => 1 - (dg U i + 4294967296 - dg V i - bw U V i) / 4294967296
theorem bw_le (U V : Nat) : ∀ i, bw U V i ≤ 1
  | 0 => Nat.zero_le _
  | i + 1 => by show 1 - (_ / _ : Nat) ≤ 1; omega
theorem up_sub {U V : Nat} (h : V ≤ U) : ∀ i, up (U - V) i + up V i + bw U V i = up U i
  | 0 => by show U - V + V + 0 = U; omega
  | i + 1 => by
    have h0 := up_sub h i
    have h1 := up_split U i; have h2 := up_split V i
    have h3 : up (U - V) (i + 1) = up (U - V) i / 4294967296 := rfl
    have h4 : bw U V (i + 1) = 1 - (dg U i + 4294967296 - dg V i - bw U V i) / 4294967296 := rfl
    have h5 := bw_le U V i
    have h6 := dg_lt U i; have h7 := dg_lt V i
    omega
theorem dg_sub {U V : Nat} (h : V ≤ U) (i : Nat) : dg (U - V) i = (dg U i + 4294967296 - dg V i - bw U V i) % 4294967296 := by
  have h0 := up_sub h i
  have h1 := up_split U i; have h2 := up_split V i
  have h3 : dg (U - V) i = up (U - V) i % 4294967296 := rfl
  have h5 := bw_le U V i
  have h6 := dg_lt U i; have h7 := dg_lt V i
  omega
/-- six digits are enough -/
def Fit (U : Nat) : Prop := up U 6 = 0
theorem fit_of {U : Nat} (h : U < 6277101735386680763835789423207666416102355444464034512896) : Fit U := by
  unfold Fit up up up up up up up; omega
theorem fit_lt {U : Nat} (h : Fit U) : U < 6277101735386680763835789423207666416102355444464034512896 := by
  unfold Fit up up up up up up up at h; omega
theorem up_lt_of {U V i : Nat} (h : up U (i + 1) = up V (i + 1)) (hd : dg U i < dg V i) : U < V := by
  have h1 := up_split U i; have h2 := up_split V i
  by_cases c : V ≤ U
  · have := up_mono c i; omega
  · omega
theorem up_eq_of {U V i : Nat} (h : up U (i + 1) = up V (i + 1)) (hd : dg U i = dg V i) : up U i = up V i := by
  rw [up_split U i, up_split V i, h, hd]
/-- the number of a sign and a magnitude -/
def wv (s : Bool) (U : Nat) : Int := if s then -(U : Int) else U
end Go.Proofs.Ytbmcflmflmlmaaa
