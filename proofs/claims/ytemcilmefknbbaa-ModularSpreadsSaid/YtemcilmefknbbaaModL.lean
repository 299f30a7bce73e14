/- Plain mathematics of modularity: the numerator of a partition, what a move adds to it, the best move of a vertex, passes over all vertices. No conditions but that the graph is accepted. -/
import Derived.Test.YtemcilmefknbbaaNear
namespace Go.Proofs.Ytemcilmefknbbaa

def sumZ : Nat → (Nat → Int) → Int
  | 0, _ => 0
  | n + 1, f => sumZ n f + f n
theorem sumZ_congr {n : Nat} {f g : Nat → Int} (h : ∀ i, i < n → f i = g i) : sumZ n f = sumZ n g := by
  induction n with
  | zero => rfl
  | succ n ih => simp only [sumZ]; rw [ih fun i hi => h i (by omega), h n (by omega)]
theorem sumZ_add (n : Nat) (f g : Nat → Int) : sumZ n (fun i => f i + g i) = sumZ n f + sumZ n g := by
  induction n with
  | zero => rfl
  | succ n ih => simp only [sumZ, ih]; omega
theorem sumZ_sub (n : Nat) (f g : Nat → Int) : sumZ n (fun i => f i - g i) = sumZ n f - sumZ n g := by
  induction n with
  | zero => rfl
  | succ n ih => simp only [sumZ, ih]; omega
theorem sumZ_mul (n : Nat) (c : Int) (f : Nat → Int) : sumZ n (fun i => c * f i) = c * sumZ n f := by
  induction n with
  | zero => simp [sumZ]
  | succ n ih => simp only [sumZ, ih, Int.mul_add]
theorem sumZ_zero (n : Nat) : sumZ n (fun _ => 0) = 0 := by
  induction n with
  | zero => rfl
  | succ n ih => simp only [sumZ, ih]; rfl
theorem sumZ_le {n : Nat} {f g : Nat → Int} (h : ∀ i, i < n → f i ≤ g i) : sumZ n f ≤ sumZ n g := by
  induction n with
  | zero => exact Int.le_refl _
  | succ n ih => simp only [sumZ]; have := ih fun i hi => h i (by omega); have := h n (by omega); omega
theorem sumZ_nonneg {n : Nat} {f : Nat → Int} (h : ∀ i, i < n → 0 ≤ f i) : 0 ≤ sumZ n f := by
  have := sumZ_le h; rw [sumZ_zero] at this; exact this
theorem sumZ_pick {n v : Nat} (hv : v < n) (f : Nat → Int) : sumZ n (fun i => if i = v then f i else 0) = f v := by
  induction n with
  | zero => omega
  | succ n ih =>
    simp only [sumZ]
    by_cases h : n = v
    · subst h
      have : sumZ n (fun i => if i = n then f i else 0) = sumZ n fun _ => 0 := sumZ_congr fun i hi => if_neg (by omega)
      rw [this, sumZ_zero]; simp
    · rw [ih (by omega), if_neg h]; omega
/-- one term is replaced -/
theorem sumZ_swap1 {n v : Nat} (hv : v < n) {f g : Nat → Int} (h : ∀ i, i < n → i ≠ v → f i = g i) : sumZ n f = sumZ n g + (f v - g v) := by
  have e : sumZ n f = sumZ n (fun i => g i + if i = v then f i - g i else 0) := sumZ_congr fun i hi => by
    by_cases hq : i = v
    · rw [if_pos hq]; omega
    · rw [if_neg hq, h i hi hq]; omega
  rw [e, sumZ_add, sumZ_pick hv fun i => f i - g i]

/-- the degree of a vertex, as an integer -/
def dgZ (E : List Ed) (v : Nat) : Int := (deg E v : Nat)
/-- the degrees in a class, among the first k vertices -/
def dTo (E : List Ed) (L : List Int) (x : Int) (k : Nat) : Int := sumZ k fun u => if nth L u = x then dgZ E u else 0
def dC (E : List Ed) (L : List Int) (x : Int) : Int := dTo E L x L.length
/-- the sum of the squares -/
def sqS (E : List Ed) (L : List Int) : Int := sumZ L.length fun u => dgZ E u * dC E L (nth L u)
/-- is an edge inside a class? -/
def inB (E : List Ed) (L : List Int) (i : Nat) : Bool := nth L (eAt E i).u.toNat == nth L (eAt E i).v.toNat
def inTo (E : List Ed) (L : List Int) (k : Nat) : Nat := ((List.range k).filter (inB E L)).length
def inN (E : List Ed) (L : List Int) : Nat := inTo E L E.length
/-- the numerator -/
def num (E : List Ed) (L : List Int) : Int := 4 * (E.length : Int) * (inN E L : Int) - sqS E L
/-- what a move adds -/
def gainZ (E : List Ed) (L : List Int) (v : Nat) (t : Int) : Int := num E (L.set v t) - num E L
/-- how many edges lead from a vertex to a class, among the first k of its edges -/
def cTo (E : List Ed) (L : List Int) (v : Nat) (x : Int) (k : Nat) : Nat := (((adj E v).take k).filter fun i => nth L (oth E (v : Int) i).toNat == x).length
def cN (E : List Ed) (L : List Int) (v : Nat) (x : Int) : Nat := cTo E L v x (adj E v).length

theorem dgZ_nonneg (E : List Ed) (v : Nat) : 0 ≤ dgZ E v := by unfold dgZ; omega
theorem dTo_succ (E : List Ed) (L : List Int) (x : Int) (k : Nat) : dTo E L x (k + 1) = dTo E L x k + if nth L k = x then dgZ E k else 0 := rfl
theorem dTo_nonneg (E : List Ed) (L : List Int) (x : Int) (k : Nat) : 0 ≤ dTo E L x k := sumZ_nonneg fun i _ => by
  have := dgZ_nonneg E i; split <;> omega
theorem preZ (E : List Ed) (k : Nat) : sumZ k (dgZ E) = (pre E k : Nat) := by
  induction k with
  | zero => rfl
  | succ k ih => simp only [sumZ, pre, ih]; unfold dgZ; omega
theorem dTo_le {n : Nat} {E : List Ed} (G : GOk n E) (L : List Int) (x : Int) {k : Nat} (hk : k ≤ n) : dTo E L x k ≤ 2 * (E.length : Int) := by
  have h1 : dTo E L x k ≤ sumZ k (dgZ E) := sumZ_le fun i _ => by have := dgZ_nonneg E i; split <;> omega
  have h2 := G.pre_le hk
  rw [preZ] at h1; omega
theorem nth_set {L : List Int} {v : Nat} (t : Int) (hv : v < L.length) (u : Nat) : nth (L.set v t) u = if u = v then t else nth L u := by
  unfold nth
  rw [List.getD_eq_getElem?_getD, List.getD_eq_getElem?_getD, List.getElem?_set]
  by_cases h : v = u
  · subst h; simp [hv]
  · rw [if_neg h, if_neg (fun e => h e.symm)]
theorem set_same {L : List Int} {v : Nat} (hv : v < L.length) : L.set v (nth L v) = L := by
  rw [nth_eq hv]; exact List.set_getElem_self hv
theorem dC_set {E : List Ed} {L : List Int} {v : Nat} {t : Int} (hv : v < L.length) (ht : t ≠ nth L v) (x : Int) :
    dC E (L.set v t) x = dC E L x + (if x = t then dgZ E v else 0) - (if x = nth L v then dgZ E v else 0) := by
  unfold dC dTo
  rw [List.length_set]
  rw [sumZ_swap1 (g := fun u => if nth L u = x then dgZ E u else 0) hv (fun i _ hi => by rw [nth_set t hv, if_neg hi])]
  rw [nth_set t hv, if_pos rfl]
  by_cases h1 : x = t
  · subst h1
    rw [if_pos rfl, if_neg (fun e => ht e.symm), if_neg ht]; omega
  · rw [if_neg (fun e => h1 e.symm), if_neg h1]
    by_cases h2 : x = nth L v
    · subst h2; rw [if_pos rfl]; omega
    · rw [if_neg (fun e => h2 e.symm), if_neg h2]; omega
theorem sqS_set {E : List Ed} {L : List Int} {v : Nat} {t : Int} (hv : v < L.length) (ht : t ≠ nth L v) :
    sqS E (L.set v t) = sqS E L + 2 * dgZ E v * (dC E L t - dC E L (nth L v) + dgZ E v) := by
  have e0 : sqS E (L.set v t) = sumZ L.length fun u => dgZ E u * dC E (L.set v t) (nth (L.set v t) u) := by unfold sqS; rw [List.length_set]
  rw [e0]
  -- the terms of the other vertices, and of this one
  rw [sumZ_swap1 (g := fun u => dgZ E u * dC E L (nth L u) + (dgZ E v * (if nth L u = t then dgZ E u else 0) - dgZ E v * (if nth L u = nth L v then dgZ E u else 0))) hv (fun i _ hi => by
    rw [nth_set t hv, if_neg hi, dC_set hv ht]
    by_cases h1 : nth L i = t
    · rw [if_pos h1, if_pos h1]
      by_cases h2 : nth L i = nth L v
      · exact absurd (h1.symm.trans h2) ht
      · rw [if_neg h2, if_neg h2, Int.mul_sub, Int.mul_add, Int.mul_comm (dgZ E v) (dgZ E i)]; simp
    · rw [if_neg h1, if_neg h1]
      by_cases h2 : nth L i = nth L v
      · rw [if_pos h2, if_pos h2, Int.mul_sub, Int.mul_add, Int.mul_comm (dgZ E v) (dgZ E i)]; simp; omega
      · rw [if_neg h2, if_neg h2]; simp)]
  rw [sumZ_add, sumZ_sub, sumZ_mul, sumZ_mul]
  have e1 : (sumZ L.length fun u => if nth L u = t then dgZ E u else 0) = dC E L t := rfl
  have e2 : (sumZ L.length fun u => if nth L u = nth L v then dgZ E u else 0) = dC E L (nth L v) := rfl
  have e3 : (sumZ L.length fun u => dgZ E u * dC E L (nth L u)) = sqS E L := rfl
  rw [e1, e2, e3, nth_set t hv, if_pos rfl, dC_set hv ht, if_pos rfl, if_neg ht, if_neg (fun e => ht e.symm), if_pos rfl]
  generalize dgZ E v = d
  generalize dC E L t = a
  generalize dC E L (nth L v) = b
  have : 2 * d * (a - b + d) = d * a + d * a - d * b - d * b + d * d + d * d := by
    rw [Int.mul_assoc, Int.two_mul, Int.mul_add, Int.mul_sub]; omega
  rw [this, Int.mul_sub, Int.mul_add]
  simp; omega

/-- how many of the first k edges lead from a vertex to a class -/
def cR (E : List Ed) (L : List Int) (v : Nat) (x : Int) (k : Nat) : Nat := ((List.range k).filter fun i => inc E v i && (nth L (oth E (v : Int) i).toNat == x)).length
theorem cR_all (E : List Ed) (L : List Int) (v : Nat) (x : Int) : cN E L v x = cR E L v x E.length := by
  unfold cN cTo cR adj adjTo
  rw [List.take_length, List.filter_filter]
  congr 2
  funext i
  rw [Bool.and_comm]
theorem filt_succ (q : Nat → Bool) (k : Nat) : ((List.range (k + 1)).filter q).length = ((List.range k).filter q).length + (q k).toNat := by
  rw [List.range_succ, List.filter_append, List.length_append, List.filter_cons, List.filter_nil]
  cases q k <;> simp
theorem inTo_set {n : Nat} {E : List Ed} (G : GOk n E) {L : List Int} {v : Nat} {t : Int} (hv : v < L.length) {k : Nat} (hk : k ≤ E.length) :
    inTo E (L.set v t) k + cR E L v (nth L v) k = inTo E L k + cR E L v t k := by
  induction k with
  | zero => rfl
  | succ k ih =>
    have ih := ih (by omega)
    unfold inTo cR at ih ⊢
    rw [filt_succ, filt_succ, filt_succ, filt_succ]
    obtain ⟨a, b, ha, hb, _, _, hab⟩ := G.nats (show k < E.length by omega)
    have e : (inB E (L.set v t) k).toNat + (inc E v k && (nth L (oth E (v : Int) k).toNat == nth L v)).toNat = (inB E L k).toNat + (inc E v k && (nth L (oth E (v : Int) k).toNat == t)).toNat := by
      unfold inB inc oth
      rw [ha, hb]
      simp only [Int.toNat_natCast]
      rw [nth_set t hv, nth_set t hv]
      by_cases h1 : a = v
      · subst h1
        have n1 : ¬ b = a := fun e => hab e.symm
        have n2 : ¬ ((b : Int) = (a : Int)) := by omega
        rw [if_pos rfl, if_neg n1, if_neg n2]
        simp [Bool.beq_comm (a := t)]
        rw [Bool.beq_comm (a := nth L b) (b := t), Bool.beq_comm (a := nth L b) (b := nth L a)]; omega
      · by_cases h2 : b = v
        · subst h2
          rw [if_neg h1, if_pos rfl, if_pos rfl]
          simp; omega
        · have n1 : ¬ ((a : Int) = (v : Int)) := by omega
          have n2 : ¬ ((b : Int) = (v : Int)) := by omega
          rw [if_neg h1, if_neg h2]
          simp [n1, n2]
    omega
/-- the gain as the program computes it -/
def worthZ (E : List Ed) (L : List Int) (v : Nat) (t : Int) : Int :=
  if t = nth L v then 0 else 4 * (E.length : Int) * ((cN E L v t : Int) - (cN E L v (nth L v) : Int)) - 2 * dgZ E v * (dC E L t - dC E L (nth L v) + dgZ E v)
theorem worth_gain {n : Nat} {E : List Ed} (G : GOk n E) {L : List Int} {v : Nat} (t : Int) (hv : v < L.length) : worthZ E L v t = gainZ E L v t := by
  unfold worthZ gainZ
  by_cases h : t = nth L v
  · rw [if_pos h, h, set_same hv]; omega
  · rw [if_neg h]
    unfold num
    rw [sqS_set hv h]
    have h2 : (inN E (L.set v t) : Int) = (inN E L : Int) + (cN E L v t : Int) - (cN E L v (nth L v) : Int) := by
      have := inTo_set G (t := t) hv (Nat.le_refl E.length)
      rw [cR_all, cR_all]; unfold inN; omega
    rw [h2, show (inN E L : Int) + (cN E L v t : Int) - (cN E L v (nth L v) : Int) = (inN E L : Int) + ((cN E L v t : Int) - (cN E L v (nth L v) : Int)) by omega, Int.mul_add (4 * (E.length : Int))]
    generalize 4 * (E.length : Int) * (inN E L : Int) = p
    generalize 4 * (E.length : Int) * ((cN E L v t : Int) - (cN E L v (nth L v) : Int)) = q
    generalize 2 * dgZ E v * (dC E L t - dC E L (nth L v) + dgZ E v) = r
    omega
/-! bounds -/
theorem inN_le (E : List Ed) (L : List Int) : inN E L ≤ E.length := by
  unfold inN inTo
  exact Nat.le_trans (List.length_filter_le _ _) (by simp)
theorem sqS_nonneg (E : List Ed) (L : List Int) : 0 ≤ sqS E L := sumZ_nonneg fun _ _ => Int.mul_nonneg (dgZ_nonneg _ _) (dTo_nonneg _ _ _ _)
theorem sqS_le {n : Nat} {E : List Ed} (G : GOk n E) {L : List Int} (hL : L.length = n) : sqS E L ≤ 2 * (E.length : Int) * (2 * (E.length : Int)) := by
  have h1 : sqS E L ≤ sumZ L.length fun u => (2 * (E.length : Int)) * dgZ E u := sumZ_le fun i _ => by
    rw [Int.mul_comm (2 * (E.length : Int))]
    exact Int.mul_le_mul_of_nonneg_left (dTo_le G L _ (by omega)) (dgZ_nonneg _ _)
  rw [sumZ_mul, preZ, hL, G.pre_n] at h1
  have : ((2 * E.length : Nat) : Int) = 2 * (E.length : Int) := by omega
  rw [this] at h1; exact h1
theorem num_hi (E : List Ed) (L : List Int) : num E L ≤ 4 * (E.length : Int) * (E.length : Int) := by
  have h1 := sqS_nonneg E L
  have h2 : 4 * (E.length : Int) * (inN E L : Int) ≤ 4 * (E.length : Int) * (E.length : Int) := Int.mul_le_mul_of_nonneg_left (by have := inN_le E L; omega) (by omega)
  unfold num; omega
theorem num_lo {n : Nat} {E : List Ed} (G : GOk n E) {L : List Int} (hL : L.length = n) : -(4 * (E.length : Int) * (E.length : Int)) ≤ num E L := by
  have h1 := sqS_le G hL
  have h2 : 0 ≤ 4 * (E.length : Int) * (inN E L : Int) := Int.mul_nonneg (by omega) (by omega)
  have h3 : 2 * (E.length : Int) * (2 * (E.length : Int)) = 4 * (E.length : Int) * (E.length : Int) := by
    rw [← Int.mul_assoc, Int.mul_right_comm 2 (E.length : Int) 2]; simp
  unfold num; omega
theorem mm_le {n : Nat} {E : List Ed} (G : GOk n E) : 4 * (E.length : Int) * (E.length : Int) ≤ 1073741824 := by
  have h := G.m_le
  have h1 : 4 * (E.length : Int) ≤ 65536 := by omega
  exact Int.le_trans (Int.mul_le_mul h1 (show (E.length : Int) ≤ 16384 by omega) (by omega) (by omega)) (by decide)
theorem cTo_le (E : List Ed) (L : List Int) (v : Nat) (x : Int) (k : Nat) : cTo E L v x k ≤ k := Nat.le_trans (List.length_filter_le _ _) (List.length_take_le _ _)
end Go.Proofs.Ytemcilmefknbbaa
