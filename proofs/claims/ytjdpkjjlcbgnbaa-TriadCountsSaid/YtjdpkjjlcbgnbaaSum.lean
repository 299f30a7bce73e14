/- Plain mathematics: sums over triangles: each triangle is counted at its three vertices; what a further edge adds. No conditions but that the graph is accepted. -/
import Derived.Test.YtjdpkjjlcbgnbaaQuery
namespace Go.Proofs.Ytjdpkjjlcbgnbaa

def sumN : Nat → (Nat → Nat) → Nat
  | 0, _ => 0
  | n + 1, f => sumN n f + f n
theorem sumN_congr {n : Nat} {f g : Nat → Nat} (h : ∀ i, i < n → f i = g i) : sumN n f = sumN n g := by
  induction n with
  | zero => rfl
  | succ n ih => simp only [sumN]; rw [ih fun i hi => h i (by omega), h n (by omega)]
theorem sumN_add (n : Nat) (f g : Nat → Nat) : sumN n (fun i => f i + g i) = sumN n f + sumN n g := by
  induction n with
  | zero => rfl
  | succ n ih => simp only [sumN, ih]; omega
theorem sumN_mul (n c : Nat) (f : Nat → Nat) : sumN n (fun i => c * f i) = c * sumN n f := by
  induction n with
  | zero => simp [sumN]
  | succ n ih => simp only [sumN, ih, Nat.mul_add]
theorem sumN_zero (n : Nat) : sumN n (fun _ => 0) = 0 := by
  induction n with
  | zero => rfl
  | succ n ih => simp only [sumN, ih]
theorem sumN_swap (n m : Nat) (f : Nat → Nat → Nat) : sumN n (fun i => sumN m (fun j => f i j)) = sumN m (fun j => sumN n (fun i => f i j)) := by
  induction n with
  | zero => simp only [sumN, sumN_zero]
  | succ n ih => simp only [sumN, ih, sumN_add]
theorem sumN_len (n : Nat) (q : Nat → Bool) : ((List.range n).filter q).length = sumN n (fun i => (q i).toNat) := by
  induction n with
  | zero => rfl
  | succ n ih =>
    rw [List.range_succ, List.filter_append, List.length_append, ih]
    simp only [sumN, List.filter_cons, List.filter_nil]
    cases q n <;> simp
theorem sumN_map (n : Nat) (q : Nat → Bool) (g : Nat → Nat) : (((List.range n).filter q).map g).sum = sumN n (fun i => (q i).toNat * g i) := by
  induction n with
  | zero => rfl
  | succ n ih =>
    rw [List.range_succ, List.filter_append, List.map_append, List.sum_append, ih]
    simp only [sumN, List.filter_cons, List.filter_nil]
    cases q n <;> simp
/-- one if they are equal -/
def eN (x y : Nat) : Nat := (decide (x = y)).toNat
def ltN (x y : Nat) : Nat := (decide (x < y)).toNat
theorem sumN_pick (n v : Nat) (g : Nat → Nat) : sumN n (fun i => eN i v * g i) = if v < n then g v else 0 := by
  induction n with
  | zero => simp [sumN]
  | succ n ih =>
    simp only [sumN, ih]
    by_cases h : n = v
    · subst h; simp [eN]
    · have e : eN n v = 0 := by simp [eN, h]
      rw [e]
      by_cases h2 : v < n
      · rw [if_pos h2, if_pos (by omega)]; omega
      · rw [if_neg h2, if_neg (by omega)]; omega

/-- are two vertices joined: one or zero -/
def rN' (E : List Ed) (x y : Nat) : Nat := (nearB E (x : Int) (y : Int)).toNat
def fN (E : List Ed) (a b c : Nat) : Nat := rN' E a b * rN' E a c * rN' E b c
theorem rN_symm (E : List Ed) (x y : Nat) : rN' E x y = rN' E y x := by unfold rN'; rw [nearB_symm]
theorem rN_self {n : Nat} {E : List Ed} (G : GOk n E) (x : Nat) : rN' E x x = 0 := by
  have : nearB E (x : Int) (x : Int) = false := by
    cases h : nearB E (x : Int) (x : Int) with
    | false => rfl
    | true => have := (G.near h).2.2.2.2; omega
  simp [rN', this]
theorem rN_01 (E : List Ed) (x y : Nat) : rN' E x y = 0 ∨ rN' E x y = 1 := by unfold rN'; cases nearB E (x : Int) (y : Int) <;> simp
theorem fN_12 (E : List Ed) (a b c : Nat) : fN E a b c = fN E b a c := by
  unfold fN; rw [rN_symm E b a, Nat.mul_right_comm (rN' E a b) (rN' E b c)]
theorem fN_23 (E : List Ed) (a b c : Nat) : fN E a b c = fN E a c b := by
  unfold fN; rw [rN_symm E c b, Nat.mul_comm (rN' E a b) (rN' E a c)]
/-- the sum over three vertices -/
def sum3 (n : Nat) (g : Nat → Nat → Nat → Nat) : Nat := sumN n fun a => sumN n fun b => sumN n fun c => g a b c
theorem sum3_congr {n : Nat} {g h : Nat → Nat → Nat → Nat} (e : ∀ a b c, g a b c = h a b c) : sum3 n g = sum3 n h := by
  have : g = h := funext fun a => funext fun b => funext fun c => e a b c
  rw [this]
theorem sum3_add (n : Nat) (g h : Nat → Nat → Nat → Nat) : sum3 n (fun a b c => g a b c + h a b c) = sum3 n g + sum3 n h := by
  simp only [sum3, sumN_add]
theorem sum3_12 (n : Nat) (g : Nat → Nat → Nat → Nat) : sum3 n g = sum3 n (fun a b c => g b a c) := by
  unfold sum3; exact sumN_swap n n fun a b => sumN n fun c => g a b c
theorem sum3_23 (n : Nat) (g : Nat → Nat → Nat → Nat) : sum3 n g = sum3 n (fun a b c => g a c b) := by
  unfold sum3; exact sumN_congr fun a _ => sumN_swap n n fun b c => g a b c
def gN3 (E : List Ed) (a b c : Nat) : Nat := ltN a b * ltN b c * fN E a b c
theorem fN_ne {n : Nat} {E : List Ed} (G : GOk n E) {a b c : Nat} (h : a = b ∨ a = c ∨ b = c) : fN E a b c = 0 := by
  unfold fN
  rcases h with rfl | rfl | rfl <;> simp [rN_self G]
theorem three {n : Nat} {E : List Ed} (G : GOk n E) (v u w : Nat) : ltN u w * fN E v u w = gN3 E v u w + (gN3 E u v w + gN3 E u w v) := by
  unfold gN3
  rw [fN_12 E u v w, fN_23 E u w v, fN_12 E u v w]
  by_cases h : v = u ∨ v = w ∨ u = w
  · rw [fN_ne G h]; simp
  · have h1 : v ≠ u := fun e => h (.inl e)
    have h2 : v ≠ w := fun e => h (.inr (.inl e))
    have h3 : u ≠ w := fun e => h (.inr (.inr e))
    unfold ltN
    by_cases c1 : u < w
    · by_cases c2 : v < u
      · have d1 : ¬ u < v := by omega
        have d2 : ¬ w < v := by omega
        simp [c1, c2, d1, d2]
      · have d1 : u < v := by omega
        by_cases c3 : v < w
        · have d2 : ¬ w < v := by omega
          simp [c1, c2, c3, d1, d2]
        · have d2 : w < v := by omega
          simp [c1, c2, c3, d1, d2]
    · have d : ¬ (u < v ∧ v < w) := by omega
      by_cases c2 : u < v
      · have c3 : ¬ v < w := fun h => d ⟨c2, h⟩
        simp [c1, c3]
      · simp [c1, c2]
/-- the triangles at a vertex -/
def T3 (n : Nat) (E : List Ed) (v : Nat) : Nat := sumN n fun u => sumN n fun w => ltN u w * fN E v u w
theorem T3_sum {n : Nat} {E : List Ed} (G : GOk n E) : sumN n (T3 n E) = 3 * sum3 n (gN3 E) := by
  have e : sumN n (T3 n E) = sum3 n (fun v u w => gN3 E v u w + (gN3 E u v w + gN3 E u w v)) := by
    unfold sum3 T3
    exact sumN_congr fun v _ => sumN_congr fun u _ => sumN_congr fun w _ => three G v u w
  have e2 : sum3 n (fun v u w => gN3 E u v w) = sum3 n (gN3 E) := (sum3_12 n (gN3 E)).symm
  have e3 : sum3 n (fun v u w => gN3 E u w v) = sum3 n (gN3 E) := by
    rw [sum3_12 n (fun v u w => gN3 E u w v), sum3_23 n (fun u v w => gN3 E u w v)]
  rw [e, sum3_add, sum3_add, e2, e3]; omega
theorem half (n : Nat) (h : Nat → Nat → Nat) (hs : ∀ u w, h u w = h w u) (h0 : ∀ u, h u u = 0) : sumN n (fun u => sumN n fun w => h u w) = 2 * sumN n (fun u => sumN n fun w => ltN u w * h u w) := by
  have e : ∀ u w, h u w = ltN u w * h u w + ltN w u * h w u := fun u w => by
    unfold ltN
    rcases Nat.lt_trichotomy u w with c | c | c
    · have : ¬ w < u := by omega
      simp [c, this]
    · subst c; simp [h0]
    · have : ¬ u < w := by omega
      simp [c, this, hs u w]
  have e2 : sumN n (fun u => sumN n fun w => h u w) = sumN n (fun u => sumN n fun w => ltN u w * h u w) + sumN n (fun u => sumN n fun w => ltN w u * h w u) := by
    rw [← sumN_add]
    exact sumN_congr fun u _ => by rw [← sumN_add]; exact sumN_congr fun w _ => e u w
  rw [e2, sumN_swap n n fun u w => ltN w u * h w u]; omega
theorem T3_double {n : Nat} {E : List Ed} (G : GOk n E) (v : Nat) : sumN n (fun u => sumN n fun w => fN E v u w) = 2 * T3 n E v :=
  half n (fun u w => fN E v u w) (fun u w => fN_23 E v u w) (fun _ => fN_ne G (.inr (.inr rfl)))
theorem six {n : Nat} {E : List Ed} (G : GOk n E) : sum3 n (fN E) = 6 * sum3 n (gN3 E) := by
  have e : sum3 n (fN E) = sumN n (fun v => 2 * T3 n E v) := by
    unfold sum3
    exact sumN_congr fun v _ => T3_double G v
  have e2 : sumN n (fun v => 2 * T3 n E v) = 2 * sumN n (T3 n E) := sumN_mul n 2 _
  rw [e, e2, T3_sum G]; omega

/-! the program's lists as sums -/
theorem hasB_iff {l : List Int} {x : Int} : hasB l x = true ↔ x ∈ l := by simp [hasB]
theorem inter_sum (n : Nat) (E : List Ed) (x y : Int) : (inter (nbr (some (n, E)) x) (nbr (some (n, E)) y)).length = sumN n (fun w => (nearB E x (w : Int) && nearB E y (w : Int)).toNat) := by
  have e : inter (nbr (some (n, E)) x) (nbr (some (n, E)) y) = ((List.range n).filter fun (w : Nat) => nearB E x (w : Int) && nearB E y (w : Int)).map fun (w : Nat) => (w : Int) := by
    refine sorted_ext (inter_sorted (nbr_sorted _ _)) (List.pairwise_map.2 (((range_lt n).filter _).imp fun h => by omega)) fun z => ?_
    rw [mem_inter, mem_nbr, mem_nbr]
    simp only [List.mem_map, List.mem_filter, List.mem_range, Bool.and_eq_true]
    constructor
    · rintro ⟨⟨h1, h2, h3⟩, _, _, h4⟩
      have h2' : z < (n : Int) := h2
      exact ⟨z.toNat, ⟨by omega, by rw [Int.toNat_of_nonneg h1]; exact h3, by rw [Int.toNat_of_nonneg h1]; exact h4⟩, Int.toNat_of_nonneg h1⟩
    · rintro ⟨w, ⟨h1, h2, h3⟩, rfl⟩
      have h1' : ((w : Nat) : Int) < ((n : Nat) : Int) := by omega
      exact ⟨⟨by omega, h1', h2⟩, by omega, h1', h3⟩
  rw [e, List.length_map, sumN_len]
theorem toNat_and (a b : Bool) : (a && b).toNat = a.toNat * b.toNat := by cases a <;> cases b <;> rfl
theorem atS_sum (n : Nat) (E : List Ed) (v : Nat) : atS (some (n, E)) (v : Int) = sumN n (fun u => sumN n fun w => fN E v u w) := by
  unfold atS atTo
  rw [List.take_length]
  have e : ((nbr (some (n, E)) (v : Int)).map fun u => (inter (nbr (some (n, E)) (v : Int)) (nbr (some (n, E)) u)).length) = ((List.range n).filter fun (y : Nat) => nearB E (v : Int) (y : Int)).map fun (y : Nat) => (inter (nbr (some (n, E)) (v : Int)) (nbr (some (n, E)) (y : Int))).length := by
    rw [show nbr (some (n, E)) (v : Int) = ((List.range n).filter fun (y : Nat) => nearB E (v : Int) (y : Int)).map fun (y : Nat) => (y : Int) from rfl, List.map_map]
    rfl
  rw [e, sumN_map]
  refine sumN_congr fun u _ => ?_
  rw [inter_sum, ← sumN_mul]
  refine sumN_congr fun w _ => ?_
  rw [toNat_and]
  show rN' E v u * (rN' E v w * rN' E u w) = _
  unfold fN; rw [Nat.mul_assoc]
theorem at_half {n : Nat} {E : List Ed} (G : GOk n E) (v : Nat) : ((atS (some (n, E)) (v : Int) : Nat) : Int) / 2 = (T3 n E v : Nat) := by
  rw [atS_sum, T3_double G]; omega
theorem lat_eq {n : Nat} {E : List Ed} (G : GOk n E) (u : Nat) : lat (some (n, E)) (u : Int) = ((List.range n).filter fun (y : Nat) => decide (u < y) && nearB E (u : Int) (y : Int)).map fun (y : Nat) => (y : Int) := by
  refine sorted_ext (lat_sorted _ _) (List.pairwise_map.2 (((range_lt n).filter _).imp fun h => by omega)) fun z => ?_
  rw [mem_lat (show GoG (some (n, E)) from G)]
  simp only [List.mem_map, List.mem_filter, List.mem_range, Bool.and_eq_true, decide_eq_true_eq]
  constructor
  · rintro ⟨h1, h2, h3⟩
    have h2' : z < (n : Int) := h2
    have h0 : 0 ≤ z := by omega
    exact ⟨z.toNat, ⟨by omega, by omega, by rw [Int.toNat_of_nonneg h0]; exact h3⟩, Int.toNat_of_nonneg h0⟩
  · rintro ⟨w, ⟨h1, h2, h3⟩, rfl⟩
    exact ⟨by omega, show ((w : Nat) : Int) < ((n : Nat) : Int) by omega, h3⟩
theorem latter_sum {n : Nat} {E : List Ed} (G : GOk n E) (u v : Nat) : (inter (lat (some (n, E)) (u : Int)) (lat (some (n, E)) (v : Int))).length = sumN n (fun w => (ltN u w * rN' E u w) * (ltN v w * rN' E v w)) := by
  have e : inter (lat (some (n, E)) (u : Int)) (lat (some (n, E)) (v : Int)) = ((List.range n).filter fun (w : Nat) => (decide (u < w) && nearB E (u : Int) (w : Int)) && (decide (v < w) && nearB E (v : Int) (w : Int))).map fun (w : Nat) => (w : Int) := by
    refine sorted_ext (inter_sorted (lat_sorted _ _)) (List.pairwise_map.2 (((range_lt n).filter _).imp fun h => by omega)) fun z => ?_
    rw [mem_inter, mem_lat (show GoG (some (n, E)) from G), mem_lat (show GoG (some (n, E)) from G)]
    simp only [List.mem_map, List.mem_filter, List.mem_range, Bool.and_eq_true, decide_eq_true_eq]
    constructor
    · rintro ⟨⟨h1, h2, h3⟩, h4, _, h5⟩
      have h2' : z < (n : Int) := h2
      have h0 : 0 ≤ z := by omega
      exact ⟨z.toNat, ⟨by omega, ⟨by omega, by rw [Int.toNat_of_nonneg h0]; exact h3⟩, by omega, by rw [Int.toNat_of_nonneg h0]; exact h5⟩, Int.toNat_of_nonneg h0⟩
    · rintro ⟨w, ⟨h1, ⟨h2, h3⟩, h4, h5⟩, rfl⟩
      have h1' : ((w : Nat) : Int) < ((n : Nat) : Int) := by omega
      exact ⟨⟨by omega, h1', h3⟩, by omega, h1', h5⟩
  rw [e, List.length_map, sumN_len]
  exact sumN_congr fun w _ => by rw [toNat_and, toNat_and, toNat_and]; rfl
theorem flatMap_len {α β : Type} (l : List α) (f : α → List β) : (l.flatMap f).length = (l.map fun x => (f x).length).sum := by
  induction l with
  | nil => rfl
  | cons x r ih => simp [List.flatMap_cons, ih]
theorem tri_sum {n : Nat} {E : List Ed} (G : GOk n E) : (tri (some (n, E))).length = sum3 n (gN3 E) := by
  have e0 : (tri (some (n, E))).length = sumN n (fun u => (triV (some (n, E)) (u : Int) (lat (some (n, E)) (u : Int)).length).length) := by
    show (triU (some (n, E)) n).length = _
    generalize hk : n = k at *
    subst hk
    have : ∀ k, (triU (some (n, E)) k).length = sumN k (fun u => (triV (some (n, E)) (u : Int) (lat (some (n, E)) (u : Int)).length).length) := fun k => by
      induction k with
      | zero => rfl
      | succ k ih => rw [triU_succ, List.length_append, ih]; rfl
    exact this n
  rw [e0]
  refine sumN_congr fun u _ => ?_
  unfold triV
  rw [List.take_length, flatMap_len]
  have e1 : ((lat (some (n, E)) (u : Int)).map fun x => (triW (some (n, E)) (u : Int) x).length) = ((List.range n).filter fun (y : Nat) => decide (u < y) && nearB E (u : Int) (y : Int)).map fun (y : Nat) => (inter (lat (some (n, E)) (u : Int)) (lat (some (n, E)) (y : Int))).length := by
    conv => lhs; rw [lat_eq G u]
    rw [List.map_map]
    exact List.map_congr_left fun y _ => triW_len _ _ _
  rw [e1, sumN_map]
  refine sumN_congr fun v _ => ?_
  rw [latter_sum G, ← sumN_mul]
  refine sumN_congr fun w _ => ?_
  rw [toNat_and]
  show ltN u v * rN' E u v * ((ltN u w * rN' E u w) * (ltN v w * rN' E v w)) = ltN u v * ltN v w * (rN' E u v * rN' E u w * rN' E v w)
  by_cases c1 : u < v
  · by_cases c2 : v < w
    · have c3 : u < w := by omega
      simp [ltN, c1, c2, c3, Nat.mul_assoc]
    · simp [ltN, c2]
  · simp [ltN, c1]
theorem tri_thrice {n : Nat} {E : List Ed} (G : GOk n E) : sumN n (T3 n E) = 3 * (tri (some (n, E))).length := by rw [tri_sum G, T3_sum G]
end Go.Proofs.Ytjdpkjjlcbgnbaa
