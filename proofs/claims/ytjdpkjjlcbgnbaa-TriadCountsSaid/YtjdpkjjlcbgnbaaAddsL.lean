/- The plain law of TriadAdds: a further edge. No conditions. -/
import Derived.Test.YtjdpkjjlcbgnbaaSimple
namespace Go.Proofs.Ytjdpkjjlcbgnbaa
open Go.RowKit Go.Shelf

/-- the graph with a further edge -/
def moreE (E : List Ed) (u v : Nat) : List Ed := E ++ [⟨u, v, 0⟩]
def dN (u v x y : Nat) : Nat := eN x u * eN y v + eN x v * eN y u
theorem eN_01 (x y : Nat) : (x = y ∧ eN x y = 1) ∨ (x ≠ y ∧ eN x y = 0) := by
  by_cases h : x = y
  · exact .inl ⟨h, by simp [eN, h]⟩
  · exact .inr ⟨h, by simp [eN, h]⟩
theorem near_more (E : List Ed) (u v : Nat) (x y : Int) : nearB (moreE E u v) x y = (nearB E x y || decide ((u : Int) = x ∧ (v : Int) = y ∨ (u : Int) = y ∧ (v : Int) = x)) := by
  simp [moreE, nearB, List.any_append]
theorem near_same {E : List Ed} {u v : Nat} (h : nearB E u v = true) (x y : Int) : nearB (moreE E u v) x y = nearB E x y := by
  rw [near_more]
  by_cases hd : ((u : Int) = x ∧ (v : Int) = y ∨ (u : Int) = y ∧ (v : Int) = x)
  · rw [decide_eq_true hd, Bool.or_true]
    rcases hd with ⟨rfl, rfl⟩ | ⟨rfl, rfl⟩
    · exact h.symm
    · rw [nearB_symm]; exact h.symm
  · rw [decide_eq_false hd, Bool.or_false]
theorem more_ok {k : Nat} {E : List Ed} {u v : Nat} (G : GOk k E) (hl : E.length ≤ 150) (hu : u < k) (hv : v < k) (hne : u ≠ v) : GOk k (moreE E u v) :=
  GOk.of_mem G.n_le (by simp [moreE]; omega) fun e he => by
    simp only [moreE, List.mem_append, List.mem_singleton] at he
    rcases he with he | rfl
    · obtain ⟨i, hi, rfl⟩ := List.mem_iff_getElem.1 he
      have := G.ends i hi
      rwa [eAt_eq hi] at this
    · exact ⟨by simp, by simp; omega, by simp, by simp; omega, by simp; omega⟩
theorem rN_more {E : List Ed} {u v : Nat} (hne : u ≠ v) (h : nearB E u v = false) (x y : Nat) : rN' (moreE E u v) x y = rN' E x y + dN u v x y := by
  unfold rN' dN
  rw [near_more]
  rcases eN_01 x u with ⟨a1, a2⟩ | ⟨a1, a2⟩ <;> rcases eN_01 y v with ⟨b1, b2⟩ | ⟨b1, b2⟩ <;> rcases eN_01 x v with ⟨c1, c2⟩ | ⟨c1, c2⟩ <;> rcases eN_01 y u with ⟨d1, d2⟩ | ⟨d1, d2⟩ <;> rw [a2, b2, c2, d2] <;>
    first
    | (exfalso; omega)
    | (rw [decide_eq_false (by omega), Bool.or_false]; simp; done)
    | (rw [decide_eq_false (by omega), Bool.or_false])
    | (subst a1; subst b1; rw [h]; simp)
    | (subst c1; subst d1; rw [nearB_symm, h]; simp)
theorem dN_two (u v x y z : Nat) : dN u v x y = 0 ∨ dN u v x z = 0 ∨ y = z := by
  unfold dN
  rcases eN_01 x u with ⟨a1, a2⟩ | ⟨a1, a2⟩ <;> rcases eN_01 y v with ⟨b1, b2⟩ | ⟨b1, b2⟩ <;> rcases eN_01 x v with ⟨c1, c2⟩ | ⟨c1, c2⟩ <;> rcases eN_01 y u with ⟨d1, d2⟩ | ⟨d1, d2⟩ <;> rcases eN_01 z u with ⟨e1, e2⟩ | ⟨e1, e2⟩ <;> rcases eN_01 z v with ⟨f1, f2⟩ | ⟨f1, f2⟩ <;> rw [a2, b2, c2, d2, e2, f2] <;> omega
theorem dN_symm (u v x y : Nat) : dN u v x y = dN u v y x := by unfold dN; rw [Nat.mul_comm (eN y u), Nat.mul_comm (eN y v), Nat.add_comm]
theorem dN_self (u v x : Nat) (hne : u ≠ v) : dN u v x x = 0 := by
  unfold dN
  rcases eN_01 x u with ⟨a1, a2⟩ | ⟨a1, a2⟩ <;> rcases eN_01 x v with ⟨c1, c2⟩ | ⟨c1, c2⟩ <;> rw [a2, c2] <;> omega
theorem fN_more {k : Nat} {E : List Ed} {u v : Nat} (G : GOk k E) (hne : u ≠ v) (h : nearB E u v = false) (a b c : Nat) :
    fN (moreE E u v) a b c = fN E a b c + (dN u v a b * (rN' E a c * rN' E b c) + dN u v a c * (rN' E a b * rN' E b c) + dN u v b c * (rN' E a b * rN' E a c)) := by
  unfold fN
  rw [rN_more hne h, rN_more hne h, rN_more hne h]
  have s1 := dN_two u v a b c
  have s2 := dN_two u v b a c
  have s3 := dN_two u v c a b
  rw [dN_symm u v b a] at s2
  rw [dN_symm u v c a, dN_symm u v c b] at s3
  have t1 : b = c → rN' E b c = 0 ∧ dN u v b c = 0 := fun e => by subst e; exact ⟨rN_self G _, dN_self u v _ hne⟩
  have t2 : a = c → rN' E a c = 0 ∧ dN u v a c = 0 := fun e => by subst e; exact ⟨rN_self G _, dN_self u v _ hne⟩
  have t3 : a = b → rN' E a b = 0 ∧ dN u v a b = 0 := fun e => by subst e; exact ⟨rN_self G _, dN_self u v _ hne⟩
  have q1 : dN u v a b = 0 ∨ dN u v a c = 0 ∨ (rN' E b c = 0 ∧ dN u v b c = 0) := s1.imp id (Or.imp id t1)
  have q2 : dN u v a b = 0 ∨ dN u v b c = 0 ∨ (rN' E a c = 0 ∧ dN u v a c = 0) := s2.imp id (Or.imp id t2)
  have q3 : dN u v a c = 0 ∨ dN u v b c = 0 ∨ (rN' E a b = 0 ∧ dN u v a b = 0) := s3.imp id (Or.imp id t3)
  clear s1 s2 s3 t1 t2 t3
  generalize dN u v a b = x1 at *; generalize dN u v a c = x2 at *; generalize dN u v b c = x3 at *
  generalize rN' E a b = y1 at *; generalize rN' E a c = y2 at *; generalize rN' E b c = y3 at *
  clear h G
  rcases q1 with rfl | rfl | ⟨rfl, rfl⟩
  · rcases q3 with rfl | rfl | ⟨rfl, _⟩
    · simp only [Nat.add_zero, Nat.zero_mul, Nat.mul_add]; ac_rfl
    · simp only [Nat.add_zero, Nat.zero_mul, Nat.mul_add, Nat.add_mul]; ac_rfl
    · simp
  · rcases q2 with rfl | rfl | ⟨rfl, _⟩
    · simp only [Nat.add_zero, Nat.zero_mul, Nat.mul_add]; ac_rfl
    · simp only [Nat.add_zero, Nat.zero_mul, Nat.add_mul]; ac_rfl
    · simp
  · simp
/-- the common neighbours of two vertices, counted -/
def cmN (k : Nat) (E : List Ed) (x y : Nat) : Nat := sumN k fun c => rN' E x c * rN' E y c
theorem cmN_symm (k : Nat) (E : List Ed) (x y : Nat) : cmN k E x y = cmN k E y x := sumN_congr fun _ _ => Nat.mul_comm _ _
theorem inner (k : Nat) (X : Nat → Nat → Nat) {u v : Nat} (hu : u < k) (hv : v < k) : sumN k (fun a => sumN k fun b => dN u v a b * X a b) = X u v + X v u := by
  have h1 : ∀ a, sumN k (fun b => dN u v a b * X a b) = eN a u * X a v + eN a v * X a u := fun a => by
    have e : ∀ b, b < k → dN u v a b * X a b = eN b v * (eN a u * X a b) + eN b u * (eN a v * X a b) := fun b _ => by
      unfold dN; rw [Nat.add_mul]; ac_rfl
    rw [sumN_congr e, sumN_add, sumN_pick, sumN_pick, if_pos hu, if_pos hv]
  rw [sumN_congr fun a _ => h1 a, sumN_add, sumN_pick, sumN_pick, if_pos hu, if_pos hv]
theorem part1 (k : Nat) (E : List Ed) {u v : Nat} (hu : u < k) (hv : v < k) : sum3 k (fun a b c => dN u v a b * (rN' E a c * rN' E b c)) = 2 * cmN k E u v := by
  unfold sum3
  have e : ∀ a b, sumN k (fun c => dN u v a b * (rN' E a c * rN' E b c)) = dN u v a b * cmN k E a b := fun a b => sumN_mul _ _ _
  rw [sumN_congr fun a _ => sumN_congr fun b _ => e a b, inner k (cmN k E) hu hv, cmN_symm k E v u, Nat.two_mul]
theorem part2 (k : Nat) (E : List Ed) {u v : Nat} (hu : u < k) (hv : v < k) : sum3 k (fun a b c => dN u v a c * (rN' E a b * rN' E b c)) = 2 * cmN k E u v := by
  rw [sum3_23, ← part1 k E hu hv]
  exact sum3_congr fun a b c => by rw [rN_symm E c b]
theorem part3 (k : Nat) (E : List Ed) {u v : Nat} (hu : u < k) (hv : v < k) : sum3 k (fun a b c => dN u v b c * (rN' E a b * rN' E a c)) = 2 * cmN k E u v := by
  rw [sum3_12, ← part2 k E hu hv]
  exact sum3_congr fun a b c => by rw [rN_symm E b a]
theorem tri_more {k : Nat} {E : List Ed} {u v : Nat} (G : GOk k E) (hl : E.length ≤ 150) (hu : u < k) (hv : v < k) (hne : u ≠ v) (h : nearB E u v = false) :
    (tri (some (k, moreE E u v))).length = (tri (some (k, E))).length + (inter (nbr (some (k, E)) u) (nbr (some (k, E)) v)).length := by
  have G2 := more_ok G hl hu hv hne
  rw [tri_sum G, tri_sum G2, inter_sum]
  have h6 := six G
  have h7 := six G2
  have hs : sum3 k (fN (moreE E u v)) = sum3 k (fN E) + 6 * cmN k E u v := by
    rw [sum3_congr (fun a b c => fN_more G hne h a b c), sum3_add, sum3_add, sum3_add, part1 k E hu hv, part2 k E hu hv, part3 k E hu hv]; omega
  have hc : sumN k (fun w => (nearB E u (w : Int) && nearB E v (w : Int)).toNat) = cmN k E u v := sumN_congr fun w _ => toNat_and _ _
  rw [hc]; omega
end Go.Proofs.Ytjdpkjjlcbgnbaa
