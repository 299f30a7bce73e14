/- The document's list of the triangles, as a list: it is the program's. No conditions. -/
import Derived.Test.YtjdpkjjlcbgnbaaMatW
import Derived.Test.YtjdpkjjlcbgnbaaOrderL
namespace Go.Proofs.Ytjdpkjjlcbgnbaa
open Go.RowKit Go.Shelf

def nb (E : List Ed) (x y : Nat) : Bool := nearB E (x : Int) (y : Int)
def rC (E : List Ed) (a b c : Nat) : List (Int × Int × Int) := ((List.range c).filter fun z => decide (b < z) && (nb E a z && nb E b z)).map fun (z : Nat) => ((a : Int), (b : Int), (z : Int))
def rB (E : List Ed) (n a b : Nat) : List (Int × Int × Int) := (List.range b).flatMap fun y => if decide (a < y) && nb E a y then rC E a y n else []
def rA (E : List Ed) (n a : Nat) : List (Int × Int × Int) := (List.range a).flatMap fun x => rB E n x n
theorem rC_start (E : List Ed) (a b : Nat) : rC E a b (b + 1) = [] := by
  unfold rC
  rw [List.map_eq_nil_iff, List.filter_eq_nil_iff]
  intro z hz
  have := List.mem_range.1 hz
  rw [decide_eq_false (by omega)]; simp
theorem rC_succ (E : List Ed) (a b c : Nat) (h : b < c) : rC E a b (c + 1) = if nb E a c && nb E b c then rC E a b c ++ [((a : Int), (b : Int), (c : Int))] else rC E a b c := by
  unfold rC
  rw [List.range_succ, List.filter_append, List.map_append]
  by_cases hq : (nb E a c && nb E b c) = true
  · rw [if_pos hq]; simp [h, hq]
  · rw [if_neg hq]; simp [h, hq]
theorem rB_start (E : List Ed) (n a : Nat) : rB E n a (a + 1) = [] := by
  unfold rB
  rw [List.flatMap_eq_nil_iff]
  intro z hz
  have := List.mem_range.1 hz
  rw [decide_eq_false (by omega)]; rfl
theorem rB_succ (E : List Ed) (n a b : Nat) (h : a < b) : rB E n a (b + 1) = if nb E a b then rB E n a b ++ rC E a b n else rB E n a b := by
  unfold rB
  rw [List.range_succ, List.flatMap_append]
  by_cases hq : nb E a b = true
  · rw [if_pos hq]; simp [h, hq]
  · rw [if_neg hq]; simp [hq]
theorem rA_succ (E : List Ed) (n a : Nat) : rA E n (a + 1) = rA E n a ++ rB E n a n := by
  unfold rA
  rw [List.range_succ, List.flatMap_append]; simp
theorem lex_ext {a b : List (Int × Int × Int)} (ha : a.Pairwise lexL) (hb : b.Pairwise lexL) (h : ∀ x, x ∈ a ↔ x ∈ b) : a = b := by
  have irr : ∀ x, ¬ lexL x x := fun x hx => by unfold lexL at hx; omega
  have nd : ∀ {l : List (Int × Int × Int)}, l.Pairwise lexL → l.Nodup := fun {l} hl => List.Pairwise.imp (fun {x y} (hxy : lexL x y) => (fun e => irr y (by rw [e] at hxy; exact hxy) : x ≠ y)) hl
  exact List.Perm.eq_of_pairwise (le := lexL) (fun x y _ _ h1 h2 => by unfold lexL at h1 h2; omega) ha hb ((List.perm_ext_iff_of_nodup (nd ha) (nd hb)).2 h)
theorem mem_rC {E : List Ed} {a b c : Nat} {t : Int × Int × Int} : t ∈ rC E a b c ↔ ∃ z : Nat, z < c ∧ b < z ∧ nb E a z = true ∧ nb E b z = true ∧ t = ((a : Int), (b : Int), (z : Int)) := by
  unfold rC
  simp only [List.mem_map, List.mem_filter, List.mem_range, Bool.and_eq_true, decide_eq_true_eq]
  constructor
  · rintro ⟨z, ⟨h1, h2, h3, h4⟩, rfl⟩; exact ⟨z, h1, h2, h3, h4, rfl⟩
  · rintro ⟨z, h1, h2, h3, h4, rfl⟩; exact ⟨z, ⟨h1, h2, h3, h4⟩, rfl⟩
theorem mem_rB {E : List Ed} {n a b : Nat} {t : Int × Int × Int} : t ∈ rB E n a b ↔ ∃ y : Nat, y < b ∧ a < y ∧ nb E a y = true ∧ t ∈ rC E a y n := by
  unfold rB
  simp only [List.mem_flatMap, List.mem_range]
  constructor
  · rintro ⟨y, h1, h2⟩
    by_cases hq : (decide (a < y) && nb E a y) = true
    · rw [if_pos hq] at h2
      simp only [Bool.and_eq_true, decide_eq_true_eq] at hq
      exact ⟨y, h1, hq.1, hq.2, h2⟩
    · rw [if_neg hq] at h2; cases h2
  · rintro ⟨y, h1, h2, h3, h4⟩
    exact ⟨y, h1, by rw [if_pos (by simp [h2, h3])]; exact h4⟩
theorem mem_rA {E : List Ed} {n a : Nat} {t : Int × Int × Int} : t ∈ rA E n a ↔ ∃ x : Nat, x < a ∧ t ∈ rB E n x n := by
  unfold rA
  simp only [List.mem_flatMap, List.mem_range]
theorem rA_lex (E : List Ed) (n : Nat) : (rA E n n).Pairwise lexL := by
  unfold rA
  rw [List.pairwise_flatMap]
  refine ⟨fun a _ => ?_, (range_lt _).imp fun {a b} hab x hx y hy => ?_⟩
  · unfold rB
    rw [List.pairwise_flatMap]
    refine ⟨fun b _ => ?_, (range_lt _).imp fun {b c} hbc x hx y hy => ?_⟩
    · split
      · unfold rC
        rw [List.pairwise_map]
        exact ((range_lt n).filter _).imp fun hab => .inr ⟨rfl, .inr ⟨rfl, by simp only; omega⟩⟩
      · exact List.Pairwise.nil
    · split at hx
      · split at hy
        · obtain ⟨z, _, _, _, _, rfl⟩ := mem_rC.1 hx
          obtain ⟨z', _, _, _, _, rfl⟩ := mem_rC.1 hy
          exact .inr ⟨rfl, .inl (by simp only; omega)⟩
        · cases hy
      · cases hx
  · obtain ⟨_, _, _, _, hx⟩ := mem_rB.1 hx
    obtain ⟨_, _, _, _, hy⟩ := mem_rB.1 hy
    obtain ⟨z, _, _, _, _, rfl⟩ := mem_rC.1 hx
    obtain ⟨z', _, _, _, _, rfl⟩ := mem_rC.1 hy
    exact .inl (by simp only; omega)
theorem rA_tri {n : Nat} {E : List Ed} (G : GOk n E) : rA E n n = tri (some (n, E)) := by
  have hg : GoG (some (n, E)) := G
  refine lex_ext (rA_lex E n) (tri_lex _) fun t => ?_
  constructor
  · intro h
    obtain ⟨x, hx, h⟩ := mem_rA.1 h
    obtain ⟨y, hy, hxy, h1, h⟩ := mem_rB.1 h
    obtain ⟨z, hz, hyz, h2, h3, rfl⟩ := mem_rC.1 h
    have m1 : (y : Int) ∈ lat (some (n, E)) (x : Int) := (mem_lat hg).2 ⟨by omega, by show (y : Int) < (n : Int); omega, h1⟩
    have m2 : (z : Int) ∈ lat (some (n, E)) (x : Int) := (mem_lat hg).2 ⟨by omega, by show (z : Int) < (n : Int); omega, h2⟩
    have m3 : (z : Int) ∈ lat (some (n, E)) (y : Int) := (mem_lat hg).2 ⟨by omega, by show (z : Int) < (n : Int); omega, h3⟩
    refine List.mem_flatMap.2 ⟨x, List.mem_range.2 hx, ?_⟩
    refine List.mem_flatMap.2 ⟨(y : Int), by rw [List.take_length]; exact m1, ?_⟩
    exact List.mem_map.2 ⟨(z : Int), mem_inter.2 ⟨m2, m3⟩, rfl⟩
  · intro h
    obtain ⟨q1, q2, q3, q4, q5, q6, q7⟩ := mem_tri hg h
    obtain ⟨t1, t2, t3⟩ := t
    simp only at q1 q2 q3 q4 q5 q6 q7
    have q4' : t3 < (n : Int) := q4
    obtain ⟨x, rfl⟩ : ∃ x : Nat, t1 = x := ⟨t1.toNat, by omega⟩
    obtain ⟨y, rfl⟩ : ∃ x : Nat, t2 = x := ⟨t2.toNat, by omega⟩
    obtain ⟨z, rfl⟩ : ∃ x : Nat, t3 = x := ⟨t3.toNat, by omega⟩
    exact mem_rA.2 ⟨x, by omega, mem_rB.2 ⟨y, by omega, by omega, q5, mem_rC.2 ⟨z, by omega, by omega, q6, q7, rfl⟩⟩⟩
end Go.Proofs.Ytjdpkjjlcbgnbaa
