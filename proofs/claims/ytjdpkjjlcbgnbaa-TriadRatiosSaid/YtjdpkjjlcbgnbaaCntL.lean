/- Plain mathematics: how many triangles a vertex belongs to, counted in the list of all triangles. Conditions: the graph is accepted. -/
import Derived.Test.YtjdpkjjlcbgnbaaAllW
namespace Go.Proofs.Ytjdpkjjlcbgnbaa

def hasV (v : Int) (t : Int × Int × Int) : Bool := t.1 == v || t.2.1 == v || t.2.2 == v
def cntTo (l : List (Int × Int × Int)) (v : Int) (k : Nat) : Nat := ((l.take k).filter (hasV v)).length
theorem cntTo_le (l : List (Int × Int × Int)) (v : Int) (k : Nat) : cntTo l v k ≤ k :=
  Nat.le_trans (List.length_filter_le _ _) (List.length_take_le _ _)
theorem tAt_eq {l : List (Int × Int × Int)} {k : Nat} (hk : k < l.length) : tAt l k = l[k] := by
  unfold tAt; rw [List.getD_eq_getElem?_getD, List.getElem?_eq_getElem hk]; rfl
theorem cntTo_succ {l : List (Int × Int × Int)} {k : Nat} (v : Int) (hk : k < l.length) : cntTo l v (k + 1) = cntTo l v k + (hasV v (tAt l k)).toNat := by
  unfold cntTo
  rw [tAt_eq hk, List.take_succ_eq_append_getElem hk, List.filter_append, List.length_append, List.filter_cons, List.filter_nil]
  cases hasV v l[k] <;> simp
theorem cntTo_all (l : List (Int × Int × Int)) (v : Int) : cntTo l v l.length = (l.filter (hasV v)).length := by
  unfold cntTo; rw [List.take_length]

theorem filter_flatMap_len {α β : Type} (l : List α) (f : α → List β) (q : β → Bool) : ((l.flatMap f).filter q).length = (l.map fun x => ((f x).filter q).length).sum := by
  induction l with
  | nil => rfl
  | cons x r ih => simp [List.flatMap_cons, List.filter_append, ih]
theorem sum_range (n : Nat) (g : Nat → Nat) : ((List.range n).map g).sum = sumN n g := by
  induction n with
  | zero => rfl
  | succ n ih => rw [List.range_succ, List.map_append, List.sum_append, ih]; simp [sumN]
def qN (v : Int) (a b c : Nat) : Nat := (hasV v ((a : Int), (b : Int), (c : Int))).toNat
theorem rC_cnt (E : List Ed) (v : Int) (a b n : Nat) : ((rC E a b n).filter (hasV v)).length = sumN n fun c => ltN b c * (rN' E a c * rN' E b c) * qN v a b c := by
  unfold rC
  rw [List.filter_map, List.length_map, List.filter_filter, sumN_len]
  refine sumN_congr fun c _ => ?_
  rw [toNat_and, toNat_and, toNat_and, Nat.mul_comm]
  rfl
theorem rB_cnt (E : List Ed) (v : Int) (a n : Nat) : ((rB E n a n).filter (hasV v)).length = sumN n fun b => sumN n fun c => gN3 E a b c * qN v a b c := by
  unfold rB
  rw [filter_flatMap_len, sum_range]
  refine sumN_congr fun b _ => ?_
  by_cases hq : (decide (a < b) && nb E a b) = true
  · rw [if_pos hq, rC_cnt]
    simp only [Bool.and_eq_true, decide_eq_true_eq] at hq
    refine sumN_congr fun c _ => ?_
    have e1 : ltN a b = 1 := by simp [ltN, hq.1]
    have e2 : rN' E a b = 1 := by have : nearB E (a : Int) (b : Int) = true := hq.2; simp [rN', this]
    unfold gN3 fN
    rw [e1, e2]; simp
  · rw [if_neg hq]
    have e0 : ltN a b * rN' E a b = 0 := by
      have : (decide (a < b) && nb E a b) = false := by simpa using hq
      have h2 : (decide (a < b) && nb E a b).toNat = 0 := by rw [this]; rfl
      rw [toNat_and] at h2; exact h2
    have : (sumN n fun c => gN3 E a b c * qN v a b c) = sumN n fun _ => 0 := sumN_congr fun c _ => by
      unfold gN3 fN
      have : ltN a b * ltN b c * (rN' E a b * rN' E a c * rN' E b c) = (ltN a b * rN' E a b) * (ltN b c * rN' E a c * rN' E b c) := by
        ac_rfl
      rw [this, e0]; simp
    rw [this, sumN_zero]; rfl
theorem rA_cnt (E : List Ed) (v : Int) (n : Nat) : ((rA E n n).filter (hasV v)).length = sum3 n fun a b c => gN3 E a b c * qN v a b c := by
  unfold rA
  rw [filter_flatMap_len, sum_range]
  exact sumN_congr fun a _ => rB_cnt E v a n
theorem qN_three {E : List Ed} (v a b c : Nat) : gN3 E a b c * qN (v : Int) a b c = eN a v * gN3 E a b c + (eN b v * gN3 E a b c + eN c v * gN3 E a b c) := by
  by_cases h : a < b ∧ b < c
  · obtain ⟨h1, h2⟩ := h
    have q : qN (v : Int) a b c = eN a v + (eN b v + eN c v) := by
      unfold qN hasV eN
      by_cases e1 : a = v
      · have n2 : ¬ b = v := by omega
        have n3 : ¬ c = v := by omega
        simp [e1, n2, n3]
      · have m1 : ((a : Int) == (v : Int)) = false := by simp; omega
        by_cases e2 : b = v
        · have n3 : ¬ c = v := by omega
          simp [m1, e1, e2, n3]
        · have m2 : ((b : Int) == (v : Int)) = false := by simp; omega
          by_cases e3 : c = v
          · have m3 : ((c : Int) == (v : Int)) = true := by simp [e3]
            simp [m1, m2, e1, e2, e3]
          · have m3 : ((c : Int) == (v : Int)) = false := by simp; omega
            simp [m1, m2, m3, e1, e2, e3]
    rw [q, Nat.mul_comm, Nat.add_mul, Nat.add_mul]
  · have g : gN3 E a b c = 0 := by
      unfold gN3 ltN
      by_cases h1 : a < b
      · have : ¬ b < c := fun h2 => h ⟨h1, h2⟩
        simp [this]
      · simp [h1]
    rw [g]; simp
theorem cnt_T3 {n : Nat} {E : List Ed} (G : GOk n E) {v : Nat} (hv : v < n) : sum3 n (fun a b c => gN3 E a b c * qN (v : Int) a b c) = T3 n E v := by
  have e : sum3 n (fun a b c => gN3 E a b c * qN (v : Int) a b c) = sum3 n (fun a b c => eN a v * gN3 E a b c + (eN b v * gN3 E a b c + eN c v * gN3 E a b c)) := sum3_congr fun a b c => qN_three v a b c
  have p1 : sum3 n (fun a b c => eN a v * gN3 E a b c) = sumN n fun u => sumN n fun w => gN3 E v u w := by
    unfold sum3
    have : (sumN n fun a => sumN n fun b => sumN n fun c => eN a v * gN3 E a b c) = sumN n fun a => eN a v * sumN n fun b => sumN n fun c => gN3 E a b c :=
      sumN_congr fun a _ => by rw [← sumN_mul]; exact sumN_congr fun b _ => by rw [← sumN_mul]
    rw [this, sumN_pick, if_pos hv]
  have p2 : sum3 n (fun a b c => eN b v * gN3 E a b c) = sumN n fun u => sumN n fun w => gN3 E u v w := by
    unfold sum3
    refine sumN_congr fun a _ => ?_
    have : (sumN n fun b => sumN n fun c => eN b v * gN3 E a b c) = sumN n fun b => eN b v * sumN n fun c => gN3 E a b c :=
      sumN_congr fun b _ => by rw [← sumN_mul]
    rw [this, sumN_pick, if_pos hv]
  have p3 : sum3 n (fun a b c => eN c v * gN3 E a b c) = sumN n fun u => sumN n fun w => gN3 E u w v := by
    unfold sum3
    refine sumN_congr fun a _ => sumN_congr fun b _ => ?_
    rw [sumN_pick, if_pos hv]
  rw [e, sum3_add, sum3_add, p1, p2, p3]
  unfold T3
  rw [← sumN_add, ← sumN_add]
  refine sumN_congr fun u _ => ?_
  rw [← sumN_add, ← sumN_add]
  exact sumN_congr fun w _ => (three G v u w).symm
theorem nbr_out {o : Option (Nat × List Ed)} (h : GoG o) {v : Int} (hv : ¬ (0 ≤ v ∧ v < gN o)) : nbr o v = [] := by
  rw [List.eq_nil_iff_forall_not_mem]
  intro z hz
  rw [mem_nbr] at hz
  cases o with
  | none => have h2 := hz.2.1; have : z < ((0 : Nat) : Int) := h2; omega
  | some x =>
    have hg : GOk x.1 x.2 := h
    have hn := hg.near hz.2.2
    have a1 := hn.1; have a2 := hn.2.1
    exact hv ⟨a1, a2⟩
/-- the program's number of the triangles at a vertex is the document's -/
theorem at_cnt {o : Option (Nat × List Ed)} (h : GoG o) (v : Int) : ((atS o v : Nat) : Int) / 2 = (cntTo (tri o) v (tri o).length : Nat) := by
  rw [cntTo_all]
  by_cases hv : 0 ≤ v ∧ v < gN o
  · cases o with
    | none => have : v < ((0 : Nat) : Int) := hv.2; omega
    | some x =>
      obtain ⟨n, E⟩ := x
      obtain ⟨u, rfl⟩ : ∃ u : Nat, v = u := ⟨v.toNat, by omega⟩
      have hu : u < n := by have : (u : Int) < (n : Int) := hv.2; omega
      rw [at_half h, ← rA_tri h, rA_cnt, cnt_T3 h hu]
  · have e0 : atS o v = 0 := by unfold atS atTo; rw [nbr_out h hv]; rfl
    have e1 : (tri o).filter (hasV v) = [] := by
      rw [List.filter_eq_nil_iff]
      intro t ht hq
      obtain ⟨p1, p2, p3, p4, _⟩ := mem_tri h ht
      unfold hasV at hq
      simp only [Bool.or_eq_true, beq_iff_eq] at hq
      rcases hq with (rfl | rfl) | rfl <;> exact hv ⟨by omega, by omega⟩
    rw [e0, e1]; rfl
end Go.Proofs.Ytjdpkjjlcbgnbaa
