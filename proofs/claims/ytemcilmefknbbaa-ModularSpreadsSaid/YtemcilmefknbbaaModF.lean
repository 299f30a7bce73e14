/- Plain mathematics of fractions and of the modularity's bounds. No conditions but that the graph is accepted. -/
import Derived.Test.YtemcilmefknbbaaModCs
namespace Go.Proofs.Ytemcilmefknbbaa

theorem fr_eq {m : Nat} (hm : m ≠ 0) (x : Int) : ∃ g : Int, 0 < g ∧ x = frN m x * g ∧ 4 * (m : Int) * (m : Int) = frD m x * g ∧ 0 < frD m x := by
  have hd : 0 < 4 * (m : Int) * (m : Int) := Int.mul_pos (by omega) (by omega)
  have e1 : frN m x = rN x (4 * (m : Int) * (m : Int)) := by rw [frN, if_neg hm]
  have e2 : frD m x = rD x (4 * (m : Int) * (m : Int)) := by rw [frD, if_neg hm]
  rw [e1, e2]
  generalize 4 * (m : Int) * (m : Int) = d at *
  have hg := rG_pos (n := x) hd
  have h1 : rQ x d * (rG x d : Int) = (x.natAbs : Int) := Int.ediv_mul_cancel (Int.ofNat_dvd.2 (Nat.gcd_dvd_left _ _))
  have h2 : rD x d * (rG x d : Int) = (d.natAbs : Int) := Int.ediv_mul_cancel (Int.ofNat_dvd.2 (Nat.gcd_dvd_right _ _))
  have h3 : d = rD x d * (rG x d : Int) := by omega
  refine ⟨(rG x d : Int), by omega, ?_, h3, ?_⟩
  · unfold rN
    split
    · rw [Int.neg_mul]; omega
    · omega
  · refine Int.pos_of_mul_pos_left (b := (rG x d : Int)) ?_ ?_
    · omega
    · omega
theorem fr_less (m : Nat) {x y : Int} (h : x ≤ y) : ¬ frN m y * frD m x < frN m x * frD m y := by
  by_cases hm : m = 0
  · subst hm; simp [frN, frD]
  · obtain ⟨g, hg, h1, h2, _⟩ := fr_eq hm x
    obtain ⟨k, hk, h3, h4, _⟩ := fr_eq hm y
    have hd : 0 < 4 * (m : Int) * (m : Int) := Int.mul_pos (by omega) (by omega)
    generalize 4 * (m : Int) * (m : Int) = M at *
    generalize frN m x = a at *
    generalize frD m x = d at *
    generalize frN m y = b at *
    generalize frD m y = e at *
    have hx : x * M ≤ y * M := Int.mul_le_mul_of_nonneg_right h (by omega)
    have e1 : x * M = a * e * (g * k) := by rw [h4, h1]; simp [Int.mul_comm, Int.mul_left_comm]
    have e2 : y * M = b * d * (g * k) := by rw [h2, h3]; simp [Int.mul_comm, Int.mul_left_comm]
    rw [e1, e2] at hx
    have := Int.le_of_mul_le_mul_right hx (Int.mul_pos hg hk)
    omega
theorem frN_le0 (m : Nat) {x : Int} (h : x ≤ 0) : frN m x ≤ 0 := by
  by_cases hm : m = 0
  · simp [frN, hm]
  · obtain ⟨g, hg, h1, _, _⟩ := fr_eq hm x
    rcases Int.lt_or_le 0 (frN m x) with hc | hc
    · have := Int.mul_pos hc hg; omega
    · exact hc
theorem frD_pos (m : Nat) (x : Int) : 0 < frD m x := by
  by_cases hm : m = 0
  · simp [frD, hm]
  · obtain ⟨g, hg, _, _, h3⟩ := fr_eq hm x; exact h3
theorem frN_lo {m : Nat} {x : Int} (h : -(4 * (m : Int) * (m : Int)) ≤ 2 * x) : -frD m x ≤ 2 * frN m x := by
  by_cases hm : m = 0
  · simp [frN, frD, hm]
  · obtain ⟨g, hg, h1, h2, _⟩ := fr_eq hm x
    rw [h2] at h
    have e : (-frD m x) * g ≤ (2 * frN m x) * g := by rw [Int.neg_mul, Int.mul_assoc, ← h1]; exact h
    exact Int.le_of_mul_le_mul_right e hg
theorem frN_lt {m : Nat} {x : Int} (h : m ≠ 0 → x < 4 * (m : Int) * (m : Int)) : frN m x < frD m x := by
  by_cases hm : m = 0
  · simp [frN, frD, hm]
  · obtain ⟨g, hg, h1, h2, _⟩ := fr_eq hm x
    have h := h hm
    rw [h2] at h
    have e : frN m x * g < frD m x * g := by rw [← h1]; exact h
    exact Int.lt_of_mul_lt_mul_right e (by omega)
theorem fr_zero (m : Nat) : frN m 0 = 0 ∧ frD m 0 = 1 := by
  by_cases hm : m = 0
  · simp [frN, frD, hm]
  · have hd : 0 < 4 * (m : Int) * (m : Int) := Int.mul_pos (by omega) (by omega)
    simp only [frN, frD, hm, if_false]
    generalize 4 * (m : Int) * (m : Int) = d at *
    refine ⟨by simp [rN, rQ], ?_⟩
    simp only [rD, rG, Int.natAbs_zero, Nat.gcd_zero_left]
    exact Int.ediv_self (by omega)
theorem frN_size {m : Nat} {x : Int} (h0 : -(4 * (m : Int) * (m : Int)) ≤ x) (h1 : x ≤ 4 * (m : Int) * (m : Int)) : -(frD m x) ≤ frN m x ∧ frN m x ≤ frD m x := by
  by_cases hm : m = 0
  · simp [frN, frD, hm]
  · obtain ⟨g, hg, h2, h3, _⟩ := fr_eq hm x
    rw [h3] at h0 h1
    have e1 : (-frD m x) * g ≤ frN m x * g := by rw [← h2, Int.neg_mul]; exact h0
    have e2 : frN m x * g ≤ frD m x * g := by rw [← h2]; exact h1
    exact ⟨Int.le_of_mul_le_mul_right e1 hg, Int.le_of_mul_le_mul_right e2 hg⟩
theorem frD_le {m : Nat} (hm1 : m ≤ 16384) (x : Int) : frD m x ≤ 1073741824 := by
  by_cases hm : m = 0
  · simp [frD, hm]
  · obtain ⟨g, hg, _, h3, h4⟩ := fr_eq hm x
    have h5 : frD m x * 1 ≤ frD m x * g := Int.mul_le_mul_of_nonneg_left (by omega) (by omega)
    have h6 : 4 * (m : Int) ≤ 65536 := by omega
    have h7 : 4 * (m : Int) * (m : Int) ≤ 65536 * 16384 := Int.mul_le_mul h6 (show (m : Int) ≤ 16384 by omega) (by omega) (by omega)
    omega
theorem mul_bd {a b : Int} (h1 : -1073741824 ≤ a ∧ a ≤ 1073741824) (h2 : 0 ≤ b ∧ b ≤ 1073741824) : -1152921504606846976 ≤ a * b ∧ a * b ≤ 1152921504606846976 := by
  have e1 : a * b ≤ 1073741824 * b := Int.mul_le_mul_of_nonneg_right h1.2 h2.1
  have e2 : (-1073741824) * b ≤ a * b := Int.mul_le_mul_of_nonneg_right h1.1 h2.1
  omega

/-- the sum over the edges of what both ends have -/
def endS (E : List Ed) (F : Nat → Int) (k : Nat) : Int := sumZ k fun i => F (eAt E i).u.toNat + F (eAt E i).v.toNat
theorem ends_sum {n : Nat} {E : List Ed} (G : GOk n E) (F : Nat → Int) {k : Nat} (hk : k ≤ E.length) : (sumZ n fun u => ((degTo E k u : Nat) : Int) * F u) = endS E F k := by
  induction k with
  | zero =>
    have : (sumZ n fun u => ((degTo E 0 u : Nat) : Int) * F u) = sumZ n fun _ => 0 := sumZ_congr fun u _ => by simp [degTo, adjTo]
    rw [this, sumZ_zero]; rfl
  | succ k ih =>
    obtain ⟨x, y, hx, hy, h1, h2, h3⟩ := G.nats (show k < E.length by omega)
    have e : (sumZ n fun u => ((degTo E (k + 1) u : Nat) : Int) * F u) = sumZ n fun u => (((degTo E k u : Nat) : Int) * F u + (if u = x then F u else 0)) + (if u = y then F u else 0) := sumZ_congr fun u _ => by
      rw [degTo_succ]
      by_cases hi : inc E u k = true
      · rw [if_pos hi]
        simp only [inc, hx, hy, decide_eq_true_eq] at hi
        rw [Int.natCast_add, Int.add_mul]
        rcases hi with hi | hi
        · rw [if_pos (by omega), if_neg (by omega)]; simp
        · rw [if_neg (by omega), if_pos (by omega)]; simp
      · rw [if_neg hi]
        simp only [inc, hx, hy, decide_eq_true_eq, not_or] at hi
        rw [if_neg (by omega), if_neg (by omega)]; simp
    rw [e, sumZ_add, sumZ_add, sumZ_pick h1, sumZ_pick h2, ih (by omega)]
    show _ = endS E F k + (F (eAt E k).u.toNat + F (eAt E k).v.toNat)
    rw [hx, hy, Int.toNat_natCast, Int.toNat_natCast]; omega
theorem sqS_ends {n : Nat} {E : List Ed} (G : GOk n E) {L : List Int} (hL : L.length = n) : sqS E L = endS E (fun u => dC E L (nth L u)) E.length := by
  rw [← ends_sum G _ (Nat.le_refl _)]
  unfold sqS
  rw [hL]
  exact sumZ_congr fun u _ => by rw [dgZ, ← degTo_len]
theorem dTo_two {n : Nat} {E : List Ed} (G : GOk n E) (L : List Int) {a b : Int} (h : a ≠ b) {k : Nat} (hk : k ≤ n) : dTo E L a k + dTo E L b k ≤ 2 * (E.length : Int) := by
  have h1 : dTo E L a k + dTo E L b k ≤ sumZ k (dgZ E) := by
    unfold dTo
    rw [← sumZ_add]
    refine sumZ_le fun i _ => ?_
    have := dgZ_nonneg E i
    by_cases h1 : nth L i = a
    · rw [if_pos h1, if_neg (fun e => h (h1.symm.trans e))]; omega
    · rw [if_neg h1]; split <;> omega
  have h2 := G.pre_le hk
  rw [preZ] at h1; omega
theorem endS_le {n : Nat} {E : List Ed} (G : GOk n E) {L : List Int} (hL : L.length = n) {k : Nat} (hk : k ≤ E.length) : endS E (fun u => dC E L (nth L u)) k ≤ 2 * (E.length : Int) * (k : Int) + 2 * (E.length : Int) * (inTo E L k : Int) := by
  induction k with
  | zero => simp [endS, sumZ, inTo]
  | succ k ih =>
    have ih := ih (by omega)
    have e : endS E (fun u => dC E L (nth L u)) (k + 1) = endS E (fun u => dC E L (nth L u)) k + (dC E L (nth L (eAt E k).u.toNat) + dC E L (nth L (eAt E k).v.toNat)) := rfl
    have e2 : inTo E L (k + 1) = inTo E L k + (inB E L k).toNat := filt_succ _ _
    rw [e, e2, Int.natCast_add, Int.natCast_add, Int.mul_add, Int.mul_add]
    have b1 : dC E L (nth L (eAt E k).u.toNat) ≤ 2 * (E.length : Int) := dTo_le G L _ (by omega)
    have b2 : dC E L (nth L (eAt E k).v.toNat) ≤ 2 * (E.length : Int) := dTo_le G L _ (by omega)
    cases hi : inB E L k with
    | true =>
      simp only [Bool.toNat_true, Int.natCast_one, Int.mul_one]
      omega
    | false =>
      have hne : nth L (eAt E k).u.toNat ≠ nth L (eAt E k).v.toNat := by
        intro h; simp [inB, h] at hi
      have b3 : dC E L (nth L (eAt E k).u.toNat) + dC E L (nth L (eAt E k).v.toNat) ≤ 2 * (E.length : Int) := dTo_two G L hne (by omega)
      simp only [Bool.toNat_false, Int.natCast_zero, Int.natCast_one, Int.mul_zero, Int.mul_one]
      omega
theorem num_half {n : Nat} {E : List Ed} (G : GOk n E) {L : List Int} (hL : L.length = n) : -(4 * (E.length : Int) * (E.length : Int)) ≤ 2 * num E L := by
  have h1 := endS_le G hL (Nat.le_refl _)
  rw [← sqS_ends G hL] at h1
  have h2 : (inTo E L E.length : Int) = (inN E L : Int) := rfl
  rw [h2] at h1
  have h3 : 0 ≤ (E.length : Int) * (inN E L : Int) := Int.mul_nonneg (by omega) (by omega)
  unfold num
  rw [Int.mul_assoc 4, Int.mul_assoc 4] at *
  rw [Int.mul_assoc 2, Int.mul_assoc 2] at h1
  omega
theorem num_top {n : Nat} {E : List Ed} (G : GOk n E) {L : List Int} (hL : L.length = n) (hm : E.length ≠ 0) : num E L < 4 * (E.length : Int) * (E.length : Int) := by
  obtain ⟨x, y, hx, hy, h1, h2, h3⟩ := G.nats (show 0 < E.length by omega)
  have h4 : 4 * (E.length : Int) * (inN E L : Int) ≤ 4 * (E.length : Int) * (E.length : Int) := Int.mul_le_mul_of_nonneg_left (by have := inN_le E L; omega) (by omega)
  have h5 : 0 < dgZ E x := by
    have : 0 ∈ adj E x := by
      simp only [adj, adjTo, List.mem_filter, List.mem_range, inc, hx, decide_eq_true_eq]
      exact ⟨by omega, .inl trivial⟩
    have : 0 < deg E x := List.length_pos_of_mem this
    unfold dgZ; omega
  have h6 : dgZ E x ≤ dC E L (nth L x) := dTo_ge (by omega)
  have h7 : 0 < dgZ E x * dC E L (nth L x) := Int.mul_pos h5 (by omega)
  have h8 : sqS E L = (sumZ L.length fun i => if i = x then 0 else dgZ E i * dC E L (nth L i)) + dgZ E x * dC E L (nth L x) := by
    unfold sqS
    rw [sumZ_swap1 (v := x) (g := fun i => if i = x then 0 else dgZ E i * dC E L (nth L i)) (by omega) (fun i _ hi => by rw [if_neg hi])]
    rw [if_pos rfl]; omega
  have h9 : 0 ≤ sumZ L.length fun i => if i = x then 0 else dgZ E i * dC E L (nth L i) := sumZ_nonneg fun i _ => by
    split
    · omega
    · exact Int.mul_nonneg (dgZ_nonneg _ _) (dTo_nonneg _ _ _ _)
  unfold num
  omega
theorem num_one {n : Nat} {E : List Ed} (G : GOk n E) {L : List Int} {t : Int} (hL : L.length = n) (h : ∀ i, i < n → nth L i = t) : num E L = 0 ∧ inN E L = E.length := by
  have hi : ∀ i, i < E.length → inB E L i = true := fun i hi => by
    obtain ⟨x, y, hx, hy, h1, h2, _⟩ := G.nats hi
    simp [inB, hx, hy, h x h1, h y h2]
  have h1 : inN E L = E.length := by
    unfold inN inTo
    rw [List.filter_eq_self.2 (fun i hm => hi i (List.mem_range.1 hm)), List.length_range]
  have h2 : dC E L t = 2 * (E.length : Int) := by
    unfold dC
    have : dTo E L t L.length = sumZ n (dgZ E) := by
      unfold dTo; rw [hL]
      exact sumZ_congr fun i hi => if_pos (h i hi)
    rw [this, preZ, G.pre_n]; omega
  have h3 : sqS E L = 2 * (E.length : Int) * (2 * (E.length : Int)) := by
    have : sqS E L = sumZ n fun u => 2 * (E.length : Int) * dgZ E u := by
      unfold sqS; rw [hL]
      exact sumZ_congr fun i hi => by rw [h i hi, h2, Int.mul_comm]
    rw [this, sumZ_mul, preZ, G.pre_n]
    rw [show ((2 * E.length : Nat) : Int) = 2 * (E.length : Int) by omega]
  refine ⟨?_, h1⟩
  unfold num
  rw [h3, h1]
  rw [Int.mul_assoc 2, Int.mul_left_comm (E.length : Int) 2, ← Int.mul_assoc 2 2, Int.mul_assoc 4]; omega
/-- the labels are renamed: nothing changes -/
theorem num_ren {n : Nat} {E : List Ed} (G : GOk n E) {L N : List Int} (hL : L.length = n) (hN : N.length = n) (h : ∀ i j, i < n → j < n → (nth N i = nth N j ↔ nth L i = nth L j)) : num E N = num E L := by
  have h1 : inN E N = inN E L := by
    unfold inN inTo
    congr 1
    refine List.filter_congr fun i hi => ?_
    obtain ⟨x, y, hx, hy, h1, h2, _⟩ := G.nats (List.mem_range.1 hi)
    have := h x y h1 h2
    rw [Bool.eq_iff_iff]
    simp [inB, hx, hy, this]
  have h2 : ∀ u, u < n → dC E N (nth N u) = dC E L (nth L u) := fun u hu => by
    unfold dC dTo
    rw [hN, hL]
    refine sumZ_congr fun i hi => ?_
    have := h i u hi hu
    by_cases e : nth L i = nth L u
    · rw [if_pos e, if_pos (this.2 e)]
    · rw [if_neg e, if_neg (fun c => e (this.1 c))]
  have h3 : sqS E N = sqS E L := by
    unfold sqS
    rw [hN, hL]
    exact sumZ_congr fun u hu => by rw [h2 u hu]
  unfold num
  rw [h1, h3]
theorem gain_ren {n : Nat} {E : List Ed} (G : GOk n E) {L N : List Int} {v k : Nat} (hv : v < n) (hk : k < n) (hL : L.length = n) (hN : N.length = n) (h : ∀ i j, i < n → j < n → (nth N i = nth N j ↔ nth L i = nth L j)) : gainZ E N v (nth N k) = gainZ E L v (nth L k) := by
  unfold gainZ
  rw [num_ren G hL hN h, num_ren G (L := L.set v (nth L k)) (N := N.set v (nth N k)) (by rw [List.length_set]; exact hL) (by rw [List.length_set]; exact hN)]
  intro i j hi hj
  rw [nth_set _ (by omega), nth_set _ (by omega), nth_set _ (by omega), nth_set _ (by omega)]
  split <;> split
  · simp
  · exact h k j hk hj
  · exact h i k hi hk
  · exact h i j hi hj
/-- the labels of both ends of an edge, after greedy moves -/
theorem greed_edge {n : Nat} {E : List Ed} (G : GOk n E) {L R : List Int} (h : Greed E L R) (hR : R.length = n) {i x y : Nat} (hi : i < E.length) (hx : (eAt E i).u = x) (hy : (eAt E i).v = y) (h1 : x < n) (h2 : y < n) : gainZ E R x (nth R y) ≤ 0 ∧ gainZ E R y (nth R x) ≤ 0 := by
  have hne := (G.ends i hi).2.2.2.2
  refine ⟨still_gain h.still (by omega) ?_, still_gain h.still (by omega) ?_⟩
  · refine List.mem_map.2 ⟨i, ?_, ?_⟩
    · simp only [adj, adjTo, List.mem_filter, List.mem_range, inc, hx, decide_eq_true_eq]
      exact ⟨hi, .inl trivial⟩
    · rw [oth, if_neg (by omega), hy, Int.toNat_natCast]
  · refine List.mem_map.2 ⟨i, ?_, ?_⟩
    · simp only [adj, adjTo, List.mem_filter, List.mem_range, inc, hy, decide_eq_true_eq]
      exact ⟨hi, .inr trivial⟩
    · rw [oth, if_pos hy, hx, Int.toNat_natCast]
end Go.Proofs.Ytemcilmefknbbaa
