/- Plain mathematics of graphs that are given by a list of edges: which lists are accepted, the edges of a vertex, and how a counting sort lays them out. No program is in sight. No conditions. -/
namespace Go.Proofs.Ytcpikabhcjkkmaa

/-- an edge: its ends, its weight -/
structure Ed where
  u : Int
  v : Int
  w : Int
def ed0 : Ed := ⟨0, 0, 0⟩
def eAt (E : List Ed) (i : Nat) : Ed := E.getD i ed0
def badE (n : Int) (e : Ed) : Bool := decide (e.u < 0 ∨ n ≤ e.u ∨ e.v < 0 ∨ n ≤ e.v)
/-- the first error among the edges -/
def scanE (n : Int) : List Ed → Int
  | [] => 0
  | e :: l => if badE n e then 3 else if e.u = e.v then 9 else scanE n l
/-- the error that New returns -/
def gErr (n : Int) (E : List Ed) : Int := if n < 0 ∨ 4096 < n ∨ 16384 < E.length then 2 else scanE n E

/-- a graph that is accepted -/
structure GOk (n : Nat) (E : List Ed) : Prop where
  n_le : n ≤ 4096
  m_le : E.length ≤ 16384
  ends : ∀ i, i < E.length → 0 ≤ (eAt E i).u ∧ (eAt E i).u < n ∧ 0 ≤ (eAt E i).v ∧ (eAt E i).v < n ∧ (eAt E i).u ≠ (eAt E i).v

theorem eAt_eq {E : List Ed} {i : Nat} (h : i < E.length) : eAt E i = E[i] := by simp [eAt, List.getD, h]
theorem drop_eAt {E : List Ed} {k : Nat} (h : k < E.length) : E.drop k = eAt E k :: E.drop (k + 1) := by
  rw [eAt_eq h, List.drop_eq_getElem_cons h]
theorem scanE_step {n : Int} {E : List Ed} {k : Nat} (h : k < E.length) : scanE n (E.drop k) = if badE n (eAt E k) then 3 else if (eAt E k).u = (eAt E k).v then 9 else scanE n (E.drop (k + 1)) := by
  rw [drop_eAt h]; rfl
theorem scanE_end {n : Int} {E : List Ed} : scanE n (E.drop E.length) = 0 := by simp [scanE]
theorem scanE_bad {n : Int} {E : List Ed} {k : Nat} (h : k < E.length) (hb : badE n (eAt E k) = true) : scanE n (E.drop k) = 3 := by rw [scanE_step h, if_pos hb]
theorem scanE_loop {n : Int} {E : List Ed} {k : Nat} (h : k < E.length) (hb : badE n (eAt E k) = false) (he : (eAt E k).u = (eAt E k).v) : scanE n (E.drop k) = 9 := by
  rw [scanE_step h, hb]; simp [he]
theorem scanE_next {n : Int} {E : List Ed} {k : Nat} (h : k < E.length) (hb : badE n (eAt E k) = false) (he : (eAt E k).u ≠ (eAt E k).v) : scanE n (E.drop k) = scanE n (E.drop (k + 1)) := by
  rw [scanE_step h, hb]; simp [he]
theorem scanE_zero {n : Int} : ∀ {E : List Ed}, scanE n E = 0 → ∀ e, e ∈ E → badE n e = false ∧ e.u ≠ e.v
  | [], _, e, he => by cases he
  | x :: l, h, e, he => by
    simp only [scanE] at h
    split at h
    · cases h
    · rename_i hb
      split at h
      · cases h
      · rename_i hn
        rcases List.mem_cons.1 he with rfl | he
        · exact ⟨by simpa using hb, hn⟩
        · exact scanE_zero h e he
theorem scanE_of {n : Int} : ∀ {E : List Ed}, (∀ e, e ∈ E → badE n e = false ∧ e.u ≠ e.v) → scanE n E = 0
  | [], _ => rfl
  | x :: l, h => by
    have h1 := h x (by simp)
    simp only [scanE, h1.1, h1.2, Bool.false_eq_true, if_false]
    exact scanE_of fun e he => h e (by simp [he])
theorem badE_iff {n : Int} {e : Ed} : badE n e = false ↔ 0 ≤ e.u ∧ e.u < n ∧ 0 ≤ e.v ∧ e.v < n := by
  simp only [badE, decide_eq_false_iff_not]; omega
theorem scanE_vals {n : Int} : ∀ (E : List Ed), scanE n E = 0 ∨ scanE n E = 3 ∨ scanE n E = 9
  | [] => .inl rfl
  | x :: l => by
    simp only [scanE]
    split
    · simp
    · split
      · simp
      · exact scanE_vals l
theorem gErr_zero {n : Int} {E : List Ed} (h : gErr n E = 0) : ∃ k : Nat, n = k ∧ GOk k E := by
  unfold gErr at h
  split at h
  · cases h
  · rename_i hn
    refine ⟨n.toNat, by omega, by omega, by omega, fun i hi => ?_⟩
    have h1 := scanE_zero h (eAt E i) (by rw [eAt_eq hi]; exact List.getElem_mem hi)
    have h2 := badE_iff.1 h1.1
    refine ⟨h2.1, ?_, h2.2.2.1, ?_, h1.2⟩ <;> omega
theorem gErr_ok {n : Nat} {E : List Ed} (h : GOk n E) : gErr n E = 0 := by
  have h1 := h.n_le; have h2 := h.m_le
  rw [gErr, if_neg (by omega)]
  refine scanE_of fun e he => ?_
  obtain ⟨i, hi, rfl⟩ := List.mem_iff_getElem.1 he
  have h3 := h.ends i hi
  rw [eAt_eq hi] at h3
  exact ⟨badE_iff.2 ⟨h3.1, h3.2.1, h3.2.2.1, h3.2.2.2.1⟩, h3.2.2.2.2⟩

/-- is a vertex an end of an edge? -/
def inc (E : List Ed) (x i : Nat) : Bool := decide ((eAt E i).u = x ∨ (eAt E i).v = x)
/-- the edges of a vertex among the first k ones -/
def adjTo (E : List Ed) (k x : Nat) : List Nat := (List.range k).filter (inc E x)
def adj (E : List Ed) (x : Nat) : List Nat := adjTo E E.length x
def degTo (E : List Ed) (k x : Nat) : Nat := (adjTo E k x).length
def deg (E : List Ed) (x : Nat) : Nat := (adj E x).length
theorem adjTo_succ (E : List Ed) (k x : Nat) : adjTo E (k + 1) x = if inc E x k then adjTo E k x ++ [k] else adjTo E k x := by
  simp only [adjTo, List.range_succ, List.filter_append, List.filter_cons, List.filter_nil]
  by_cases h : inc E x k <;> simp [h]
theorem degTo_succ (E : List Ed) (k x : Nat) : degTo E (k + 1) x = if inc E x k then degTo E k x + 1 else degTo E k x := by
  unfold degTo; rw [adjTo_succ]; split <;> simp
theorem degTo_zero (E : List Ed) (x : Nat) : degTo E 0 x = 0 := rfl
theorem degTo_mono (E : List Ed) (x : Nat) {j k : Nat} (h : j ≤ k) : degTo E j x ≤ degTo E k x := by
  induction k with
  | zero => rw [Nat.le_zero.1 h]; exact Nat.le_refl _
  | succ k ih =>
    by_cases e : j = k + 1
    · rw [e]; exact Nat.le_refl _
    · have := ih (by omega)
      rw [degTo_succ]; split <;> omega
theorem degTo_len (E : List Ed) (x : Nat) : degTo E E.length x = deg E x := rfl
theorem degTo_lt {E : List Ed} {x k : Nat} (hk : k < E.length) (hi : inc E x k = true) : degTo E k x < deg E x := by
  have h1 := degTo_mono E x (show k + 1 ≤ E.length by omega)
  rw [degTo_succ, if_pos hi, degTo_len] at h1; omega
theorem deg_le (E : List Ed) (x : Nat) : deg E x ≤ E.length := by
  have := List.length_filter_le (inc E x) (List.range E.length); simpa [deg, adj, adjTo] using this
theorem mem_adj {E : List Ed} {x i : Nat} : i ∈ adj E x ↔ i < E.length ∧ inc E x i = true := by simp [adj, adjTo]

/-- how many edges the vertices before x have -/
def pre (E : List Ed) : Nat → Nat
  | 0 => 0
  | x + 1 => pre E x + deg E x
theorem pre_mono (E : List Ed) {x y : Nat} (h : x ≤ y) : pre E x ≤ pre E y := by
  induction y with
  | zero => rw [Nat.le_zero.1 h]; exact Nat.le_refl _
  | succ y ih =>
    by_cases e : x = y + 1
    · rw [e]; exact Nat.le_refl _
    · have := ih (by omega); simp only [pre]; omega
theorem pre_lt {E : List Ed} {x y i : Nat} (h : x < y) (hi : i < deg E x) : pre E x + i < pre E y := by
  have := pre_mono E (show x + 1 ≤ y from h)
  simp only [pre] at this; omega
theorem pre_sep {E : List Ed} {x y i j : Nat} (h : x ≠ y) (hi : i < deg E x) (hj : j < deg E y) : pre E x + i ≠ pre E y + j := by
  rcases Nat.lt_or_gt_of_ne h with h | h
  · have := pre_lt h hi; omega
  · have := pre_lt h hj; omega
/-- the degrees of the vertices before y among the first k edges -/
def sumTo (E : List Ed) (k : Nat) : Nat → Nat
  | 0 => 0
  | x + 1 => sumTo E k x + degTo E k x
theorem sumTo_pre (E : List Ed) (y : Nat) : sumTo E E.length y = pre E y := by
  induction y with
  | zero => rfl
  | succ y ih => simp only [sumTo, pre, ih, degTo_len]
theorem sumTo_zero (E : List Ed) (y : Nat) : sumTo E 0 y = 0 := by
  induction y with
  | zero => rfl
  | succ y ih => simp only [sumTo, ih, degTo_zero]
theorem sumTo_succ {E : List Ed} {k u v : Nat} (hu : (eAt E k).u = u) (hv : (eAt E k).v = v) (hn : u ≠ v) (y : Nat) : sumTo E (k + 1) y = sumTo E k y + (if u < y then 1 else 0) + (if v < y then 1 else 0) := by
  induction y with
  | zero => simp [sumTo]
  | succ y ih =>
    simp only [sumTo, ih, degTo_succ, inc, hu, hv, decide_eq_true_eq]
    repeat' split
    all_goals omega
theorem GOk.nats {n : Nat} {E : List Ed} (G : GOk n E) {k : Nat} (hk : k < E.length) : ∃ u v : Nat, (eAt E k).u = u ∧ (eAt E k).v = v ∧ u < n ∧ v < n ∧ u ≠ v := by
  have h := G.ends k hk
  exact ⟨(eAt E k).u.toNat, (eAt E k).v.toNat, by omega, by omega, by omega, by omega, by omega⟩
theorem GOk.sum {n : Nat} {E : List Ed} (G : GOk n E) {k : Nat} (hk : k ≤ E.length) : sumTo E k n = 2 * k := by
  induction k with
  | zero => rw [sumTo_zero]
  | succ k ih =>
    obtain ⟨u, v, hu, hv, h1, h2, h3⟩ := G.nats (show k < E.length by omega)
    rw [sumTo_succ hu hv h3, ih (by omega), if_pos h1, if_pos h2]; omega
theorem GOk.pre_n {n : Nat} {E : List Ed} (G : GOk n E) : pre E n = 2 * E.length := by rw [← sumTo_pre, G.sum (Nat.le_refl _)]
theorem GOk.pre_le {n : Nat} {E : List Ed} (G : GOk n E) {x : Nat} (h : x ≤ n) : pre E x ≤ 2 * E.length := by have := pre_mono E h; rw [G.pre_n] at this; exact this
theorem GOk.deg_out {n : Nat} {E : List Ed} (G : GOk n E) {x : Nat} (h : n ≤ x) (k : Nat) (hk : k ≤ E.length) : degTo E k x = 0 := by
  induction k with
  | zero => rfl
  | succ k ih =>
    obtain ⟨u, v, hu, hv, h1, h2, h3⟩ := G.nats (show k < E.length by omega)
    rw [degTo_succ, ih (by omega), if_neg (by simp only [inc, hu, hv, decide_eq_true_eq]; omega)]

/-- the numbers of edges of the vertices, one place on -/
def cntF (E : List Ed) (k : Nat) : Nat → Nat
  | 0 => 0
  | x + 1 => degTo E k x
theorem cntF_step {E : List Ed} {k u v : Nat} (hu : (eAt E k).u = u) (hv : (eAt E k).v = v) (hn : u ≠ v) (x : Nat) :
    cntF E (k + 1) x = if x = v + 1 then cntF E k (v + 1) + 1 else if x = u + 1 then cntF E k (u + 1) + 1 else cntF E k x := by
  cases x with
  | zero => simp [cntF]
  | succ x =>
    simp only [cntF, degTo_succ, inc, hu, hv, decide_eq_true_eq, Nat.add_right_cancel_iff]
    by_cases h1 : x = v
    · subst h1; simp
    · by_cases h2 : x = u
      · subst h2; simp [h1]
      · rw [if_neg h1, if_neg h2, if_neg (by omega)]
theorem cntF_zero (E : List Ed) (x : Nat) : cntF E 0 x = 0 := by cases x <;> rfl
/-- the sums, when k of them have been formed -/
def pfx (E : List Ed) (k x : Nat) : Nat := if x ≤ k then pre E x else cntF E E.length x
theorem pfx_zero (E : List Ed) (x : Nat) : pfx E 0 x = cntF E E.length x := by
  unfold pfx; split
  · rename_i h; rw [Nat.le_zero.1 h]; rfl
  · rfl
theorem pfx_step (E : List Ed) (k x : Nat) : pfx E (k + 1) x = if x = k + 1 then pfx E k (k + 1) + pfx E k k else pfx E k x := by
  unfold pfx
  by_cases h : x = k + 1
  · subst h
    rw [if_pos (Nat.le_refl _), if_pos rfl, if_neg (by omega), if_pos (Nat.le_refl _)]
    simp only [pre, cntF, degTo_len]; omega
  · rw [if_neg h]
    by_cases h2 : x ≤ k
    · rw [if_pos h2, if_pos (by omega)]
    · rw [if_neg h2, if_neg (by omega)]
theorem pfx_end {E : List Ed} {n x : Nat} (h : x ≤ n) : pfx E n x = pre E x := by rw [pfx, if_pos h]
theorem pfx_le {n : Nat} {E : List Ed} (G : GOk n E) {k x : Nat} (hk : k ≤ n) : pfx E k x ≤ 32768 := by
  have hm := G.m_le
  unfold pfx; split
  · rename_i h; have := G.pre_le (show x ≤ n by omega); omega
  · cases x with
    | zero => simp [cntF]
    | succ x => have := deg_le E x; simp only [cntF, degTo_len]; omega
theorem cntF_le (E : List Ed) (k x : Nat) : cntF E k x ≤ k := by
  cases x with
  | zero => simp [cntF]
  | succ x => have := List.length_filter_le (inc E x) (List.range k); simpa [cntF, degTo, adjTo] using this
/-- where the next edge of a vertex goes -/
def nxt (E : List Ed) (k x : Nat) : Nat := pre E x + degTo E k x
theorem nxt_zero (E : List Ed) (x : Nat) : nxt E 0 x = pre E x := by simp [nxt, degTo_zero]
theorem nxt_step {E : List Ed} {k u v : Nat} (hu : (eAt E k).u = u) (hv : (eAt E k).v = v) (x : Nat) :
    nxt E (k + 1) x = if x = v then nxt E k v + 1 else if x = u then nxt E k u + 1 else nxt E k x := by
  simp only [nxt, degTo_succ, inc, hu, hv, decide_eq_true_eq]
  by_cases h1 : x = v
  · subst h1; simp; omega
  · by_cases h2 : x = u
    · subst h2; simp [h1]; omega
    · rw [if_neg h1, if_neg h2, if_neg (by omega)]
theorem GOk.nxt_lt {n : Nat} {E : List Ed} (G : GOk n E) {k x : Nat} (hk : k < E.length) (hx : x < n) (hi : inc E x k = true) : nxt E k x < 2 * E.length := by
  have h1 := degTo_lt hk hi
  have h2 := pre_lt (E := E) hx h1
  rw [G.pre_n] at h2; exact h2
theorem GOk.nxt_le {n : Nat} {E : List Ed} (G : GOk n E) {k x : Nat} (hk : k ≤ E.length) (hx : x < n) : nxt E k x ≤ 2 * E.length := by
  have h1 := degTo_mono E x hk
  have h2 := G.pre_le (show x + 1 ≤ n from hx)
  rw [degTo_len] at h1
  simp only [pre] at h2; unfold nxt; omega
/-- the list of the edges of the vertices, as far as it goes -/
def Lst (E : List Ed) (n k : Nat) (f : Nat → Int) : Prop := ∀ x, x < n → ∀ j, j < degTo E k x → f (pre E x + j) = (adjTo E k x).getD j 0
theorem Lst.zero (E : List Ed) (n : Nat) (f : Nat → Int) : Lst E n 0 f := fun x _ j hj => by simp [degTo_zero] at hj
theorem inc_u {E : List Ed} {k u : Nat} (hu : (eAt E k).u = u) : inc E u k = true := by simp [inc, hu]
theorem inc_v {E : List Ed} {k v : Nat} (hv : (eAt E k).v = v) : inc E v k = true := by simp [inc, hv]
theorem Lst.step {E : List Ed} {n k u v : Nat} {f : Nat → Int} (L : Lst E n k f) (hk : k < E.length) (hu : (eAt E k).u = u) (hv : (eAt E k).v = v) :
    Lst E n (k + 1) (fun q => if q = nxt E k v then (k : Int) else if q = nxt E k u then (k : Int) else f q) := by
  intro x hx j hj
  have du := degTo_lt hk (inc_u hu)
  have dv := degTo_lt hk (inc_v hv)
  have hxl : degTo E (k + 1) x ≤ deg E x := degTo_mono E x (show k + 1 ≤ E.length by omega)
  have hadj := adjTo_succ E k x
  have hdeg := degTo_succ E k x
  dsimp only
  by_cases hlt : j < degTo E k x
  · have e1 : (adjTo E (k + 1) x).getD j 0 = (adjTo E k x).getD j 0 := by
      rw [hadj]; split
      · simp only [List.getD, List.getElem?_append_left (show j < (adjTo E k x).length from hlt)]
      · rfl
    rw [e1, ← L x hx j hlt]
    have n1 : ∀ y, (y = u ∨ y = v) → degTo E k y < deg E y → pre E x + j ≠ nxt E k y := fun y _ hy => by
      by_cases h : x = y
      · subst h; unfold nxt; omega
      · exact pre_sep h (by omega) hy
    rw [if_neg (n1 v (.inr rfl) dv), if_neg (n1 u (.inl rfl) du)]
  · have hi : inc E x k = true := by
      cases h : inc E x k with
      | true => rfl
      | false => rw [h] at hdeg; simp at hdeg; omega
    rw [if_pos hi] at hdeg hadj
    obtain rfl : j = degTo E k x := by omega
    rw [hadj]
    have e2 : (adjTo E k x ++ [k]).getD (degTo E k x) 0 = k := by simp [degTo]
    rw [e2]
    simp only [inc, hu, hv, decide_eq_true_eq] at hi
    rcases hi with h | h
    · have : u = x := by omega
      subst this
      by_cases hq : pre E u + degTo E k u = nxt E k v
      · rw [if_pos hq]
      · rw [if_neg hq]; exact if_pos rfl
    · have : v = x := by omega
      subst this
      exact if_pos rfl
theorem Lst.at {E : List Ed} {n : Nat} {f : Nat → Int} (L : Lst E n E.length f) {x j : Nat} (hx : x < n) (hj : j < deg E x) : f (pre E x + j) = (adj E x).getD j 0 := L x hx j hj
end Go.Proofs.Ytcpikabhcjkkmaa
