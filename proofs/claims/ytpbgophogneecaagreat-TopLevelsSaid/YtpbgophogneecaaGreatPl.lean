/- Plain mathematics of graphs that are given by a list of edges: which lists are accepted, the edges of a vertex, and how a counting sort lays them out. No program is in sight. No conditions. -/
import Derived.Test.YtpbgophogneecaaGreatRows
namespace Go.Proofs.YtpbgophogneecaaGreat

/-- an edge: its ends, its weight -/
structure Ed where
  u : Int
  v : Int
  w : Int
def ed0 : Ed := ⟨0, 0, 0⟩
def eAt (E : List Ed) (i : Nat) : Ed := E.getD i ed0
def badE (n : Int) (e : Ed) : Bool := decide (e.u < 0 ∨ n ≤ e.u ∨ e.v < 0 ∨ n ≤ e.v)
/-- the first error among the edges -/
def scanE (n : Int) : List Ed → Int
  | [] => 0
  | e :: l => if badE n e then 3 else if e.u = e.v then 9 else scanE n l
/-- the error that New returns -/
def gErr (n : Int) (E : List Ed) : Int := if n < 0 ∨ 4096 < n ∨ 16384 < E.length then 2 else scanE n E

/-- a graph that is accepted -/
structure GOk (n : Nat) (E : List Ed) : Prop where
  n_le : n ≤ 4096
  m_le : E.length ≤ 16384
  ends : ∀ i, i < E.length → 0 ≤ (eAt E i).u ∧ (eAt E i).u < n ∧ 0 ≤ (eAt E i).v ∧ (eAt E i).v < n ∧ (eAt E i).u ≠ (eAt E i).v

theorem eAt_eq {E : List Ed} {i : Nat} (h : i < E.length) : eAt E i = E[i] := by simp [eAt, List.getD, h]
theorem drop_eAt {E : List Ed} {k : Nat} (h : k < E.length) : E.drop k = eAt E k :: E.drop (k + 1) := by
  rw [eAt_eq h, List.drop_eq_getElem_cons h]
theorem scanE_step {n : Int} {E : List Ed} {k : Nat} (h : k < E.length) : scanE n (E.drop k) = if badE n (eAt E k) then 3 else if (eAt E k).u = (eAt E k).v then 9 else scanE n (E.drop (k + 1)) := by
  rw [drop_eAt h]; rfl
theorem scanE_end {n : Int} {E : List Ed} : scanE n (E.drop E.length) = 0 := by simp [scanE]
theorem scanE_bad {n : Int} {E : List Ed} {k : Nat} (h : k < E.length) (hb : badE n (eAt E k) = true) : scanE n (E.drop k) = 3 := by rw [scanE_step h, if_pos hb]
theorem scanE_loop {n : Int} {E : List Ed} {k : Nat} (h : k < E.length) (hb : badE n (eAt E k) = false) (he : (eAt E k).u = (eAt E k).v) : scanE n (E.drop k) = 9 := by
  rw [scanE_step h, hb]; simp [he]
theorem scanE_next {n : Int} {E : List Ed} {k : Nat} (h : k < E.length) (hb : badE n (eAt E k) = false) (he : (eAt E k).u ≠ (eAt E k).v) : scanE n (E.drop k) = scanE n (E.drop (k + 1)) := by
  rw [scanE_step h, hb]; simp [he]
theorem scanE_zero {n : Int} : ∀ {E : List Ed}, scanE n E = 0 → ∀ e, e ∈ E → badE n e = false ∧ e.u ≠ e.v
  | [], _, e, he => by cases he
  | x :: l, h, e, he => by
    simp only [scanE] at h
    split at h
    · cases h
    · rename_i hb
      split at h
      · cases h
      · rename_i hn
        rcases List.mem_cons.1 he with rfl | he
        · exact ⟨by simpa using hb, hn⟩
        · exact scanE_zero h e he
theorem scanE_of {n : Int} : ∀ {E : List Ed}, (∀ e, e ∈ E → badE n e = false ∧ e.u ≠ e.v) → scanE n E = 0
  | [], _ => rfl
  | x :: l, h => by
    have h1 := h x (by simp)
    simp only [scanE, h1.1, h1.2, Bool.false_eq_true, if_false]
    exact scanE_of fun e he => h e (by simp [he])
theorem badE_iff {n : Int} {e : Ed} : badE n e = false ↔ 0 ≤ e.u ∧ e.u < n ∧ 0 ≤ e.v ∧ e.v < n := by
  simp only [badE, decide_eq_false_iff_not]; omega
theorem scanE_vals {n : Int} : ∀ (E : List Ed), scanE n E = 0 ∨ scanE n E = 3 ∨ scanE n E = 9
  | [] => .inl rfl
  | x :: l => by
    simp only [scanE]
    split
    · simp
    · split
      · simp
      · exact scanE_vals l
theorem gErr_zero {n : Int} {E : List Ed} (h : gErr n E = 0) : ∃ k : Nat, n = k ∧ GOk k E := by
  unfold gErr at h
  split at h
  · cases h
  · rename_i hn
    refine ⟨n.toNat, by omega, by omega, by omega, fun i hi => ?_⟩
    have h1 := scanE_zero h (eAt E i) (by rw [eAt_eq hi]; exact List.getElem_mem hi)
    have h2 := badE_iff.1 h1.1
    refine ⟨h2.1, ?_, h2.2.2.1, ?_, h1.2⟩ <;> omega
theorem gErr_ok {n : Nat} {E : List Ed} (h : GOk n E) : gErr n E = 0 := by
  have h1 := h.n_le; have h2 := h.m_le
  rw [gErr, if_neg (by omega)]
  refine scanE_of fun e he => ?_
  obtain ⟨i, hi, rfl⟩ := List.mem_iff_getElem.1 he
  have h3 := h.ends i hi
  rw [eAt_eq hi] at h3
  exact ⟨badE_iff.2 ⟨h3.1, h3.2.1, h3.2.2.1, h3.2.2.2.1⟩, h3.2.2.2.2⟩

/-- is a vertex an end of an edge? -/
def inc (E : List Ed) (x i : Nat) : Bool := decide ((eAt E i).u = x ∨ (eAt E i).v = x)
/-- the edges of a vertex among the first k ones -/
def adjTo (E : List Ed) (k x : Nat) : List Nat := (List.range k).filter (inc E x)
def adj (E : List Ed) (x : Nat) : List Nat := adjTo E E.length x
def degTo (E : List Ed) (k x : Nat) : Nat := (adjTo E k x).length
def deg (E : List Ed) (x : Nat) : Nat := (adj E x).length
theorem adjTo_succ (E : List Ed) (k x : Nat) : adjTo E (k + 1) x = if inc E x k then adjTo E k x ++ [k] else adjTo E k x := by
  simp only [adjTo, List.range_succ, List.filter_append, List.filter_cons, List.filter_nil]
  by_cases h : inc E x k <;> simp [h]
theorem degTo_succ (E : List Ed) (k x : Nat) : degTo E (k + 1) x = if inc E x k then degTo E k x + 1 else degTo E k x := by
  unfold degTo; rw [adjTo_succ]; split <;> simp
theorem degTo_zero (E : List Ed) (x : Nat) : degTo E 0 x = 0 := rfl
theorem degTo_mono (E : List Ed) (x : Nat) {j k : Nat} (h : j ≤ k) : degTo E j x ≤ degTo E k x := by
  induction k with
  | zero => rw [Nat.le_zero.1 h]; exact Nat.le_refl _
  | succ k ih =>
    by_cases e : j = k + 1
    · rw [e]; exact Nat.le_refl _
    · have := ih (by omega)
      rw [degTo_succ]; split <;> omega
theorem degTo_len (E : List Ed) (x : Nat) : degTo E E.length x = deg E x := rfl
theorem degTo_lt {E : List Ed} {x k : Nat} (hk : k < E.length) (hi : inc E x k = true) : degTo E k x < deg E x := by
  have h1 := degTo_mono E x (show k + 1 ≤ E.length by omega)
  rw [degTo_succ, if_pos hi, degTo_len] at h1; omega
theorem deg_le (E : List Ed) (x : Nat) : deg E x ≤ E.length := by
  have := List.length_filter_le (inc E x) (List.range E.length); simpa [deg, adj, adjTo] using this
theorem mem_adj {E : List Ed} {x i : Nat} : i ∈ adj E x ↔ i < E.length ∧ inc E x i = true := by simp [adj, adjTo]

/-- how many edges the vertices before x have -/
def pre (E : List Ed) : Nat → Nat
  | 0 => 0
  | x + 1 => pre E x + deg E x
theorem pre_mono (E : List Ed) {x y : Nat} (h : x ≤ y) : pre E x ≤ pre E y := by
  induction y with
  | zero => rw [Nat.le_zero.1 h]; exact Nat.le_refl _
  | succ y ih =>
    by_cases e : x = y + 1
    · rw [e]; exact Nat.le_refl _
    · have := ih (by omega); simp only [pre]; omega
theorem pre_lt {E : List Ed} {x y i : Nat} (h : x < y) (hi : i < deg E x) : pre E x + i < pre E y := by
  have := pre_mono E (show x + 1 ≤ y from h)
  simp only [pre] at this; omega
theorem pre_sep {E : List Ed} {x y i j : Nat} (h : x ≠ y) (hi : i < deg E x) (hj : j < deg E y) : pre E x + i ≠ pre E y + j := by
  rcases Nat.lt_or_gt_of_ne h with h | h
  · have := pre_lt h hi; omega
  · have := pre_lt h hj; omega
/-- the degrees of the vertices before y among the first k edges -/
def sumTo (E : List Ed) (k : Nat) : Nat → Nat
  | 0 => 0
  | x + 1 => sumTo E k x + degTo E k x
theorem sumTo_pre (E : List Ed) (y : Nat) : sumTo E E.length y = pre E y := by
  induction y with
  | zero => rfl
  | succ y ih => simp only [sumTo, pre, ih, degTo_len]
theorem sumTo_zero (E : List Ed) (y : Nat) : sumTo E 0 y = 0 := by
  induction y with
  | zero => rfl
  | succ y ih => simp only [sumTo, ih, degTo_zero]
theorem sumTo_succ {E : List Ed} {k u v : Nat} (hu : (eAt E k).u = u) (hv : (eAt E k).v = v) (hn : u ≠ v) (y : Nat) : sumTo E (k + 1) y = sumTo E k y + (if u < y then 1 else 0) + (if v < y then 1 else 0) := by
  induction y with
  | zero => simp [sumTo]
  | succ y ih =>
    simp only [sumTo, ih, degTo_succ, inc, hu, hv, decide_eq_true_eq]
    repeat' split
    all_goals omega
theorem GOk.nats {n : Nat} {E : List Ed} (G : GOk n E) {k : Nat} (hk : k < E.length) : ∃ u v : Nat, (eAt E k).u = u ∧ (eAt E k).v = v ∧ u < n ∧ v < n ∧ u ≠ v := by
  have h := G.ends k hk
  exact ⟨(eAt E k).u.toNat, (eAt E k).v.toNat, by omega, by omega, by omega, by omega, by omega⟩
theorem GOk.sum {n : Nat} {E : List Ed} (G : GOk n E) {k : Nat} (hk : k ≤ E.length) : sumTo E k n = 2 * k := by
  induction k with
  | zero => rw [sumTo_zero]
  | succ k ih =>
    obtain ⟨u, v, hu, hv, h1, h2, h3⟩ := G.nats (show k < E.length by omega)
    rw [sumTo_succ hu hv h3, ih (by omega), if_pos h1, if_pos h2]; omega
theorem GOk.pre_n {n : Nat} {E : List Ed} (G : GOk n E) : pre E n = 2 * E.length := by rw [← sumTo_pre, G.sum (Nat.le_refl _)]
theorem GOk.pre_le {n : Nat} {E : List Ed} (G : GOk n E) {x : Nat} (h : x ≤ n) : pre E x ≤ 2 * E.length := by have := pre_mono E h; rw [G.pre_n] at this; exact this
theorem GOk.deg_out {n : Nat} {E : List Ed} (G : GOk n E) {x : Nat} (h : n ≤ x) (k : Nat) (hk : k ≤ E.length) : degTo E k x = 0 := by
  induction k with
  | zero => rfl
  | succ k ih =>
    obtain ⟨u, v, hu, hv, h1, h2, h3⟩ := G.nats (show k < E.length by omega)
    rw [degTo_succ, ih (by omega), if_neg (by simp only [inc, hu, hv, decide_eq_true_eq]; omega)]

/-- the numbers of edges of the vertices, one place on -/
def cntF (E : List Ed) (k : Nat) : Nat → Nat
  | 0 => 0
  | x + 1 => degTo E k x
theorem cntF_step {E : List Ed} {k u v : Nat} (hu : (eAt E k).u = u) (hv : (eAt E k).v = v) (hn : u ≠ v) (x : Nat) :
    cntF E (k + 1) x = if x = v + 1 then cntF E k (v + 1) + 1 else if x = u + 1 then cntF E k (u + 1) + 1 else cntF E k x := by
  cases x with
  | zero => simp [cntF]
  | succ x =>
    simp only [cntF, degTo_succ, inc, hu, hv, decide_eq_true_eq, Nat.add_right_cancel_iff]
    by_cases h1 : x = v
    · subst h1; simp
    · by_cases h2 : x = u
      · subst h2; simp [h1]
      · rw [if_neg h1, if_neg h2, if_neg (by omega)]
theorem cntF_zero (E : List Ed) (x : Nat) : cntF E 0 x = 0 := by cases x <;> rfl
/-- the sums, when k of them have been formed -/
def pfx (E : List Ed) (k x : Nat) : Nat := if x ≤ k then pre E x else cntF E E.length x
theorem pfx_zero (E : List Ed) (x : Nat) : pfx E 0 x = cntF E E.length x := by
  unfold pfx; split
  · rename_i h; rw [Nat.le_zero.1 h]; rfl
  · rfl
theorem pfx_step (E : List Ed) (k x : Nat) : pfx E (k + 1) x = if x = k + 1 then pfx E k (k + 1) + pfx E k k else pfx E k x := by
  unfold pfx
  by_cases h : x = k + 1
  · subst h
    rw [if_pos (Nat.le_refl _), if_pos rfl, if_neg (by omega), if_pos (Nat.le_refl _)]
    simp only [pre, cntF, degTo_len]; omega
  · rw [if_neg h]
    by_cases h2 : x ≤ k
    · rw [if_pos h2, if_pos (by omega)]
    · rw [if_neg h2, if_neg (by omega)]
theorem pfx_end {E : List Ed} {n x : Nat} (h : x ≤ n) : pfx E n x = pre E x := by rw [pfx, if_pos h]
theorem pfx_le {n : Nat} {E : List Ed} (G : GOk n E) {k x : Nat} (hk : k ≤ n) : pfx E k x ≤ 32768 := by
  have hm := G.m_le
  unfold pfx; split
  · rename_i h; have := G.pre_le (show x ≤ n by omega); omega
  · cases x with
    | zero => simp [cntF]
    | succ x => have := deg_le E x; simp only [cntF, degTo_len]; omega
theorem cntF_le (E : List Ed) (k x : Nat) : cntF E k x ≤ k := by
  cases x with
  | zero => simp [cntF]
  | succ x => have := List.length_filter_le (inc E x) (List.range k); simpa [cntF, degTo, adjTo] using this
/-- where the next edge of a vertex goes -/
def nxt (E : List Ed) (k x : Nat) : Nat := pre E x + degTo E k x
theorem nxt_zero (E : List Ed) (x : Nat) : nxt E 0 x = pre E x := by simp [nxt, degTo_zero]
theorem nxt_step {E : List Ed} {k u v : Nat} (hu : (eAt E k).u = u) (hv : (eAt E k).v = v) (x : Nat) :
    nxt E (k + 1) x = if x = v then nxt E k v + 1 else if x = u then nxt E k u + 1 else nxt E k x := by
  simp only [nxt, degTo_succ, inc, hu, hv, decide_eq_true_eq]
  by_cases h1 : x = v
  · subst h1; simp; omega
  · by_cases h2 : x = u
    · subst h2; simp [h1]; omega
    · rw [if_neg h1, if_neg h2, if_neg (by omega)]
theorem GOk.nxt_lt {n : Nat} {E : List Ed} (G : GOk n E) {k x : Nat} (hk : k < E.length) (hx : x < n) (hi : inc E x k = true) : nxt E k x < 2 * E.length := by
  have h1 := degTo_lt hk hi
  have h2 := pre_lt (E := E) hx h1
  rw [G.pre_n] at h2; exact h2
theorem GOk.nxt_le {n : Nat} {E : List Ed} (G : GOk n E) {k x : Nat} (hk : k ≤ E.length) (hx : x < n) : nxt E k x ≤ 2 * E.length := by
  have h1 := degTo_mono E x hk
  have h2 := G.pre_le (show x + 1 ≤ n from hx)
  rw [degTo_len] at h1
  simp only [pre] at h2; unfold nxt; omega
/-- the list of the edges of the vertices, as far as it goes -/
def Lst (E : List Ed) (n k : Nat) (f : Nat → Int) : Prop := ∀ x, x < n → ∀ j, j < degTo E k x → f (pre E x + j) = (adjTo E k x).getD j 0
theorem Lst.zero (E : List Ed) (n : Nat) (f : Nat → Int) : Lst E n 0 f := fun x _ j hj => by simp [degTo_zero] at hj
theorem inc_u {E : List Ed} {k u : Nat} (hu : (eAt E k).u = u) : inc E u k = true := by simp [inc, hu]
theorem inc_v {E : List Ed} {k v : Nat} (hv : (eAt E k).v = v) : inc E v k = true := by simp [inc, hv]
theorem Lst.step {E : List Ed} {n k u v : Nat} {f : Nat → Int} (L : Lst E n k f) (hk : k < E.length) (hu : (eAt E k).u = u) (hv : (eAt E k).v = v) :
    Lst E n (k + 1) (fun q => if q = nxt E k v then (k : Int) else if q = nxt E k u then (k : Int) else f q) := by
  intro x hx j hj
  have du := degTo_lt hk (inc_u hu)
  have dv := degTo_lt hk (inc_v hv)
  have hxl : degTo E (k + 1) x ≤ deg E x := degTo_mono E x (show k + 1 ≤ E.length by omega)
  have hadj := adjTo_succ E k x
  have hdeg := degTo_succ E k x
  dsimp only
  by_cases hlt : j < degTo E k x
  · have e1 : (adjTo E (k + 1) x).getD j 0 = (adjTo E k x).getD j 0 := by
      rw [hadj]; split
      · simp only [List.getD, List.getElem?_append_left (show j < (adjTo E k x).length from hlt)]
      · rfl
    rw [e1, ← L x hx j hlt]
    have n1 : ∀ y, (y = u ∨ y = v) → degTo E k y < deg E y → pre E x + j ≠ nxt E k y := fun y _ hy => by
      by_cases h : x = y
      · subst h; unfold nxt; omega
      · exact pre_sep h (by omega) hy
    rw [if_neg (n1 v (.inr rfl) dv), if_neg (n1 u (.inl rfl) du)]
  · have hi : inc E x k = true := by
      cases h : inc E x k with
      | true => rfl
      | false => rw [h] at hdeg; simp at hdeg; omega
    rw [if_pos hi] at hdeg hadj
    obtain rfl : j = degTo E k x := by omega
    rw [hadj]
    have e2 : (adjTo E k x ++ [k]).getD (degTo E k x) 0 = k := by simp [degTo]
    rw [e2]
    simp only [inc, hu, hv, decide_eq_true_eq] at hi
    rcases hi with h | h
    · have : u = x := by omega
      subst this
      by_cases hq : pre E u + degTo E k u = nxt E k v
      · rw [if_pos hq]
      · rw [if_neg hq]; exact if_pos rfl
    · have : v = x := by omega
      subst this
      exact if_pos rfl
theorem Lst.at {E : List Ed} {n : Nat} {f : Nat → Int} (L : Lst E n E.length f) {x j : Nat} (hx : x < n) (hj : j < deg E x) : f (pre E x + j) = (adj E x).getD j 0 := L x hx j hj
end Go.Proofs.YtpbgophogneecaaGreat

/- Plain mathematics of components: labels that are joined pair by pair, connectivity, numbers of components, forests that are grown pair by pair. No conditions. -/
namespace Go.Proofs.YtpbgophogneecaaGreat

/-- labels after two vertices were connected -/
def joinF (k : Nat → Nat) (u v : Nat) : Nat → Nat := fun i => if k i = max (k u) (k v) then min (k u) (k v) else k i
/-- labels after pairs were connected, one after the other -/
def labL (ps : List (Nat × Nat)) : Nat → Nat := ps.foldl (fun k p => joinF k p.1 p.2) id
theorem labL_nil : labL [] = id := rfl
theorem labL_snoc (ps : List (Nat × Nat)) (u v : Nat) : labL (ps ++ [(u, v)]) = joinF (labL ps) u v := by simp [labL]
/-- labels that are least elements -/
structure LabOk (k : Nat → Nat) : Prop where
  le : ∀ i, k i ≤ i
  idem : ∀ i, k (k i) = k i
theorem LabOk.id : LabOk id := ⟨fun _ => Nat.le_refl _, fun _ => rfl⟩
theorem joinF_eq {k : Nat → Nat} (h : LabOk k) (u v i j : Nat) : joinF k u v i = joinF k u v j ↔ (k i = k j ∨ (k i = k u ∧ k j = k v) ∨ (k i = k v ∧ k j = k u)) := by
  unfold joinF
  have hu := h.idem u; have hv := h.idem v
  split <;> split <;> omega
theorem joinF_ok {k : Nat → Nat} (h : LabOk k) (u v : Nat) : LabOk (joinF k u v) := by
  refine ⟨fun i => ?_, fun i => ?_⟩
  · have := h.le i
    unfold joinF; split <;> omega
  · have hu := h.idem u; have hv := h.idem v; have hi := h.idem i
    have hm : k (min (k u) (k v)) = min (k u) (k v) := by
      rcases Nat.le_total (k u) (k v) with c | c
      · rw [Nat.min_eq_left c]; exact hu
      · rw [Nat.min_eq_right c]; exact hv
    unfold joinF
    by_cases c : k i = max (k u) (k v)
    · rw [if_pos c, hm]
      split <;> omega
    · rw [if_neg c, hi, if_neg c]
theorem labL_ok (ps : List (Nat × Nat)) : LabOk (labL ps) := by
  have key : ∀ (ps : List (Nat × Nat)) (k : Nat → Nat), LabOk k → LabOk (ps.foldl (fun k p => joinF k p.1 p.2) k) := by
    intro ps
    induction ps with
    | nil => intro k h; exact h
    | cons p ps ih => intro k h; exact ih _ (joinF_ok h p.1 p.2)
  exact key ps _ LabOk.id
theorem joinF_same {k : Nat → Nat} {u v : Nat} (h : k u = k v) : joinF k u v = k := by
  funext i
  unfold joinF
  rw [h, Nat.max_self, Nat.min_self]
  split <;> omega

/-- two vertices are connected -/
inductive Cn (ps : List (Nat × Nat)) : Nat → Nat → Prop
  | refl (a : Nat) : Cn ps a a
  | step {a b c : Nat} (h : Cn ps a b) (e : (b, c) ∈ ps ∨ (c, b) ∈ ps) : Cn ps a c
section
variable {ps qs : List (Nat × Nat)} {a b c : Nat}
theorem Cn.trans (h : Cn ps a b) (k : Cn ps b c) : Cn ps a c := by
  induction k with
  | refl => exact h
  | step _ e ih => exact .step ih e
theorem Cn.one (e : (a, b) ∈ ps ∨ (b, a) ∈ ps) : Cn ps a b := .step (.refl a) e
theorem Cn.symm (h : Cn ps a b) : Cn ps b a := by
  induction h with
  | refl => exact .refl _
  | step _ e ih => exact (Cn.one e.symm).trans ih
theorem Cn.mono (h : Cn ps a b) (hs : ∀ p, p ∈ ps → p ∈ qs) : Cn qs a b := by
  induction h with
  | refl => exact .refl _
  | step _ e ih => exact .step ih (e.imp (hs _) (hs _))
theorem cn_snoc {u v : Nat} : Cn (ps ++ [(u, v)]) a b ↔ (Cn ps a b ∨ (Cn ps a u ∧ Cn ps v b) ∨ (Cn ps a v ∧ Cn ps u b)) := by
  constructor
  · intro h
    induction h with
    | refl => exact .inl (.refl _)
    | @step b c _ e ih =>
      have e' : ((b, c) ∈ ps ∨ (c, b) ∈ ps) ∨ (b = u ∧ c = v) ∨ (b = v ∧ c = u) := by
        simp only [List.mem_append, List.mem_singleton, Prod.mk.injEq] at e
        rcases e with (e | e) | (e | e)
        · exact .inl (.inl e)
        · exact .inr (.inl e)
        · exact .inl (.inr e)
        · exact .inr (.inr ⟨e.2, e.1⟩)
      rcases e' with e | ⟨rfl, rfl⟩ | ⟨rfl, rfl⟩
      · rcases ih with h | ⟨h1, h2⟩ | ⟨h1, h2⟩
        · exact .inl (.step h e)
        · exact .inr (.inl ⟨h1, .step h2 e⟩)
        · exact .inr (.inr ⟨h1, .step h2 e⟩)
      · rcases ih with h | ⟨h1, h2⟩ | ⟨h1, h2⟩
        · exact .inr (.inl ⟨h, .refl _⟩)
        · exact .inr (.inl ⟨h1, .refl _⟩)
        · exact .inl h1
      · rcases ih with h | ⟨h1, h2⟩ | ⟨h1, h2⟩
        · exact .inr (.inr ⟨h, .refl _⟩)
        · exact .inl h1
        · exact .inr (.inr ⟨h1, .refl _⟩)
  · have up : ∀ {x y}, Cn ps x y → Cn (ps ++ [(u, v)]) x y := fun h => h.mono fun p hp => List.mem_append_left _ hp
    have uv : Cn (ps ++ [(u, v)]) u v := .one (.inl (by simp))
    rintro (h | ⟨h1, h2⟩ | ⟨h1, h2⟩)
    · exact up h
    · exact ((up h1).trans uv).trans (up h2)
    · exact ((up h1).trans uv.symm).trans (up h2)
theorem rev_ind {α : Type} {P : List α → Prop} (h0 : P []) (h1 : ∀ l a, P l → P (l ++ [a])) (l : List α) : P l := by
  have key : ∀ (n : Nat) (l : List α), l.length = n → P l := by
    intro n
    induction n with
    | zero => intro l hl; rw [List.eq_nil_of_length_eq_zero hl]; exact h0
    | succ n ih =>
      intro l hl
      have hne : l ≠ [] := fun e => by rw [e] at hl; cases hl
      rw [← List.dropLast_concat_getLast hne]
      exact h1 _ _ (ih _ (by rw [List.length_dropLast]; omega))
  exact key _ l rfl
/-- two vertices have one label exactly if they are connected -/
theorem labL_cn (ps : List (Nat × Nat)) : ∀ i j, labL ps i = labL ps j ↔ Cn ps i j := by
  induction ps using rev_ind with
  | h0 =>
    intro i j
    constructor
    · intro h; have h : i = j := h; subst h; exact .refl _
    · intro h
      induction h with
      | refl => rfl
      | step _ e => simp at e
  | h1 ps p ih =>
    obtain ⟨u, v⟩ := p
    intro i j
    rw [labL_snoc, joinF_eq (labL_ok ps), cn_snoc, ih, ih, ih, ih, ih]
    constructor
    · rintro (h | ⟨h1, h2⟩ | ⟨h1, h2⟩)
      · exact .inl h
      · exact .inr (.inl ⟨h1, h2.symm⟩)
      · exact .inr (.inr ⟨h1, h2.symm⟩)
    · rintro (h | ⟨h1, h2⟩ | ⟨h1, h2⟩)
      · exact .inl h
      · exact .inr (.inl ⟨h1, h2.symm⟩)
      · exact .inr (.inr ⟨h1, h2.symm⟩)
theorem labL_least (h : Cn ps a b) : labL ps a ≤ b := by
  rw [(labL_cn ps a b).2 h]; exact (labL_ok ps).le b
theorem cn_lab (ps : List (Nat × Nat)) (a : Nat) : Cn ps a (labL ps a) := (labL_cn ps _ _).1 ((labL_ok ps).idem a).symm
/-- the same connectivity, the same labels -/
theorem labL_same (h : ∀ a b, Cn ps a b ↔ Cn qs a b) : labL ps = labL qs := by
  funext a
  exact Nat.le_antisymm (labL_least ((h _ _).2 (cn_lab qs a))) (labL_least ((h _ _).1 (cn_lab ps a)))
theorem labL_uniq {k : Nat → Nat} (h1 : ∀ a, Cn ps a (k a)) (h2 : ∀ a b, Cn ps a b → k a ≤ b) : k = labL ps := by
  funext a
  exact Nat.le_antisymm (h2 _ _ (cn_lab ps a)) (labL_least (h1 a))
end

/-! numbers of components -/
/-- how many of the first n vertices are labels -/
def cntN (n : Nat) (k : Nat → Nat) : Nat := ((List.range n).filter fun i => decide (k i = i)).length
theorem cntN_id (n : Nat) : cntN n id = n := by
  unfold cntN
  rw [List.filter_eq_self.2 (fun i _ => by simp)]
  exact List.length_range
theorem cntN_mono {n : Nat} {k k' : Nat → Nat} (h : ∀ i, i < n → k' i = i → k i = i) : cntN n k' ≤ cntN n k := by
  unfold cntN
  induction n with
  | zero => simp
  | succ n ih =>
    rw [List.range_succ, List.filter_append, List.filter_append, List.length_append, List.length_append]
    have := ih fun i hi => h i (by omega)
    have h2 : ([n].filter fun i => decide (k' i = i)).length ≤ ([n].filter fun i => decide (k i = i)).length := by
      have := h n (by omega)
      by_cases c : k' n = n
      · simp [c, this c]
      · simp [c]
    omega
theorem cntN_eq {n : Nat} {k k' : Nat → Nat} (h : ∀ i, i < n → k' i = i → k i = i) (hc : cntN n k' = cntN n k) : ∀ i, i < n → (k i = i ↔ k' i = i) := by
  induction n with
  | zero => intro i hi; omega
  | succ n ih =>
    have h0 := cntN_mono fun i (hi : i < n) => h i (by omega)
    have e : ∀ k : Nat → Nat, cntN (n + 1) k = cntN n k + (if k n = n then 1 else 0) := fun k => by
      unfold cntN
      rw [List.range_succ, List.filter_append, List.length_append]
      split <;> simp_all
    rw [e, e] at hc
    have hn := h n (by omega)
    have e1 : (if k' n = n then 1 else 0) ≤ (if k n = n then 1 else (0 : Nat)) := by
      by_cases c : k' n = n
      · simp [c, hn c]
      · simp [c]
    have hc1 : cntN n k' = cntN n k := by omega
    intro i hi
    by_cases hin : i = n
    · subst hin
      constructor
      · intro c
        by_cases d : k' i = i
        · exact d
        · rw [if_pos c, if_neg d] at hc; omega
      · exact hn
    · exact ih (fun i hi => h i (by omega)) hc1 i (by omega)
/-- a pair of two components makes one less -/
theorem cntN_join {n : Nat} {k : Nat → Nat} (h : LabOk k) {u v : Nat} (hu : u < n) (hv : v < n) (hne : k u ≠ k v) : cntN n (joinF k u v) + 1 = cntN n k := by
  have hm : ∀ i, (joinF k u v i = i ↔ (k i = i ∧ i ≠ max (k u) (k v))) := fun i => by
    have hu' := h.idem u; have hv' := h.idem v; have hi := h.le i
    unfold joinF
    by_cases c : k i = max (k u) (k v)
    · rw [if_pos c]
      constructor
      · intro e; omega
      · rintro ⟨e1, e2⟩; omega
    · rw [if_neg c]
      constructor
      · intro e; exact ⟨e, fun d => c (e.trans d)⟩
      · exact fun e => e.1
  have hM : max (k u) (k v) < n := by have := h.le u; have := h.le v; omega
  have hMk : k (max (k u) (k v)) = max (k u) (k v) := by
    rcases Nat.le_total (k u) (k v) with c | c
    · rw [Nat.max_eq_right c]; exact h.idem v
    · rw [Nat.max_eq_left c]; exact h.idem u
  generalize max (k u) (k v) = M at *
  unfold cntN
  have e1 : (List.range n).filter (fun i => decide (joinF k u v i = i)) = ((List.range n).filter fun i => decide (k i = i)).filter fun i => decide (i ≠ M) := by
    rw [List.filter_filter]
    refine List.filter_congr fun i _ => ?_
    have := hm i
    by_cases c : k i = i <;> by_cases d : i = M
    · have e : ¬ joinF k u v i = i := fun e => (this.1 e).2 d
      simp [d, d ▸ e]
    · have e : joinF k u v i = i := this.2 ⟨c, d⟩
      simp [c, d, e]
    · have e : ¬ joinF k u v i = i := fun e => (this.1 e).2 d
      simp [d, d ▸ e]
    · have e : ¬ joinF k u v i = i := fun e => c (this.1 e).1
      simp [c, e]
  rw [e1]
  have hmem : M ∈ (List.range n).filter fun i => decide (k i = i) := List.mem_filter.2 ⟨List.mem_range.2 hM, by simpa using hMk⟩
  have hnd : ((List.range n).filter fun i => decide (k i = i)).Nodup := List.nodup_range.filter _
  generalize (List.range n).filter (fun i => decide (k i = i)) = l at *
  have e2 : l.filter (fun i => decide (i ≠ M)) = l.erase M := by
    rw [hnd.erase_eq_filter]
    refine List.filter_congr fun i _ => ?_
    simp [bne]
    by_cases hd : i = M <;> simp [hd]
  rw [e2, List.length_erase_of_mem hmem]
  have := List.length_pos_of_mem hmem
  omega
end Go.Proofs.YtpbgophogneecaaGreat

/- Plain mathematics of the forest that Kruskal grows. No conditions. -/
namespace Go.Proofs.YtpbgophogneecaaGreat

/-- the ends of an edge -/
def edP (E : List Ed) (i : Nat) : Nat × Nat := ((eAt E i).u.toNat, (eAt E i).v.toNat)
/-- the labels behind some edges -/
def labO (E : List Ed) (o : List Nat) : Nat → Nat := labL (o.map (edP E))
/-- is an edge accepted? -/
def accB (E : List Ed) (k : Nat → Nat) (i : Nat) : Bool := decide (k (edP E i).1 ≠ k (edP E i).2)
def fstep (E : List Ed) (s : (Nat → Nat) × List Nat) (i : Nat) : (Nat → Nat) × List Nat :=
  (joinF s.1 (edP E i).1 (edP E i).2, if accB E s.1 i then s.2 ++ [i] else s.2)
/-- the edges that are accepted -/
def frs (E : List Ed) (o : List Nat) : List Nat := (o.foldl (fstep E) (id, [])).2
theorem foldl_lab (E : List Ed) (o : List Nat) : (o.foldl (fstep E) (id, [])).1 = labO E o := by
  induction o using rev_ind with
  | h0 => rfl
  | h1 o i ih =>
    rw [List.foldl_append, List.foldl_cons, List.foldl_nil]
    unfold labO at *
    rw [List.map_append, List.map_cons, List.map_nil, labL_snoc, ← ih]
    rfl
theorem labO_snoc (E : List Ed) (o : List Nat) (i : Nat) : labO E (o ++ [i]) = joinF (labO E o) (edP E i).1 (edP E i).2 := by
  unfold labO
  rw [List.map_append, List.map_cons, List.map_nil, labL_snoc]
theorem frs_snoc (E : List Ed) (o : List Nat) (i : Nat) : frs E (o ++ [i]) = if accB E (labO E o) i then frs E o ++ [i] else frs E o := by
  unfold frs
  rw [List.foldl_append, List.foldl_cons, List.foldl_nil, ← foldl_lab]
  rfl
theorem frs_nil (E : List Ed) : frs E [] = [] := rfl
theorem labO_nil (E : List Ed) : labO E [] = id := rfl
theorem labO_ok (E : List Ed) (o : List Nat) : LabOk (labO E o) := labL_ok _
theorem frs_sub (E : List Ed) (o : List Nat) : (frs E o).Sublist o := by
  induction o using rev_ind with
  | h0 => exact List.Sublist.refl _
  | h1 o i ih =>
    rw [frs_snoc]
    split
    · exact ih.append (List.Sublist.refl _)
    · exact ih.trans (List.sublist_append_left _ _)
theorem frs_len (E : List Ed) (o : List Nat) : (frs E o).length ≤ o.length := (frs_sub E o).length_le
/-- the accepted edges connect what all connect -/
theorem labO_frs (E : List Ed) (o : List Nat) : labO E (frs E o) = labO E o := by
  induction o using rev_ind with
  | h0 => rfl
  | h1 o i ih =>
    rw [frs_snoc, labO_snoc]
    split
    · rw [labO_snoc, ih]
    · rename_i h
      have h : labO E o (edP E i).1 = labO E o (edP E i).2 := by simpa [accB] using h
      rw [joinF_same h, ih]
/-- edges whose ends are vertices -/
def InE (n : Nat) (E : List Ed) (o : List Nat) : Prop := ∀ i, i ∈ o → (edP E i).1 < n ∧ (edP E i).2 < n
/-- each accepted edge makes one component less -/
theorem frs_rank {n : Nat} {E : List Ed} {o : List Nat} (h : InE n E o) : (frs E o).length + cntN n (labO E o) = n := by
  induction o using rev_ind with
  | h0 => rw [frs_nil, labO_nil, cntN_id]; simp
  | h1 o i ih =>
    have ih := ih fun j hj => h j (List.mem_append_left _ hj)
    have hi := h i (by simp)
    rw [frs_snoc, labO_snoc]
    split
    · rename_i hc
      have hc : labO E o (edP E i).1 ≠ labO E o (edP E i).2 := by simpa [accB] using hc
      have := cntN_join (labO_ok E o) hi.1 hi.2 hc
      rw [List.length_append, List.length_singleton]; omega
    · rename_i hc
      have hc : labO E o (edP E i).1 = labO E o (edP E i).2 := by simpa [accB] using hc
      rw [joinF_same hc]; exact ih
end Go.Proofs.YtpbgophogneecaaGreat

/- Plain mathematics: vertices that edges of a set join. No conditions. -/
namespace Go.Proofs.YtpbgophogneecaaGreat

/-- an edge between two vertices -/
def Lnk (E : List Ed) (i a b : Nat) : Prop := edP E i = (a, b) ∨ edP E i = (b, a)
theorem Lnk.symm {E : List Ed} {i a b : Nat} (h : Lnk E i a b) : Lnk E i b a := h.elim .inr .inl
/-- joined by edges of a set -/
inductive CI (E : List Ed) (S : Nat → Prop) : Nat → Nat → Prop
  | refl (a : Nat) : CI E S a a
  | step {a b c : Nat} (i : Nat) (h : CI E S a b) (hi : S i) (e : Lnk E i b c) : CI E S a c
section
variable {E : List Ed} {S T : Nat → Prop} {a b c : Nat}
theorem CI.trans (h : CI E S a b) (k : CI E S b c) : CI E S a c := by
  induction k with
  | refl => exact h
  | step i _ hi e ih => exact .step i ih hi e
theorem CI.one {i : Nat} (hi : S i) (e : Lnk E i a b) : CI E S a b := .step i (.refl a) hi e
theorem CI.symm (h : CI E S a b) : CI E S b a := by
  induction h with
  | refl => exact .refl _
  | step i _ hi e ih => exact (CI.one hi e.symm).trans ih
theorem CI.mono (h : CI E S a b) (hs : ∀ i, S i → T i) : CI E T a b := by
  induction h with
  | refl => exact .refl _
  | step i _ hi e ih => exact .step i ih (hs i hi) e
theorem ci_cn {o : List Nat} : CI E (· ∈ o) a b ↔ Cn (o.map (edP E)) a b := by
  constructor
  · intro h
    induction h with
    | refl => exact .refl _
    | @step b c i _ hi e ih => exact .step ih (e.imp (fun e => by rw [← e]; exact List.mem_map_of_mem hi) (fun e => by rw [← e]; exact List.mem_map_of_mem hi))
  · intro h
    induction h with
    | refl => exact .refl _
    | step _ e ih =>
      rcases e with e | e
      · obtain ⟨i, hi, he⟩ := List.mem_map.1 e
        exact .step i ih hi (.inl he)
      · obtain ⟨i, hi, he⟩ := List.mem_map.1 e
        exact .step i ih hi (.inr he)
end
/-- a set without one edge -/
def wo (S : Nat → Prop) (i : Nat) : Nat → Prop := fun j => S j ∧ j ≠ i
section
variable {E : List Ed} {F : Nat → Prop} {v u t i : Nat}
/-- the first edge of a path that does not come back -/
theorem ci_first {S : Nat → Prop} (h : CI E S v t) (hne : v ≠ t) : ∃ i u, S i ∧ Lnk E i v u ∧ CI E (wo S i) u t := by
  induction h with
  | refl => exact absurd rfl hne
  | @step b c e _ he hl ih =>
    by_cases hb : v = b
    · subst hb; exact ⟨e, c, he, hl, .refl _⟩
    · obtain ⟨i, u, h1, h2, h3⟩ := ih hb
      refine ⟨i, u, h1, h2, ?_⟩
      by_cases hei : e = i
      · subst hei
        have : b = u ∧ c = v ∨ b = v ∧ c = u := by
          rcases hl with x | x <;> rcases h2 with y | y <;> rw [x] at y <;> simp at y <;> omega
        rcases this with ⟨x, y⟩ | ⟨x, _⟩
        · exact absurd y.symm hne
        · exact absurd x.symm hb
      · exact .step e h3 ⟨he, hei⟩ hl
/-- a path without an edge, or up to it -/
theorem ci_split {S : Nat → Prop} {a b x : Nat} (hl : Lnk E i a b) (h : CI E S x t) (hx : x = a ∨ x = b) : CI E (wo S i) a t ∨ CI E (wo S i) b t := by
  induction h with
  | refl =>
    rcases hx with e | e
    · rw [e]; exact .inl (.refl _)
    · rw [e]; exact .inr (.refl _)
  | @step y z e _ he hle ih =>
    by_cases hei : e = i
    · subst hei
      have : z = a ∨ z = b := by
        rcases hl with p | p <;> rcases hle with q | q <;> rw [p] at q <;> simp at q <;> omega
      rcases this with e | e
      · rw [e]; exact .inl (.refl _)
      · rw [e]; exact .inr (.refl _)
    · exact ih.imp (fun k => .step e k ⟨he, hei⟩ hle) (fun k => .step e k ⟨he, hei⟩ hle)
end
section
variable {E : List Ed} {S T : Nat → Prop} {o : List Nat} {a b x y i k : Nat}
theorem ci_ends (h : ∀ k, S k → CI E T (edP E k).1 (edP E k).2) (hc : CI E S a b) : CI E T a b := by
  induction hc with
  | refl => exact .refl _
  | @step b c k _ hk hl ih =>
    have h1 := h k hk
    rcases hl with e | e
    · rw [e] at h1; exact ih.trans h1
    · rw [e] at h1; exact ih.trans h1.symm
theorem ci_add (hl : edP E i = (a, b)) (h : CI E (fun k => S k ∨ k = i) x y) : CI E S x y ∨ (CI E S x a ∧ CI E S b y) ∨ (CI E S x b ∧ CI E S a y) := by
  induction h with
  | refl => exact .inl (.refl _)
  | @step c d k _ hk hl2 ih =>
    by_cases hki : k = i
    · subst hki
      have hcd : (c = a ∧ d = b) ∨ (c = b ∧ d = a) := by
        rcases hl2 with e | e <;> rw [hl] at e <;> simp at e <;> omega
      rcases hcd with ⟨rfl, rfl⟩ | ⟨rfl, rfl⟩
      · rcases ih with h | ⟨h1, h2⟩ | ⟨h1, h2⟩
        · exact .inr (.inl ⟨h, .refl _⟩)
        · exact .inr (.inl ⟨h1, .refl _⟩)
        · exact .inl h1
      · rcases ih with h | ⟨h1, h2⟩ | ⟨h1, h2⟩
        · exact .inr (.inr ⟨h, .refl _⟩)
        · exact .inl h1
        · exact .inr (.inr ⟨h1, .refl _⟩)
    · have hS := hk.resolve_right hki
      rcases ih with h | ⟨h1, h2⟩ | ⟨h1, h2⟩
      · exact .inl (.step k h hS hl2)
      · exact .inr (.inl ⟨h1, .step k h2 hS hl2⟩)
      · exact .inr (.inr ⟨h1, .step k h2 hS hl2⟩)
theorem ci_one (hk : S k) : CI E S (edP E k).1 (edP E k).2 := CI.one hk (.inl rfl)
theorem ci_lab {a b : Nat} : CI E (· ∈ o) a b ↔ labO E o a = labO E o b := by
  rw [ci_cn]; exact (labL_cn _ a b).symm
end
end Go.Proofs.YtpbgophogneecaaGreat
