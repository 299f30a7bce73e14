/- Plain mathematics: the graph without one edge; the way back over the other edges, each step to the first edge that leads nearer. Conditions: the graph is one that is accepted. -/
import Derived.Test.YtcpikabhcjkkmaaPl
import Derived.Test.YtcpikabhcjkkmaaDelE
namespace Go.Proofs.Ytcpikabhcjkkmaa

/-- the edges but one -/
def NE (E : List Ed) (p i : Nat) : Prop := i < E.length ∧ i ≠ p
/-- where an edge stands once one is cut out, and where it stood -/
theorem lnk_cut {E : List Ed} {p i a b : Nat} (h : p < E.length) : Lnk (cutE E p) i a b ↔ Lnk E (if i < p then i else i + 1) a b := by
  unfold Lnk edP
  rw [cutE_at h]
section
variable {n : Nat} {E : List Ed} {p a v : Nat} {d d' : Nat → Int}
theorem wk_cut (h : p < E.length) {x k : Nat} : Wk (cutE E p) (· < (cutE E p).length) a x k ↔ Wk E (NE E p) a x k := by
  constructor
  · intro hw
    induction hw with
    | nil => exact .nil
    | @snoc b c k i _ hi hl ih =>
      have hi : i < (cutE E p).length := hi
      rw [cutE_len h] at hi
      refine .snoc ih ?_ ((lnk_cut h).1 hl)
      by_cases c : i < p
      · rw [if_pos c]; exact ⟨by omega, by omega⟩
      · rw [if_neg c]; exact ⟨by omega, by omega⟩
  · intro hw
    induction hw with
    | nil => exact .nil
    | @snoc b c k i _ hi hl ih =>
      obtain ⟨h1, h2⟩ := hi
      refine .snoc (i := if i < p then i else i - 1) ih ?_ ((lnk_cut h).2 ?_)
      · show _ < (cutE E p).length
        rw [cutE_len h]; split <;> omega
      · by_cases c : i < p
        · rw [if_pos c, if_pos c]; exact hl
        · rw [if_neg c, if_neg (by omega), show i - 1 + 1 = i by omega]; exact hl
theorem dist_cut (h : p < E.length) (hd : DistF (cutE E p) (· < (cutE E p).length) n v d) : DistF E (NE E p) n v d :=
  ⟨fun x hx h0 => (wk_cut h).1 (hd.up x hx h0), fun x k hw => hd.lo x k ((wk_cut h).2 hw), hd.neg⟩
theorem gok_cut (G : GOk n E) (h : p < E.length) : GOk n (cutE E p) :=
  ⟨G.n_le, by rw [cutE_len h]; have := G.m_le; omega, fun i hi => by
    rw [cutE_len h] at hi
    rw [cutE_at h]
    exact G.ends _ (by split <;> omega)⟩
/-- an edge that leads one step nearer -/
def stp (E : List Ed) (p : Nat) (d : Nat → Int) (v i : Nat) : Bool := decide (i ≠ p ∧ d (oN E v i) = d v - 1)
/-- the first edge of a vertex that leads one step nearer -/
def nx (E : List Ed) (p : Nat) (d : Nat → Int) (v : Nat) : Option Nat := (adj E v).find? (stp E p d v)
/-- the edges of the way back -/
def chn (E : List Ed) (p : Nat) (d : Nat → Int) : Nat → Nat → List Nat
  | 0, _ => []
  | k + 1, v => match nx E p d v with
    | some i => i :: chn E p d k (oN E v i)
    | none => []
/-- the cycle through an edge -/
def cyc (E : List Ed) (p : Nat) (d : Nat → Int) (a : Nat) : List Nat := if d a < 0 then [] else p :: chn E p d (d a).toNat a
theorem nx_mem {i : Nat} (h : nx E p d v = some i) : i < E.length ∧ inc E v i = true ∧ i ≠ p ∧ d (oN E v i) = d v - 1 := by
  have h1 := List.find?_some h
  have h2 := mem_adj.1 (List.mem_of_find?_eq_some h)
  simp only [stp, decide_eq_true_eq] at h1
  exact ⟨h2.1, h2.2, h1.1, h1.2⟩
theorem nx_some (G : GOk n E) (h : DistF E (NE E p) n a d) {x : Nat} (hx : x < n) (h0 : 0 < d x) : ∃ i, nx E p d x = some i := by
  obtain ⟨i, y, hi, hl, hy, hd⟩ := h.near G (fun i hi => hi.1) hx h0
  have ha := inc_lnk G hi.1 hl
  have hs : stp E p d x i = true := by
    have h1 := oN_lnk G hi.1 (mem_adj.1 ha).2
    have : oN E x i = y := by
      rcases lnk_two h1.1 hl with ⟨_, e⟩ | ⟨_, e⟩
      · exact e
      · exact absurd e.symm h1.2.1
    simp only [stp, decide_eq_true_eq, this]
    exact ⟨hi.2, hd⟩
  have : (nx E p d x).isSome = true := List.find?_isSome.2 ⟨i, ha, hs⟩
  exact Option.isSome_iff_exists.1 this
theorem nx_first {pre : List Nat} {i x : Nat} {r : List Nat} (hr : adj E x = pre ++ i :: r) (hp : ∀ j, j ∈ pre → stp E p d x j = false) (hs : stp E p d x i = true) : nx E p d x = some i := by
  unfold nx
  rw [hr, List.find?_append, List.find?_eq_none.2 (fun j hj => by rw [hp j hj]; simp), Option.none_or, List.find?_cons, hs]
theorem nx_none {x : Nat} (hp : ∀ j, j ∈ adj E x → stp E p d x j = false) : nx E p d x = none := List.find?_eq_none.2 fun j hj => by rw [hp j hj]; simp
theorem nx_congr (G : GOk n E) (hd : ∀ x, x < n → d x = d' x) {x : Nat} (hx : x < n) : nx E p d x = nx E p d' x := by
  unfold nx
  have : ∀ i, i ∈ adj E x → stp E p d x i = stp E p d' x i := fun i hi => by
    obtain ⟨h1, h2⟩ := mem_adj.1 hi
    unfold stp
    rw [hd x hx, hd _ (oN_lnk G h1 h2).2.2.1]
  generalize adj E x = l at this
  induction l with
  | nil => rfl
  | cons b l ih => rw [List.find?_cons, List.find?_cons, this b (List.mem_cons_self ..), ih fun i hi => this i (List.mem_cons_of_mem _ hi)]
theorem chn_congr (G : GOk n E) (hd : ∀ x, x < n → d x = d' x) : ∀ (k x : Nat), x < n → chn E p d k x = chn E p d' k x
  | 0, _, _ => rfl
  | k + 1, x, hx => by
    unfold chn
    rw [nx_congr G hd hx]
    split
    · rename_i i hi
      obtain ⟨h1, h2, _⟩ := nx_mem hi
      rw [chn_congr G hd k _ (oN_lnk G h1 h2).2.2.1]
    · rfl
theorem cyc_congr (G : GOk n E) (hd : ∀ x, x < n → d x = d' x) {x : Nat} (hx : x < n) : cyc E p d x = cyc E p d' x := by
  unfold cyc
  rw [hd x hx, chn_congr G hd _ x hx]
theorem zero_root (h : DistF E (NE E p) n a d) {x : Nat} (hx : x < n) (h0 : d x = 0) : x = a := by
  have := h.up x hx (by omega)
  rw [show (d x).toNat = 0 by omega] at this
  cases this; rfl
theorem chn_len (G : GOk n E) (h : DistF E (NE E p) n a d) : ∀ (k x : Nat), x < n → d x = (k : Nat) → (chn E p d k x).length = k
  | 0, _, _, _ => rfl
  | k + 1, x, hx, hk => by
    obtain ⟨i, hi⟩ := nx_some G h hx (by omega)
    obtain ⟨h1, h2, _, h4⟩ := nx_mem hi
    unfold chn
    rw [hi]
    show (chn E p d k (oN E x i)).length + 1 = k + 1
    rw [chn_len G h k _ (oN_lnk G h1 h2).2.2.1 (by rw [h4]; omega)]
theorem dist_list (G : GOk n E) (h : DistF E (NE E p) n a d) : ∀ (k x : Nat), x < n → d x = (k : Nat) → ∃ l : List Nat, l.Nodup ∧ (∀ y, y ∈ l → y < n ∧ d y ≤ k) ∧ l.length = k + 1
  | 0, x, hx, hk => ⟨[x], by simp, by simp; omega, rfl⟩
  | k + 1, x, hx, hk => by
    obtain ⟨i, hi⟩ := nx_some G h hx (by omega)
    obtain ⟨h1, h2, _, h4⟩ := nx_mem hi
    obtain ⟨l, e1, e2, e3⟩ := dist_list G h k _ (oN_lnk G h1 h2).2.2.1 (by rw [h4]; omega)
    refine ⟨x :: l, List.nodup_cons.2 ⟨fun hm => by have := (e2 x hm).2; omega, e1⟩, fun y hy => ?_, by simp [e3]⟩
    rcases List.mem_cons.1 hy with rfl | hy
    · exact ⟨hx, by omega⟩
    · have := e2 y hy; exact ⟨this.1, by omega⟩
theorem dist_lt (G : GOk n E) (h : DistF E (NE E p) n a d) {x : Nat} (hx : x < n) (h0 : 0 ≤ d x) : d x + 1 ≤ n := by
  obtain ⟨l, e1, e2, e3⟩ := dist_list G h (d x).toNat x hx (by omega)
  have := nodup_lt e1 fun y hy => (e2 y hy).1
  omega
theorem chn_step {i k x : Nat} (h : nx E p d x = some i) : chn E p d (k + 1) x = i :: chn E p d k (oN E x i) := by
  rw [chn, h]
end
end Go.Proofs.Ytcpikabhcjkkmaa
