/- Plain mathematics of the search for a path in a forest: what is found, and why the search ends. No conditions. -/
import Derived.Test.YtbmcflmflmlmaaaRank
import Derived.Test.YtbmcflmflmlmaaaLat
namespace Go.Proofs.Ytbmcflmflmlmaaa

/-- an edge between two vertices -/
def Lnk (E : List Ed) (i a b : Nat) : Prop := edP E i = (a, b) ∨ edP E i = (b, a)
theorem Lnk.symm {E : List Ed} {i a b : Nat} (h : Lnk E i a b) : Lnk E i b a := h.elim .inr .inl
/-- joined by edges of a set -/
inductive CI (E : List Ed) (S : Nat → Prop) : Nat → Nat → Prop
  | refl (a : Nat) : CI E S a a
  | step {a b c : Nat} (i : Nat) (h : CI E S a b) (hi : S i) (e : Lnk E i b c) : CI E S a c
section
variable {E : List Ed} {S T : Nat → Prop} {a b c : Nat}
theorem CI.trans (h : CI E S a b) (k : CI E S b c) : CI E S a c := by
  induction k with
  | refl => exact h
  | step i _ hi e ih => exact .step i ih hi e
theorem CI.one {i : Nat} (hi : S i) (e : Lnk E i a b) : CI E S a b := .step i (.refl a) hi e
theorem CI.symm (h : CI E S a b) : CI E S b a := by
  induction h with
  | refl => exact .refl _
  | step i _ hi e ih => exact (CI.one hi e.symm).trans ih
theorem CI.mono (h : CI E S a b) (hs : ∀ i, S i → T i) : CI E T a b := by
  induction h with
  | refl => exact .refl _
  | step i _ hi e ih => exact .step i ih (hs i hi) e
theorem ci_cn {o : List Nat} : CI E (· ∈ o) a b ↔ Cn (o.map (edP E)) a b := by
  constructor
  · intro h
    induction h with
    | refl => exact .refl _
    | @step b c i _ hi e ih => exact .step ih (e.imp (fun e => by rw [← e]; exact List.mem_map_of_mem hi) (fun e => by rw [← e]; exact List.mem_map_of_mem hi))
  · intro h
    induction h with
    | refl => exact .refl _
    | step _ e ih =>
      rcases e with e | e
      · obtain ⟨i, hi, he⟩ := List.mem_map.1 e
        exact .step i ih hi (.inl he)
      · obtain ⟨i, hi, he⟩ := List.mem_map.1 e
        exact .step i ih hi (.inr he)
end
/-- a set without one edge -/
def wo (S : Nat → Prop) (i : Nat) : Nat → Prop := fun j => S j ∧ j ≠ i
/-- an edge of a forest is the one way between its ends -/
def Cut (E : List Ed) (F : Nat → Prop) : Prop := ∀ i a b, F i → Lnk E i a b → ¬ CI E (wo F i) a b
theorem acy_cut {n : Nat} {E : List Ed} {p : List Nat} (h : InE n E p) (ha : Acy E p) : Cut E (· ∈ p) := fun i a b hi hl hc => by
  have hf : Acy E (p.filter fun j => decide (j ≠ i)) := acy_part h ha _
  have hin : InE n E (p.filter fun j => decide (j ≠ i)) := fun j hj => h j (List.mem_filter.1 hj).1
  have hc2 : CI E (· ∈ p.filter fun j => decide (j ≠ i)) a b := hc.mono fun j hj => List.mem_filter.2 ⟨hj.1, by simpa using hj.2⟩
  have hl1 : labO E (p.filter fun j => decide (j ≠ i)) (edP E i).1 = labO E (p.filter fun j => decide (j ≠ i)) (edP E i).2 := by
    have h1 := (labL_cn _ a b).2 (ci_cn.1 hc2)
    unfold labO
    rcases hl with e | e <;> rw [e]
    · exact h1
    · exact h1.symm
  have hs : ∀ j, j ∈ p ↔ j ∈ (p.filter fun j => decide (j ≠ i)) ++ [i] := fun j => by
    simp only [List.mem_append, List.mem_filter, List.mem_singleton, decide_eq_true_eq]
    by_cases e : j = i
    · subst e; simp [hi]
    · simp [e]
  have h2 : InE n E ((p.filter fun j => decide (j ≠ i)) ++ [i]) := fun j hj => h j ((hs j).2 hj)
  have e1 := (acy_iff h).1 ha
  have e2 := rk_frs h2
  rw [frs_snoc, accB, if_neg (by simpa using hl1)] at e2
  rw [rk_set hs] at e1
  have e3 := frs_len E (p.filter fun j => decide (j ≠ i))
  have e4 : (p.filter fun j => decide (j ≠ i)).length < p.length := by
    rcases Nat.lt_or_ge (p.filter fun j => decide (j ≠ i)).length p.length with c | c
    · exact c
    · have := List.filter_sublist (p := fun j => decide (j ≠ i)) (l := p)
      have := this.eq_of_length (by have := this.length_le; omega)
      have hm : i ∈ p.filter fun j => decide (j ≠ i) := by rw [this]; exact hi
      simp at hm
  omega
section
variable {E : List Ed} {F : Nat → Prop} {v u t i : Nat}
/-- the first edge of a path that does not come back -/
theorem ci_first {S : Nat → Prop} (h : CI E S v t) (hne : v ≠ t) : ∃ i u, S i ∧ Lnk E i v u ∧ CI E (wo S i) u t := by
  induction h with
  | refl => exact absurd rfl hne
  | @step b c e _ he hl ih =>
    by_cases hb : v = b
    · subst hb; exact ⟨e, c, he, hl, .refl _⟩
    · obtain ⟨i, u, h1, h2, h3⟩ := ih hb
      refine ⟨i, u, h1, h2, ?_⟩
      by_cases hei : e = i
      · subst hei
        have : b = u ∧ c = v ∨ b = v ∧ c = u := by
          rcases hl with x | x <;> rcases h2 with y | y <;> rw [x] at y <;> simp at y <;> omega
        rcases this with ⟨x, y⟩ | ⟨x, _⟩
        · exact absurd y.symm hne
        · exact absurd x.symm hb
      · exact .step e h3 ⟨he, hei⟩ hl
/-- a path without an edge, or up to it -/
theorem ci_split {S : Nat → Prop} {a b x : Nat} (hl : Lnk E i a b) (h : CI E S x t) (hx : x = a ∨ x = b) : CI E (wo S i) a t ∨ CI E (wo S i) b t := by
  induction h with
  | refl =>
    rcases hx with e | e
    · rw [e]; exact .inl (.refl _)
    · rw [e]; exact .inr (.refl _)
  | @step y z e _ he hle ih =>
    by_cases hei : e = i
    · subst hei
      have : z = a ∨ z = b := by
        rcases hl with p | p <;> rcases hle with q | q <;> rw [p] at q <;> simp at q <;> omega
      rcases this with e | e
      · rw [e]; exact .inl (.refl _)
      · rw [e]; exact .inr (.refl _)
    · exact ih.imp (fun k => .step e k ⟨he, hei⟩ hle) (fun k => .step e k ⟨he, hei⟩ hle)
end
/-- the search at a vertex: the edge behind is not taken again -/
structure At (E : List Ed) (F : Nat → Prop) (from' : Option Nat) (v : Nat) : Prop where
  inc : ∀ j, from' = some j → F j ∧ ∃ y, Lnk E j v y
/-- the edges that may be taken -/
def rest (F : Nat → Prop) (from' : Option Nat) : Nat → Prop := fun j => F j ∧ some j ≠ from'
section
variable {E : List Ed} {F : Nat → Prop} {v u t i : Nat} {fr : Option Nat}
theorem At.next (hi : F i) (hl : Lnk E i v u) : At E F (some i) u := ⟨fun j hj => by cases hj; exact ⟨hi, v, hl.symm⟩⟩
theorem rest_some : rest F (some i) = wo F i := by
  funext j; unfold rest wo; simp
/-- what lies behind an edge does not lie behind the one that we came by -/
theorem ci_past (hC : Cut E F) (hA : At E F fr v) (hi : F i) (hl : Lnk E i v u) {S : Nat → Prop} (hS : ∀ j, S j → wo F i j) {x : Nat} (h : CI E S u x) : CI E (fun j => S j ∧ some j ≠ fr) u x := by
  induction h with
  | refl => exact .refl _
  | @step y z e h0 he hle ih =>
    refine .step e ih ⟨he, fun c => ?_⟩ hle
    obtain ⟨hF, w, hw⟩ := hA.inc e c.symm
    have hy : CI E (wo F i) u y := h0.mono hS
    have hz : CI E (wo F i) u z := .step e hy (hS e he) hle
    have : y = v ∨ z = v := by
      rcases hw with p | p <;> rcases hle with q | q <;> rw [p] at q <;> simp at q <;> omega
    rcases this with e1 | e1
    · rw [e1] at hy; exact hC i v u hi hl hy.symm
    · rw [e1] at hz; exact hC i v u hi hl hz.symm
open Classical in
/-- how many vertices the search may still reach -/
noncomputable def mes (n : Nat) (E : List Ed) (F : Nat → Prop) (fr : Option Nat) (v : Nat) : Nat := ((List.range n).filter fun x => decide (CI E (rest F fr) v x)).length
theorem filt_lt {p q : Nat → Bool} {n v : Nat} (h : ∀ x, p x = true → q x = true) (hv : v < n) (h1 : p v = false) (h2 : q v = true) : ((List.range n).filter p).length < ((List.range n).filter q).length := by
  have hle : ∀ m, ((List.range m).filter p).length ≤ ((List.range m).filter q).length := fun m => by
    induction m with
    | zero => simp
    | succ m ih =>
      rw [List.range_succ, List.filter_append, List.filter_append, List.length_append, List.length_append]
      have : ([m].filter p).length ≤ ([m].filter q).length := by
        cases hp : p m with
        | false => simp [hp]
        | true => simp [hp, h m hp]
      omega
  induction n with
  | zero => omega
  | succ n ih =>
    rw [List.range_succ, List.filter_append, List.filter_append, List.length_append, List.length_append]
    by_cases e : v = n
    · subst e
      have := hle v
      simp [h1, h2]; omega
    · have h3 := ih (by omega)
      have : ([n].filter p).length ≤ ([n].filter q).length := by
        cases hp : p n with
        | false => simp [hp]
        | true => simp [hp, h n hp]
      omega
theorem ci_next (hC : Cut E F) (hA : At E F fr v) (hi : F i) (hne : some i ≠ fr) (hl : Lnk E i v u) {x : Nat} (h : CI E (rest F (some i)) u x) : CI E (rest F fr) v x := by
  have h1 : CI E (fun j => wo F i j ∧ some j ≠ fr) u x := ci_past hC hA hi hl (fun _ h => h) (by rw [rest_some] at h; exact h)
  exact (CI.one (S := rest F fr) ⟨hi, hne⟩ hl).trans (h1.mono fun j hj => ⟨hj.1.1, hj.2⟩)
open Classical in
theorem mes_lt {n : Nat} (hC : Cut E F) (hA : At E F fr v) (hi : F i) (hne : some i ≠ fr) (hl : Lnk E i v u) (hv : v < n) : mes n E F (some i) u < mes n E F fr v := by
  unfold mes
  refine filt_lt (fun x hx => ?_) hv ?_ ?_
  · have := of_decide_eq_true hx
    exact decide_eq_true (ci_next hC hA hi hne hl this)
  · refine decide_eq_false fun h => ?_
    rw [rest_some] at h
    exact hC i v u hi hl h.symm
  · exact decide_eq_true (.refl _)
/-- the latest edge of the path -/
def PMax (E : List Ed) (S : Nat → Prop) (v t : Nat) : Option Nat → Prop
  | none => v = t
  | some j => S j ∧ CI E (fun k => S k ∧ ¬ ltE E j k) v t ∧ ¬ CI E (fun k => S k ∧ ltE E k j) v t
theorem PMax.ci {S : Nat → Prop} {r : Option Nat} (h : PMax E S v t r) : CI E S v t := by
  cases r with
  | none => have h : v = t := h; rw [h]; exact .refl _
  | some j => exact h.2.1.mono fun k hk => hk.1
theorem pmax_step (hC : Cut E F) (hA : At E F fr v) (hi : F i) (hne : some i ≠ fr) (hl : Lnk E i v u) {r : Option Nat} (h : PMax E (rest F (some i)) u t r) : PMax E (rest F fr) v t (some (latO E i r)) := by
  have hut : CI E (wo F i) u t := by have := h.ci; rw [rest_some] at this; exact this
  cases r with
  | none =>
    have h : u = t := h
    subst h
    refine ⟨⟨hi, hne⟩, CI.one (S := fun k => rest F fr k ∧ ¬ ltE E i k) ⟨⟨hi, hne⟩, fun c => ltE_asymm c c⟩ hl, fun c => ?_⟩
    exact hC i v u hi hl (c.mono fun k hk => ⟨hk.1.1, fun e => by rw [e] at hk; exact ltE_asymm hk.2 hk.2⟩)
  | some j =>
    rw [rest_some] at h
    obtain ⟨⟨hj, hji⟩, h1, h2⟩ := h
    have hp : CI E (fun k => (wo F i k ∧ ¬ ltE E j k) ∧ some k ≠ fr) u t := ci_past hC hA hi hl (fun _ h => h.1) h1
    have hjr : some j ≠ fr := fun c => by
      -- otherwise the path has only earlier edges
      refine h2 (hp.mono fun k hk => ⟨hk.1.1, ?_⟩)
      have hkj : k ≠ j := fun e => hk.2 (by rw [e]; exact c)
      exact (ltE_total hkj).resolve_right hk.1.2
    show rest F fr (latE E i j) ∧ CI E (fun k => rest F fr k ∧ ¬ ltE E (latE E i j) k) v t ∧ ¬ CI E (fun k => rest F fr k ∧ ltE E k (latE E i j)) v t
    unfold latE
    by_cases hij : ltE E j i
    · rw [if_pos hij]
      refine ⟨⟨hi, hne⟩, ?_, fun c => ?_⟩
      · refine (CI.one (S := fun k => rest F fr k ∧ ¬ ltE E i k) ⟨⟨hi, hne⟩, fun c => ltE_asymm c c⟩ hl).trans (hp.mono fun k hk => ⟨⟨hk.1.1.1, hk.2⟩, fun c => hk.1.2 (ltE_trans hij c)⟩)
      · have : CI E (wo F i) v t := c.mono fun k hk => ⟨hk.1.1, fun e => by rw [e] at hk; exact ltE_asymm hk.2 hk.2⟩
        exact hC i v u hi hl (this.trans hut.symm)
    · rw [if_neg hij]
      have hij2 : ltE E i j := (ltE_total (fun e => hji e.symm)).resolve_right hij
      refine ⟨⟨hj, hjr⟩, ?_, fun c => ?_⟩
      · refine (CI.one (S := fun k => rest F fr k ∧ ¬ ltE E j k) ⟨⟨hi, hne⟩, fun c => ltE_asymm c hij2⟩ hl).trans (hp.mono fun k hk => ⟨⟨hk.1.1.1, hk.2⟩, hk.1.2⟩)
      · rcases ci_split hl c (.inl rfl) with k | k
        · have : CI E (wo F i) v t := k.mono fun x hx => ⟨hx.1.1.1, hx.2⟩
          exact hC i v u hi hl (this.trans hut.symm)
        · exact h2 (k.mono fun x hx => ⟨⟨hx.1.1.1, hx.2⟩, hx.1.2⟩)
/-- nothing is found at any edge: there is no path -/
theorem no_path (hne : v ≠ t) (h : ∀ i u, F i → some i ≠ fr → Lnk E i v u → ¬ CI E (rest F (some i)) u t) : ¬ CI E (rest F fr) v t := fun c => by
  obtain ⟨i, u, h1, h2, h3⟩ := ci_first c hne
  exact h i u h1.1 h1.2 h2 (h3.mono fun k hk => ⟨hk.1.1, fun e => hk.2 (by simpa using e)⟩)
end
end Go.Proofs.Ytbmcflmflmlmaaa
