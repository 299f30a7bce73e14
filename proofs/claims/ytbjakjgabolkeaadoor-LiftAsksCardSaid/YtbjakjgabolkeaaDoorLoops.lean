/- What the law LiftLoops stands on: a copy of a slice, what a call that keeps to new blocks leaves as it was, and lists of parents that are no forest. No conditions. -/
import Derived.Test.YtbjakjgabolkeaaDoorCommons
import Derived.Laws.OwnMore
namespace Go.Proofs.YtbjakjgabolkeaaDoor
open Go.RowKit Go.Shelf

/-- a slice that is not empty has an address -/
theorem Sl.view {t e : TypeId} {by' : Nat} {k : IntKind} {w : World} {B n cap : Nat} {a : Option Addr} {l : List Int} {A : Nat → Addr} (E : ET t e 1 by') (h : Sl t k w B (.slice a n cap) l A) (hl : l.length = n) (hn : 0 < n) :
    ∃ ad : Addr, a = some ad ∧ ad.block < B ∧ ∀ i, i < n → w.cell? (ad.add i) = some (.int k (nth l i)) := by
  have he : Tryd.prog.elem t = e := by simp [Program.elem, E.ht]
  cases a with
  | none =>
    exfalso
    have h1 := h.ix 0 (by omega) w
    have h2 : (Instr.indexAt t (.slice none n cap) (.int .i64 (0 : Nat))).run Tryd.prog w = (boundsPanic .i64 (0 : Nat) 0 .index).run Tryd.prog w := by
      simp [Instr.indexAt, run_underlying E.ht, asIntOf]
    rw [h2] at h1
    obtain ⟨s, w2, hrun⟩ := run_boundsPanic (α := Value) (P := Tryd.prog) (w := w) .i64 ((0 : Nat) : Int) 0 .index
    rw [hrun] at h1; cases h1
  | some ad =>
    have hA : ∀ i, i < n → A i = ad.add i := fun i hi => by
      have h1 := h.ix i (by omega) w
      rw [run_indexAt_slice w t ad n cap .i64 i (by rw [E.ht, he]), if_pos (by omega), he, E.size] at h1
      simp [Result.andThen] at h1
      exact h1.symm
    refine ⟨ad, rfl, ?_, fun i hi => by rw [← hA i hi]; exact h.cell i (by omega)⟩
    have h3 := h.lt 0 (by omega)
    rw [hA 0 hn, add_block] at h3; exact h3

/-- a copy: the elements of a slice, appended to a new one that is empty -/
theorem copied {ops : Array Oper} {rest : List Oper} {o : Oper} {a : Act} {Q : Exit → Act → World → Prop} {w0 : World} {t e : TypeId} {bytes : Nat} {k : IntKind} (E : ET t e 1 bytes) (hgd : o.guard = none) (s x : Operand)
    (ho : o.op = .call { callee := .builtin .append, args := #[s, x], argTypes := #[t, t] }) {ax : Option Addr} {m c B : Nat} {l : List Int} {A : Nat → Addr} (hS : Sl t k w0 B (.slice ax m c) l A) (hB : B ≤ w0.heap.size) (hl : l.length = m) (hm : 0 < m)
    (N : Nat) (hs : a.eval s = .slice (some ⟨N, 0, none⟩) 0 0) (hN : w0.heap.size = N) (hx : a.eval x = .slice ax m c) (h63 : m ≤ 9223372036854775807) (hbytes : m * bytes ≤ 140737488355328)
    (h : ∀ (g cap : Nat) (w1 : World), w0.heap.size ≤ g → w1.ownsRow w0.heap.size e 1 (.slice (some ⟨g, 0, none⟩) m cap) m (l.map (Value.int k)) → Below w0.heap.size w0 w1 →
      wpList Tryd.prog ops Q rest (a.put o.dst (.slice (some ⟨g, 0, none⟩) m cap)) w1) : wpList Tryd.prog ops Q (o :: rest) a (w0.alloc (.cells #[] e)) := by
  subst hN
  obtain ⟨i, z, hi, hz, h2, h3, h4⟩ := E.info
  obtain ⟨ad, rfl, hlt, hce⟩ := hS.view E hl hm
  have hown : (w0.alloc (.cells #[] e)).ownsRow w0.heap.size e 1 (.slice (some ⟨w0.heap.size, 0, none⟩) 0 0) 0 (#[] : Array Value).toList :=
    World.ownsRow_lit w0 #[] 0 (Nat.le_refl _) (Nat.zero_le _) rfl
  refine wpList_append_own_at _ hgd s x t ho w0.heap.size e i z 1 bytes E.ht hi hz h2 h3 h4 E.pos _ 0 _ hs hown ad m c (l.map (Value.int k)) hx (by simp [hl]) ?_ ?_ (by unfold maxLen; omega) (by rw [Nat.zero_add]; exact hbytes) (by simp) ?_
  · intro j u hu
    have hj : j < l.length := by
      have := (List.getElem?_eq_some_iff.1 hu).1
      simpa using this
    have e1 : u = .int k (nth l j) := by simp [hj] at hu; simp [nth, hj, hu]
    rw [e1, World.cell?_of_block (Below.heap_alloc w0 _ _ (by rw [add_block]; omega))]
    exact hce j (by omega)
  · intro u hu
    obtain ⟨y, _, rfl⟩ := List.mem_map.1 hu
    rfl
  · intro v' w1 hown' hg _ _
    simp only [Nat.zero_add, List.nil_append] at hown'
    obtain ⟨g, cap, rfl⟩ : ∃ g cap, v' = .slice (some ⟨g, 0, none⟩) m cap := by
      rcases hown'.2 with ⟨_, h0⟩ | ⟨g, cap, cur, e1, _⟩
      · omega
      · exact ⟨g, cap, e1⟩
    have hgl := (hown'.lt g rfl).1
    refine h g cap w1 hgl hown' ?_
    have h5 := (Below.refl w0.heap.size w0).alloc (Nat.le_refl _) (.cells #[] e)
    exact h5.grown hg (by simp) (fun j hj => by simp only [Value.ownBlock, Option.some.injEq] at hj; omega)
/-- what lies in a row that was laid before the call lies there after it -/
theorem ownsRow_below {w w' : World} {base size n : Nat} {e : TypeId} {v : Value} {xs : List Value} (h : w.ownsRow base e size v n xs) (hb : Below w.heap.size w w') : w'.ownsRow base e size v n xs := by
  refine ⟨h.1, ?_⟩
  rcases h.2 with h' | ⟨g, cap, cur, h1, h2, h3, h4⟩
  · exact .inl h'
  · exact .inr ⟨g, cap, cur, h1, h2, by rw [hb.block g (Array.getElem?_eq_some_iff.1 h3).1]; exact h3, h4⟩

theorem nth_set {p : List Int} {v i : Nat} {x : Int} (hv : v < p.length) : nth (p.set v x) i = if i = v then x else nth p i := by
  unfold nth
  simp only [List.getD, List.getElem?_set]
  by_cases e : v = i
  · subst e; simp [hv]
  · rw [if_neg e, if_neg (fun h => e h.symm)]
theorem pa_set {p : List Int} {v i u : Nat} (hv : v < p.length) : pa (p.set v (u : Int)) i = if i = v then some u else pa p i := by
  unfold pa
  rw [List.getElem?_set]
  by_cases e : v = i
  · subst e; simp [hv]
  · rw [if_neg e, if_neg (fun h => e h.symm)]
/-- a parent that there is not -/
theorem newE_off {p : List Int} {v : Nat} {m : Int} (h8 : p.length ≤ 8192) (hv : v < p.length) (hm : m < -1 ∨ (p.length : Int) ≤ m) : newE (p.set v m) = 3 := by
  have h1 : ¬ inRB (p.set v m) = true := by
    rw [inRB_iff]
    intro h
    have := h v (by simpa using hv)
    rw [nth_set hv, if_pos rfl] at this
    simp at this; omega
  unfold newE
  rw [if_neg (by simp; omega), if_neg h1]
/-- a node below one of its own -/
theorem newE_loop {p : List Int} (F : Tree p) (hR : InRange p) (h8 : p.length ≤ 8192) {v u : Nat} (hv : v < p.length) (hu : u < p.length) (h : isAnc p v u = true) : newE (p.set v (u : Int)) = 9 := by
  have h1 : inRB (p.set v (u : Int)) = true := by
    rw [inRB_iff]
    intro i hi
    rw [nth_set hv]
    by_cases e : i = v
    · rw [if_pos e]; simp; omega
    · rw [if_neg e]; have := hR i (by simpa using hi); simpa using this
  have h2 : ¬ treeB (p.set v (u : Int)) = true := by
    rw [treeB_iff]
    intro G
    obtain ⟨k, hk⟩ := (isAnc_iff F hu).1 h
    have hd := anc_d F hu hk
    have key : ∀ j, j ≤ k → anc (p.set v (u : Int)) j u = anc p j u := by
      intro j
      induction j with
      | zero => intro _; rfl
      | succ j ih =>
        intro hj
        rw [anc_succ, anc_succ, ih (by omega)]
        obtain ⟨x, hx⟩ := anc_some F j u hu (by omega)
        have hxd := anc_d F hu hx
        rw [hx]
        simp only [Option.bind_some]
        rw [pa_set hv, if_neg (fun e => by subst e; omega)]
    have g1 := key k (Nat.le_refl _)
    rw [hk] at g1
    have g2 := anc_d G (by simpa using hu) g1
    have g3 := G.up v u (by simpa using hv) (by rw [pa_set hv, if_pos rfl])
    omega
  unfold newE
  rw [if_neg (by simp; omega), if_pos h1, if_neg h2]
/-- New's answer on a list of no forest, its length given apart -/
theorem new_badN {B n : Nat} {a : Option Addr} {cap : Nat} {A : Nat → Addr} {p : List Int} {w : World} {c : Int} (hn : p.length = n) (hE : newE p = c) (hc : c ≠ 0) (hm : n ≤ 9223372036854775807) (hS : Sl 25 .i64 w B (.slice a n cap) p A) (hB : B ≤ w.heap.size) :
    Calls Tryd.prog 17 #[.slice a n cap] w fun e w' => e = .returned (.tuple #[.pointer none, .int .i64 c]) ∧ Below w.heap.size w w' := by
  subst hn
  exact new_bad hE hc hm hS hB
/-- a row of the call's own, as a slice that is read, its address told -/
theorem Sl.ownAt {k : IntKind} {w : World} {base n g cap : Nat} {l : List Int} (h : w.ownsRow base 3 1 (.slice (some ⟨g, 0, none⟩) n cap) n (l.map (Value.int k))) : l.length = n ∧ ∃ A, Sl 25 k w w.heap.size (.slice (some ⟨g, 0, none⟩) n cap) l A := by
  obtain ⟨h1, a, c, A, h2, h3⟩ := Sl.own et25 h
  cases h2
  exact ⟨h1, A, h3⟩
/-- the nodes below v among the first k -/
def underTo (p : List Int) (v k : Nat) : List Nat := (List.range k).filter fun u => isAnc p v u
theorem underTo_succ (p : List Int) (v k : Nat) : underTo p v (k + 1) = if isAnc p v k then underTo p v k ++ [k] else underTo p v k := by
  simp only [underTo, List.range_succ, List.filter_append, List.filter_cons, List.filter_nil]
  cases isAnc p v k <;> simp
theorem underTo_len (p : List Int) (v k : Nat) : (underTo p v k).length ≤ k := by
  have := List.length_filter_le (fun u => isAnc p v u) (List.range k); simpa [underTo] using this
theorem mem_under {p : List Int} {v k u : Nat} : u ∈ underTo p v k ↔ u < k ∧ isAnc p v u = true := by
  simp [underTo]
end Go.Proofs.YtbjakjgabolkeaaDoor
