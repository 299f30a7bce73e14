/- Plain mathematics of the tree that joins the components of a graph: its parents are those of a forest, and climbing from a leaf up to a weight ends at the node of its component. No conditions. -/
import Derived.Test.YtpbgophogneecaaGreatRca
import Derived.Test.YtpbgophogneecaaGreatLfa
import Derived.Test.YtpbgophogneecaaGreatRcb
import Derived.Test.YtpbgophogneecaaGreatMe
import Derived.RegionTactic
import Derived.Test.YtpbgophogneecaaGreatOra
import Derived.Test.YtpbgophogneecaaGreatPl
namespace Go.Proofs.YtpbgophogneecaaGreat
open Go.RowKit

def pvI (n : Nat) : Option Nat → Int
  | none => -1
  | some i => ((n + i : Nat) : Int)
/-- the parents, the weights, the sizes -/
def pT (E : List Ed) (f : List Nat) (n : Nat) : List Int := (List.range (n + f.length)).map fun x => pvI n (pk E f n f.length x)
def hT (E : List Ed) (f : List Nat) (n : Nat) : List Int := (List.range (n + f.length)).map fun x => hgt E f n x
section
variable {E : List Ed} {f : List Nat} {n x u k j i : Nat}
theorem pT_len (E : List Ed) (f : List Nat) (n : Nat) : (pT E f n).length = n + f.length := by simp [pT]
theorem hT_len (E : List Ed) (f : List Nat) (n : Nat) : (hT E f n).length = n + f.length := by simp [hT]
theorem pT_nth (h : x < n + f.length) : nth (pT E f n) x = pvI n (pk E f n f.length x) := by simp [nth, pT, h]
theorem hT_nth (h : x < n + f.length) : nth (hT E f n) x = hgt E f n x := by simp [nth, hT, h]
theorem pT_pa (h : x < n + f.length) : pa (pT E f n) x = (pk E f n f.length x).map (n + ·) := by
  have e : (pT E f n)[x]? = some (pvI n (pk E f n f.length x)) := by simp [pT, h]
  cases hp : pk E f n f.length x with
  | none =>
    rw [hp] at e
    have hl : x < (pT E f n).length := by rw [pT_len]; exact h
    rw [Option.map_none, pa_none hl]
    rw [List.getElem?_eq_getElem hl] at e
    rw [Option.some.inj e]; exact (by decide : (-1 : Int) < 0)
  | some i => rw [hp] at e; rw [Option.map_some, pa_some, e]; rfl
theorem pT_pa_none (h : pk E f n f.length x = none) (hx : x < n + f.length) : pa (pT E f n) x = none := by rw [pT_pa hx, h]; rfl
theorem pT_pa_some (h : pk E f n f.length x = some i) (hx : x < n + f.length) : pa (pT E f n) x = some (n + i) := by rw [pT_pa hx, h]; rfl
theorem Fo.tree (F : Fo n E f) : Tree (pT E f n) := by
  refine tree_of_rank (fun v => n + f.length - v) fun v u h => ?_
  have hv := pa_lt h
  rw [pT_len] at hv
  rw [pT_pa hv] at h
  cases hp : pk E f n f.length v with
  | none => rw [hp] at h; cases h
  | some i =>
    rw [hp] at h
    have e : n + i = u := by simpa using h
    have h1 := pk_below F (Nat.le_refl _) hp
    have h2 := pk_lt hp
    rw [pT_len]; omega
theorem Fo.newE (F : Fo n E f) (h : n + f.length ≤ 8192) : newE (pT E f n) = 0 := by
  unfold Go.Proofs.YtpbgophogneecaaGreat.newE
  have h1 : inRB (pT E f n) = true := inRB_iff.2 fun i hi => by
    rw [pT_len] at hi
    rw [pT_nth hi, pT_len]
    cases hp : pk E f n f.length i with
    | none => show -1 ≤ (-1 : Int) ∧ (-1 : Int) < ((n + f.length : Nat) : Int); omega
    | some j => have := pk_lt hp; show -1 ≤ ((n + j : Nat) : Int) ∧ ((n + j : Nat) : Int) < ((n + f.length : Nat) : Int); omega
  rw [if_neg (by rw [pT_len]; omega), h1, treeB_iff.2 F.tree]; rfl
theorem climb_nd {θ : Int} (F : Fo n E f) (hk : k ≤ f.length) (hh : ∀ i, i < f.length → (hgt E f n (n + i) ≤ θ ↔ i < k)) (hu : u < n) : climb (pT E f n) (hT E f n) θ u = nd E f n k (lbI E f k u) := by
  have key : ∀ (N j : Nat), j ≤ k → n + f.length - nd E f n j (lbI E f j u) = N → climb (pT E f n) (hT E f n) θ (nd E f n j (lbI E f j u)) = nd E f n k (lbI E f k u) := by
    intro N
    induction N using Nat.strongRecOn with
    | ind N ih =>
      intro j hj hN
      have hla : lbI E f j u < n := Nat.lt_of_le_of_lt (lbI_le _ _ _ _) hu
      have hx : nd E f n j (lbI E f j u) < n + f.length := by have := nd_lt (E := E) (f := f) (i := j) hla; omega
      cases hp : pk E f n f.length (nd E f n j (lbI E f j u)) with
      | none =>
        rw [climb_stop (by unfold onward; rw [pT_pa_none hp hx])]
        exact way_top F hk hu hj fun i hi => by rw [hp] at hi; cases hi
      | some i =>
        have hif := pk_lt hp
        by_cases hik : i < k
        · have h1 : onward (pT E f n) (hT E f n) θ (nd E f n j (lbI E f j u)) = true := by
            unfold onward; rw [pT_pa_some hp hx]
            simp only [decide_eq_true_eq]
            rw [hT_nth (by omega)]; exact (hh i hif).2 hik
          obtain ⟨y, hy, _, _, e⟩ := climb_go F.tree (by rw [pT_len]; exact hx) h1
          rw [pT_pa_some hp hx] at hy
          cases hy
          have hw := way_up F hu (by omega) hp
          have hb := pk_below F (Nat.le_refl _) hp
          rw [e, hw]
          exact ih _ (by rw [← hw]; omega) (i + 1) hik rfl
        · have h1 : onward (pT E f n) (hT E f n) θ (nd E f n j (lbI E f j u)) = false := by
            unfold onward; rw [pT_pa_some hp hx]
            simp only [decide_eq_false_iff_not]
            rw [hT_nth (by omega), hh i hif]; exact hik
          rw [climb_stop h1]
          exact way_top F hk hu hj fun a ha => by rw [hp] at ha; cases ha; omega
  have := key _ 0 (Nat.zero_le _) rfl
  rwa [lbI_zero] at this
/-- what Climb answers at a leaf, and elsewhere -/
theorem inB_leaf (hu : u < n) : inB (pT E f n) u = true := inB_iff.2 ⟨u, rfl, by rw [pT_len]; omega⟩
theorem clE_leaf (hu : u < n) : clE (pT E f n) u (hT E f n) = 0 := by unfold clE; rw [if_pos (inB_leaf hu), hT_len, pT_len, if_pos rfl]
theorem clV_leaf {θ : Int} (hu : u < n) : clV (pT E f n) u (hT E f n) θ = climb (pT E f n) (hT E f n) θ u := by unfold clV; rw [if_pos (clE_leaf hu)]; rfl
end
end Go.Proofs.YtpbgophogneecaaGreat

/- Plain mathematics: what the rows of the tree hold while it is built. No conditions. -/
namespace Go.Proofs.YtpbgophogneecaaGreat

def stL (E : List Ed) (f : List Nat) (n i y : Nat) : Int := if n ≤ y ∧ y < n + i then ((nd E f n (y - n) (mA E f (y - n)) : Nat) : Int) else -1
def stR (E : List Ed) (f : List Nat) (n i y : Nat) : Int := if n ≤ y ∧ y < n + i then ((nd E f n (y - n) (mB E f (y - n)) : Nat) : Int) else -1
def stP (E : List Ed) (f : List Nat) (n i y : Nat) : Int := pvI n (pk E f n i y)
def stH (E : List Ed) (f : List Nat) (n i y : Nat) : Int := if n ≤ y ∧ y < n + i then (eAt E (f.getD (y - n) 0)).w else 0
def stZ (E : List Ed) (f : List Nat) (n i y : Nat) : Int := if y < n + i then ((szT E f n y : Nat) : Int) else 0
section
variable {E : List Ed} {f : List Nat} {n i y : Nat}
theorem stL_zero : stL E f n 0 y = -1 := by unfold stL; rw [if_neg (by omega)]
theorem stR_zero : stR E f n 0 y = -1 := by unfold stR; rw [if_neg (by omega)]
theorem stP_zero : stP E f n 0 y = -1 := rfl
theorem stH_zero : stH E f n 0 y = 0 := by unfold stH; rw [if_neg (by omega)]
theorem stZ_zero : stZ E f n 0 y = if y < n then 1 else 0 := by
  unfold stZ
  by_cases h : y < n
  · rw [if_pos h, if_pos (by omega), szT_leaf h]; rfl
  · rw [if_neg h, if_neg (by omega)]
theorem st_in {c : Prop} [Decidable c] {a b : Int} : (if n ≤ y ∧ y < n + (i + 1) then a else b) = if y = n + i then a else if n ≤ y ∧ y < n + i then a else b := by
  by_cases h : y = n + i
  · rw [if_pos h, if_pos (by omega)]
  · rw [if_neg h]
    by_cases h2 : n ≤ y ∧ y < n + i
    · rw [if_pos h2, if_pos (by omega)]
    · rw [if_neg h2, if_neg (by omega)]
theorem stL_step : (if y = n + i then ((nd E f n i (mA E f i) : Nat) : Int) else stL E f n i y) = stL E f n (i + 1) y := by
  unfold stL
  rw [st_in (c := True)]
  by_cases h : y = n + i
  · rw [if_pos h, if_pos h, h, Nat.add_sub_cancel_left]
  · rw [if_neg h, if_neg h]
theorem stR_step : (if y = n + i then ((nd E f n i (mB E f i) : Nat) : Int) else stR E f n i y) = stR E f n (i + 1) y := by
  unfold stR
  rw [st_in (c := True)]
  by_cases h : y = n + i
  · rw [if_pos h, if_pos h, h, Nat.add_sub_cancel_left]
  · rw [if_neg h, if_neg h]
theorem stH_step : (if y = n + i then (eAt E (f.getD i 0)).w else stH E f n i y) = stH E f n (i + 1) y := by
  unfold stH
  rw [st_in (c := True)]
  by_cases h : y = n + i
  · rw [if_pos h, if_pos h, h, Nat.add_sub_cancel_left]
  · rw [if_neg h, if_neg h]
theorem stZ_step : (if y = n + i then ((szT E f n (n + i) : Nat) : Int) else stZ E f n i y) = stZ E f n (i + 1) y := by
  unfold stZ
  by_cases h : y = n + i
  · rw [if_pos h, if_pos (by omega), h]
  · rw [if_neg h]
    by_cases h2 : y < n + i
    · rw [if_pos h2, if_pos (by omega)]
    · rw [if_neg h2, if_neg (by omega)]
theorem stP_step : (if y = nd E f n i (mB E f i) then ((n + i : Nat) : Int) else if y = nd E f n i (mA E f i) then ((n + i : Nat) : Int) else stP E f n i y) = stP E f n (i + 1) y := by
  unfold stP
  rw [pk]
  by_cases h : y = nd E f n i (mB E f i)
  · rw [if_pos h, if_pos (.inl h)]; rfl
  · rw [if_neg h]
    by_cases h2 : y = nd E f n i (mA E f i)
    · rw [if_pos h2, if_pos (.inr h2)]; rfl
    · rw [if_neg h2, if_neg (by rintro (c | c); exact h c; exact h2 c)]
theorem nd_step {a : Nat} : (if a = mA E f i then n + i else nd E f n i a) = nd E f n (i + 1) a := rfl
end
end Go.Proofs.YtpbgophogneecaaGreat

/- A region that makes several blocks of memory in an order that Go leaves open: what holds wherever the blocks lie. Conditions: the operations that make memory do not hang on one another. -/
namespace Go.Proofs.YtpbgophogneecaaGreat
open Go.RowKit

theorem Uf_rev {α : Type} {P : List α → Prop} (h0 : P []) (h1 : ∀ l a, P l → P (l ++ [a])) (l : List α) : P l := by
  have key : ∀ (n : Nat) (l : List α), l.length = n → P l := by
    intro n
    induction n with
    | zero => intro l hl; rw [List.eq_nil_of_length_eq_zero hl]; exact h0
    | succ n ih =>
      intro l hl
      have hne : l ≠ [] := fun e => by rw [e] at hl; cases hl
      rw [← List.dropLast_concat_getLast hne]
      exact h1 _ _ (ih _ (by rw [List.length_dropLast]; omega))
  exact key _ l rfl
/-- an operation that makes a block: its index, its slot, the block, the value -/
structure Mk where
  i : Nat
  d : Nat
  obj : Obj
  val : Nat → Value
def lsI (L : Array Bool) (D : List Nat) : Array Bool := D.foldl (fun L i => L.setIfInBounds i true) L
def tmd (blk : Nat → Nat) (T : Array Value) (D : List Mk) : Array Value := D.foldl (fun T m => T.setIfInBounds m.d (m.val (blk m.i))) T
/-- the parts of a list -/
def subsN : List Nat → List (List Nat)
  | [] => [[]]
  | x :: t => subsN t ++ (subsN t).map (x :: ·)
theorem filter_subs (p : Nat → Bool) : ∀ l : List Nat, l.filter p ∈ subsN l
  | [] => by simp [subsN]
  | x :: t => by
    have := filter_subs p t
    unfold subsN
    by_cases h : p x = true
    · rw [List.filter_cons_of_pos h, List.mem_append]
      exact .inr (List.mem_map_of_mem this)
    · rw [List.filter_cons_of_neg h, List.mem_append]
      exact .inl this
/-- at each stage that is no stop just others are ready -/
def rdyOk (md : Region.Mode) (ops : Array Oper) (L : Array Bool) (idx : List Nat) (stops : List (List Nat)) : Bool :=
  (subsN idx).all fun s => stops.contains s || (s.length != idx.length && (!(Region.ready md ops (lsI L s)).isEmpty && (Region.ready md ops (lsI L s)).all fun j => idx.contains j && !s.contains j))
theorem lsI_at (L : Array Bool) (D : List Nat) (k : Nat) : (lsI L D)[k]? = if k ∈ D then (if k < L.size then some true else none) else L[k]? := by
  induction D using Uf_rev with
  | h0 => simp [lsI]
  | h1 D i ih =>
    have hsz : ∀ D : List Nat, (lsI L D).size = L.size := fun D => by
      induction D using Uf_rev with
      | h0 => rfl
      | h1 D i ih => unfold lsI at *; rw [List.foldl_append, List.foldl_cons, List.foldl_nil, Array.size_setIfInBounds]; exact ih
    have e : lsI L (D ++ [i]) = (lsI L D).setIfInBounds i true := by unfold lsI; rw [List.foldl_append, List.foldl_cons, List.foldl_nil]
    rw [e, Array.getElem?_setIfInBounds, ih, hsz]
    by_cases h : i = k
    · subst h; simp
    · have h2 : ¬ k = i := fun c => h c.symm
      simp [h, h2]
theorem lsI_same {L : Array Bool} {D D' : List Nat} (h : ∀ k, k ∈ D ↔ k ∈ D') : lsI L D = lsI L D' := by
  refine Array.ext_getElem? fun k => ?_
  rw [lsI_at, lsI_at]
  by_cases c : k ∈ D
  · rw [if_pos c, if_pos ((h k).1 c)]
  · rw [if_neg c, if_neg (fun e => c ((h k).2 e))]
theorem tmd_size (blk : Nat → Nat) (T : Array Value) (D : List Mk) : (tmd blk T D).size = T.size := by
  induction D using Uf_rev with
  | h0 => rfl
  | h1 D m ih => unfold tmd at *; rw [List.foldl_append, List.foldl_cons, List.foldl_nil, Array.size_setIfInBounds]; exact ih
theorem tmd_snoc (blk : Nat → Nat) (T : Array Value) (D : List Mk) (m : Mk) : tmd blk T (D ++ [m]) = (tmd blk T D).setIfInBounds m.d (m.val (blk m.i)) := by
  unfold tmd; rw [List.foldl_append, List.foldl_cons, List.foldl_nil]
theorem tmd_off (blk : Nat → Nat) (T : Array Value) (D : List Mk) (k : Nat) (h : ∀ m, m ∈ D → m.d ≠ k) : (tmd blk T D)[k]? = T[k]? := by
  induction D using Uf_rev with
  | h0 => rfl
  | h1 D m ih =>
    rw [tmd_snoc, Array.getElem?_setIfInBounds, if_neg (h m (by simp))]
    exact ih fun x hx => h x (by simp [hx])
theorem tmd_at (blk : Nat → Nat) (T : Array Value) (D : List Mk) (hn : (D.map (·.d)).Nodup) (m : Mk) (hm : m ∈ D) : (tmd blk T D)[m.d]? = if m.d < T.size then some (m.val (blk m.i)) else none := by
  induction D using Uf_rev with
  | h0 => cases hm
  | h1 D x ih =>
    rw [List.map_append, List.nodup_append] at hn
    rw [tmd_snoc, Array.getElem?_setIfInBounds, tmd_size]
    rcases List.mem_append.1 hm with h | h
    · have hne : x.d ≠ m.d := fun c => hn.2.2 m.d (List.mem_map_of_mem h) x.d (by simp) c.symm
      rw [if_neg hne]
      exact ih hn.1 h
    · obtain rfl : m = x := by simpa using h
      rw [if_pos rfl]
theorem tmd_same {blk blk' : Nat → Nat} {T : Array Value} {D D' : List Mk} (hn : (D.map (·.d)).Nodup) (hn' : (D'.map (·.d)).Nodup) (h : ∀ m, m ∈ D ↔ m ∈ D') (hb : ∀ m, m ∈ D → blk m.i = blk' m.i) : tmd blk T D = tmd blk' T D' := by
  refine Array.ext_getElem? fun k => ?_
  by_cases c : ∃ m, m ∈ D ∧ m.d = k
  · obtain ⟨m, hm, rfl⟩ := c
    rw [tmd_at _ _ _ hn m hm, tmd_at _ _ _ hn' m ((h m).1 hm), hb m hm]
  · rw [tmd_off _ _ _ _ (fun m hm e => c ⟨m, hm, e⟩), tmd_off _ _ _ _ (fun m hm e => c ⟨m, (h m).2 hm, e⟩)]
theorem nodup_of_map {α β : Type} {f : α → β} {l : List α} (h : (l.map f).Nodup) : l.Nodup := by
  rw [List.Nodup, List.pairwise_map] at h
  exact h.imp fun hab e => hab (by rw [e])
theorem inj_i {mks : List Mk} (hI : (mks.map (·.i)).Nodup) {a b : Mk} (ha : a ∈ mks) (hb : b ∈ mks) (e : a.i = b.i) : a = b := by
  obtain ⟨i, hi, rfl⟩ := List.mem_iff_getElem.1 ha
  obtain ⟨j, hj, rfl⟩ := List.mem_iff_getElem.1 hb
  have hp := List.pairwise_map.1 hI
  rw [List.pairwise_iff_getElem] at hp
  rcases Nat.lt_trichotomy i j with c | c | c
  · exact absurd e (hp i j hi hj c)
  · subst c; rfl
  · exact absurd e.symm (hp j i hj hi c)
theorem map_d_nodup {mks D : List Mk} (hn : (D.map (·.i)).Nodup) (hsub : ∀ m, m ∈ D → m ∈ mks) (hD : (mks.map (·.d)).Nodup) : (D.map (·.d)).Nodup := by
  have h0 := nodup_of_map hn
  rw [List.Nodup, List.pairwise_map]
  refine List.Pairwise.imp_of_mem ?_ h0
  intro a b ha hb hab e
  have hp := List.pairwise_map.1 hD
  obtain ⟨i, hi, rfl⟩ := List.mem_iff_getElem.1 (hsub a ha)
  obtain ⟨j, hj, rfl⟩ := List.mem_iff_getElem.1 (hsub b hb)
  rw [List.pairwise_iff_getElem] at hp
  rcases Nat.lt_trichotomy i j with c | c | c
  · exact hp i j hi hj c e
  · subst c; exact hab rfl
  · exact hp j i hj hi c e.symm
/-- the blocks that have been made -/
structure Laid (w0 w : World) (D : List Mk) (blk : Nat → Nat) : Prop where
  bel : Below w0.heap.size w0 w
  at_ : ∀ m, m ∈ D → w0.heap.size ≤ blk m.i ∧ w.heap[blk m.i]? = some m.obj
  ne : ∀ m m', m ∈ D → m' ∈ D → m.i ≠ m'.i → blk m.i ≠ blk m'.i
theorem Laid.step {w0 w : World} {D : List Mk} {blk : Nat → Nat} (h : Laid w0 w D blk) (m : Mk) (hm : ∀ x, x ∈ D → x.i ≠ m.i) : Laid w0 (w.alloc m.obj) (D ++ [m]) (fun i => if i = m.i then w.heap.size else blk i) := by
  have hlt : ∀ x, x ∈ D → blk x.i < w.heap.size := fun x hx => (Array.getElem?_eq_some_iff.1 (h.at_ x hx).2).1
  refine ⟨h.bel.alloc h.bel.size _, fun x hx => ?_, fun x y hx hy hne => ?_⟩
  · rcases List.mem_append.1 hx with hx | hx
    · rw [if_neg (hm x hx)]
      exact ⟨(h.at_ x hx).1, (Below.heap_alloc w _ _ (hlt x hx)).trans (h.at_ x hx).2⟩
    · obtain rfl : x = m := by simpa using hx
      rw [if_pos rfl]
      exact ⟨h.bel.size, heap_alloc_new w _⟩
  · rcases List.mem_append.1 hx with hx1 | hx1 <;> rcases List.mem_append.1 hy with hy1 | hy1
    · rw [if_neg (hm x hx1), if_neg (hm y hy1)]; exact h.ne x y hx1 hy1 hne
    · have e : y = m := by simpa using hy1
      rw [if_neg (hm x hx1), e, if_pos rfl]; have := hlt x hx1; omega
    · have e : x = m := by simpa using hx1
      rw [if_neg (hm y hy1), e, if_pos rfl]; have := hlt y hy1; omega
    · have e : x = m := by simpa using hx1
      have e' : y = m := by simpa using hy1
      exact absurd (by rw [e, e']) hne
section
variable {P : Program} {md : Region.Mode} {ops : Array Oper} {Q : Exit → Act → World → Prop} {S : World → Prop}
theorem makes_any (mks : List Mk) (stops : List (List Nat)) (L : Array Bool) (T : Array Value) (ds : List Deferred) (w0 : World) (fuel : Nat) (hI : (mks.map (·.i)).Nodup) (hD : (mks.map (·.d)).Nodup) (hrd : rdyOk md ops L (mks.map (·.i)) stops = true)
    (hop : ∀ m, m ∈ mks → ∀ (T' : Array Value) (w : World) (K : Act → World → Prop), (∀ k, (∀ x, x ∈ mks → x.d ≠ k) → T'[k]? = T[k]?) → K { tmps := T'.setIfInBounds m.d (m.val w.heap.size), defers := ds } (w.alloc m.obj) → wpOp P ops Q m.i K { tmps := T', defers := ds } w)
    (hS : ∀ w o, S w → S (w.alloc o)) (hS0 : S w0)
    (h : ∀ s, s ∈ stops → ∀ (blk : Nat → Nat) (w : World), Laid w0 w (mks.filter fun m => s.contains m.i) blk → S w → wpAnyH P md ops Q S (fuel + (mks.length - s.length)) (lsI L s) { tmps := tmd blk T (mks.filter fun m => s.contains m.i), defers := ds } w) :
    wpAnyH P md ops Q S (fuel + mks.length) L { tmps := T, defers := ds } w0 := by
  have key : ∀ (r : Nat) (D : List Mk) (blk : Nat → Nat) (w : World), (D.map (·.i)).Nodup → (∀ m, m ∈ D → m ∈ mks) → D.length + r = mks.length → Laid w0 w D blk → S w → wpAnyH P md ops Q S (fuel + r) (lsI L (D.map (·.i))) { tmps := tmd blk T D, defers := ds } w := by
    intro r
    induction r with
    | zero =>
      intro D blk w hn hsub hlen hl hw
      have hck := List.all_eq_true.1 hrd _ (filter_subs (fun i => (D.map (·.i)).contains i) (mks.map (·.i)))
      have hmem : ∀ m, m ∈ mks → m ∈ D := fun m hm => by
        refine Classical.byContradiction fun c => ?_
        have h1 : (m :: D).Nodup := List.nodup_cons.2 ⟨c, nodup_of_map hn⟩
        have h2 := List.Nodup.length_le_of_subset (l₂ := mks) h1 (fun x hx => by
          rcases List.mem_cons.1 hx with rfl | hx
          · exact hm
          · exact hsub x hx)
        simp at h2; omega
      have hall : (mks.map (·.i)).filter (fun i => (D.map (·.i)).contains i) = mks.map (·.i) := List.filter_eq_self.2 fun i hi => by
        obtain ⟨m, hm, rfl⟩ := List.mem_map.1 hi
        rw [List.contains_iff_mem]; exact List.mem_map_of_mem (hmem m hm)
      rw [hall] at hck
      rw [Bool.or_eq_true] at hck
      have hst := hck.resolve_right (fun c => by rw [Bool.and_eq_true] at c; simp at c)
      have hf : mks.filter (fun m => (mks.map (·.i)).contains m.i) = mks := List.filter_eq_self.2 fun m hm => by
        rw [List.contains_iff_mem]; exact List.mem_map_of_mem hm
      have hnd : (D.map (·.d)).Nodup := map_d_nodup hn hsub hD
      have hg := h _ (List.contains_iff_mem.1 hst) blk w (by rw [hf]; exact ⟨hl.bel, fun m hm => hl.at_ m (hmem m hm), fun m m' hm hm' => hl.ne m m' (hmem m hm) (hmem m' hm')⟩) hw
      rw [hf, List.length_map, Nat.sub_self] at hg
      rw [lsI_same (D' := mks.map (·.i)) (fun k => by
        simp only [List.mem_map]
        exact ⟨fun ⟨m, hm, e⟩ => ⟨m, hsub m hm, e⟩, fun ⟨m, hm, e⟩ => ⟨m, hmem m hm, e⟩⟩), tmd_same hnd hD (fun m => ⟨hsub m, hmem m⟩) (fun _ _ => rfl)]
      exact hg
    | succ r ih =>
      intro D blk w hn hsub hlen hl hw
      have hck := List.all_eq_true.1 hrd _ (filter_subs (fun i => (D.map (·.i)).contains i) (mks.map (·.i)))
      obtain ⟨s, hs⟩ : ∃ s, (mks.map (·.i)).filter (fun i => (D.map (·.i)).contains i) = s := ⟨_, rfl⟩
      rw [hs] at hck
      have hsm : ∀ k, k ∈ s ↔ k ∈ D.map (·.i) := fun k => by
        rw [← hs, List.mem_filter]
        simp only [List.contains_iff_mem]
        refine ⟨fun h => h.2, fun h => ⟨?_, h⟩⟩
        obtain ⟨m, hm, rfl⟩ := List.mem_map.1 h
        exact List.mem_map_of_mem (hsub m hm)
      have hsl : s.length = D.length := by
        have hsn : s.Nodup := by rw [← hs]; exact List.Pairwise.filter _ hI
        have h1 := List.Nodup.length_le_of_subset (l₂ := D.map (·.i)) hsn (fun x hx => (hsm x).1 hx)
        have h2 := List.Nodup.length_le_of_subset (l₂ := s) hn (fun x hx => (hsm x).2 hx)
        rw [List.length_map] at h1 h2
        omega
      have hsame : lsI L s = lsI L (D.map (·.i)) := lsI_same hsm
      rw [Bool.or_eq_true] at hck
      by_cases hst : stops.contains s = true
      · have hfm : ∀ m, m ∈ D ↔ m ∈ mks.filter (fun m => s.contains m.i) := fun m => by
          rw [List.mem_filter, List.contains_iff_mem, hsm]
          refine ⟨fun hm => ⟨hsub m hm, List.mem_map_of_mem hm⟩, fun ⟨hm, hi⟩ => ?_⟩
          obtain ⟨x, hx, e⟩ := List.mem_map.1 hi
          have := inj_i hI (hsub x hx) hm e
          rw [← this]; exact hx
        have hg := h s (List.contains_iff_mem.1 hst) blk w ⟨hl.bel, fun m hm => hl.at_ m ((hfm m).2 hm), fun m m' hm hm' => hl.ne m m' ((hfm m).2 hm) ((hfm m').2 hm')⟩ hw
        rw [hsl, show mks.length - D.length = r + 1 by omega, hsame] at hg
        rw [tmd_same (map_d_nodup hn hsub hD) (map_d_nodup (List.Pairwise.sublist (List.Sublist.map _ List.filter_sublist) hI) (fun m hm => (List.mem_filter.1 hm).1) hD) hfm (fun _ _ => rfl)]
        exact hg
      · have hck := hck.resolve_left hst
        rw [Bool.and_eq_true, Bool.and_eq_true, List.all_eq_true] at hck
        obtain ⟨_, hne, hall⟩ := hck
        rw [hsame] at hne hall
        refine wpAnyH_all rfl (fun c => by rw [c] at hne; simp at hne) fun i hi => ?_
        have h3 := hall i hi
        rw [Bool.and_eq_true] at h3
        obtain ⟨m, hm, rfl⟩ := List.mem_map.1 (List.contains_iff_mem.1 h3.1)
        have hmi : ∀ x, x ∈ D → x.i ≠ m.i := fun x hx c => by
          have h4 : s.contains m.i = true := by
            rw [List.contains_iff_mem, hsm, ← c]; exact List.mem_map_of_mem hx
          have h5 := h3.2
          rw [h4] at h5; cases h5
        refine hop m hm _ w _ (fun k hk => tmd_off _ _ _ _ (fun x hx => hk x (hsub x hx))) ⟨hS _ _ hw, ?_⟩
        have h6 := ih (D ++ [m]) (fun i => if i = m.i then w.heap.size else blk i) (w.alloc m.obj) (by
          rw [List.map_append, List.nodup_append]
          exact ⟨hn, by simp, fun a ha b hb => by
            obtain ⟨x, hx, rfl⟩ := List.mem_map.1 ha
            obtain rfl : b = m.i := by simpa using hb
            exact hmi x hx⟩) (fun x hx => by
          rcases List.mem_append.1 hx with hx | hx
          · exact hsub x hx
          · obtain rfl : x = m := by simpa using hx
            exact hm) (by simp; omega) (hl.step m hmi) (hS _ _ hw)
        rw [tmd_snoc, if_pos rfl, List.map_append] at h6
        have e1 : lsI L (D.map (·.i) ++ [m].map (·.i)) = (lsI L (D.map (·.i))).setIfInBounds m.i true := by
          unfold lsI; rw [List.foldl_append]; rfl
        have e2 : tmd (fun i => if i = m.i then w.heap.size else blk i) T D = tmd blk T D := by
          have : ∀ (D : List Mk), (∀ x, x ∈ D → x.i ≠ m.i) → tmd (fun i => if i = m.i then w.heap.size else blk i) T D = tmd blk T D := by
            intro D
            induction D using Uf_rev with
            | h0 => intro _; rfl
            | h1 D x ih2 =>
              intro hx
              rw [tmd_snoc, tmd_snoc, ih2 (fun y hy => hx y (by simp [hy])), if_neg (hx x (by simp))]
          exact this D hmi
        rw [e1, e2] at h6
        exact h6
  exact key mks.length [] (fun _ => 0) w0 (by simp) (fun m hm => by cases hm) (by simp) ⟨Below.refl _ _, fun m hm => (by cases hm), fun m m' hm => (by cases hm)⟩ hS0
/-- an operation's value lies in its slot, and a block is new -/
theorem op_makes {o : Oper} {i d : Nat} {obj : Obj} {v : Value} {T : Array Value} {ds : List Deferred} {w : World} {K : Act → World → Prop} (ho : ops[i]? = some o) (hg : o.guard = none) (hd : o.dst = some d)
    (hr : (execOp (Act.eval { tmps := T, defers := ds }) o).run P w = .ok (.value v) (w.alloc obj)) (hK : K { tmps := T.setIfInBounds d v, defers := ds } (w.alloc obj)) : wpOp P ops Q i K { tmps := T, defers := ds } w := by
  refine wpOp_step ho fun K' hK' => ?_
  have hw : Region.wanted o (yielded ops T) = true := by simp [Region.wanted, hg]
  rw [if_pos hw]
  unfold Oper.wp
  rw [hr]
  simp only [Oper.upon, hd, Act.put]
  exact hK' _ _ hK
/-- make of a slice, and a variable's block, as such operations -/
theorem op_mkslice {o : Oper} {i d t : Nat} {x y : Operand} {obj : Obj} {v : Value} {T : Array Value} {ds : List Deferred} {w : World} {K : Act → World → Prop} (ho : ops[i]? = some o) (hg : o.guard = none) (hd : o.dst = some d) (hx : o.op = .makeSlice t x y)
    (hr : (Instr.makeSlice t (Act.eval { tmps := T, defers := ds } x) (Act.eval { tmps := T, defers := ds } y)).run P w = .ok v (w.alloc obj)) (hK : K { tmps := T.setIfInBounds d v, defers := ds } (w.alloc obj)) : wpOp P ops Q i K { tmps := T, defers := ds } w := by
  refine op_makes ho hg hd ?_ hK
  unfold execOp
  rw [hx]
  simp only [Sem.run_bind, hr, Sem.run_pure]
  rfl
theorem op_mkvar {o : Oper} {i d t : Nat} {obj : Obj} {v : Value} {T : Array Value} {ds : List Deferred} {w : World} {K : Act → World → Prop} (ho : ops[i]? = some o) (hg : o.guard = none) (hd : o.dst = some d) (hx : o.op = .alloc t)
    (hr : (Instr.alloc t true (.tuple #[])).run P w = .ok v (w.alloc obj)) (hK : K { tmps := T.setIfInBounds d v, defers := ds } (w.alloc obj)) : wpOp P ops Q i K { tmps := T, defers := ds } w := by
  refine op_makes ho hg hd ?_ hK
  unfold execOp
  rw [hx]
  simp only [Sem.run_bind, hr, Sem.run_pure]
  rfl
end
end Go.Proofs.YtpbgophogneecaaGreat

/- What Forest of package kruskal answers. No conditions. -/
namespace Go.Proofs.YtpbgophogneecaaGreat
open Go.RowKit

/-- what Forest answers -/
def ForRes (n : Int) (E : List Ed) (w : World) (e : Ending) (w' : World) : Prop :=
  Below w.heap.size w w' ∧ ((gErr n E ≠ 0 ∧ e = .returned (.tuple #[.slice none 0 0, .int .i64 (gErr n E)])) ∨
    (gErr n E = 0 ∧ ∃ o v, OrdOf E o ∧ e = .returned (.tuple #[v, .int .i64 0]) ∧ OwnI w.heap.size v (frs E o) w'))
end Go.Proofs.YtpbgophogneecaaGreat
