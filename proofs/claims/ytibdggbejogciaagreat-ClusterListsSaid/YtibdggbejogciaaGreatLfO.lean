/- Slices in memory: a slice that reads as a list of numbers, whatever its address; rows that a call owns, and a family of them that grows by append. No conditions. -/
import Derived.Test.YtibdggbejogciaaGreatLfT
import Derived.Deep.OwnRows
import Derived.Maps.AppendAt
namespace Go.Proofs.YtibdggbejogciaaGreat
open Go.RowKit

/-- a number of a list of natural numbers -/
def nat64 (u : Nat) : Value := .int .i64 u

/-- a row other than the one that was appended to lies apart from the new one, too -/
theorem own_sep {w : World} {base : Nat} {e : TypeId} {size : Nat} {v x : Value} {m g : Nat} {ys : List Value} {n cap : Nat} (hx : w.ownsRow base e size x m ys) (hv : Moved w v g)
    (h : x.ownBlock = none ∨ x.ownBlock ≠ v.ownBlock) : x.ownBlock = none ∨ x.ownBlock ≠ (Value.slice (some ⟨g, 0, none⟩) n cap).ownBlock := by
  rcases h with h | h
  · exact .inl h
  · right
    show x.ownBlock ≠ some g
    rcases hv with hv | hv
    · rw [← hv]; exact h
    · intro e
      have := (hx.lt _ e).2
      omega
theorem own_sep' {w : World} {base : Nat} {e : TypeId} {size : Nat} {v x : Value} {m g : Nat} {ys : List Value} {n cap : Nat} (hx : w.ownsRow base e size x m ys) (hv : Moved w v g)
    (h : x.ownBlock = none ∨ x.ownBlock ≠ v.ownBlock) : (Value.slice (some ⟨g, 0, none⟩) n cap).ownBlock = none ∨ (Value.slice (some ⟨g, 0, none⟩) n cap).ownBlock ≠ x.ownBlock := by
  rcases own_sep (n := n) (cap := cap) hx hv h with h | h
  · right; rw [h]; intro e; cases e
  · exact .inr (fun e => h e.symm)

theorem Tryz.infoLI : (Tryz.prog.info? 37).map (fun i => (i.zero, i.size, i.bytes)) = some (some (.slice none 0 0), 1, 24) := by kernel_rfl

/-- what a row that a call owns looks like -/
theorem own_view {w : World} {base : Nat} {e : TypeId} {v : Value} {n : Nat} {xs : List Value} (h : w.ownsRow base e 1 v n xs) :
    ∃ a cap, v = .slice a n cap ∧ ∀ i u, xs[i]? = some u → ∃ g, a = some ⟨g, 0, none⟩ ∧ base ≤ g ∧ g < w.heap.size ∧ w.cell? ⟨g, i, none⟩ = some u ∧ w.frozen? ⟨g, i, none⟩ = false := by
  have hl := h.1
  rcases h.2 with ⟨rfl, h0⟩ | ⟨g, cap, cur, rfl, hb, hg, hn, hm, hs, ht⟩
  · subst h0
    exact ⟨none, 0, rfl, fun i u hi => absurd (List.getElem?_eq_some_iff.1 hi).1 (by omega)⟩
  · refine ⟨_, cap, rfl, fun i u hi => ⟨g, rfl, hb, (Array.getElem?_eq_some_iff.1 hg).1, ?_, by simp [World.frozen?, hg]⟩⟩
    simp only [World.cell?, hg, Option.isSome_none, Bool.false_eq_true, if_false]
    rw [← ht, List.getElem?_take] at hi
    split at hi
    · rw [Array.getElem?_toList] at hi; exact hi
    · cases hi
theorem map_at {l : List Nat} {i : Nat} (h : i < l.length) : (l.map nat64)[i]? = some (nat64 l[i]) := by simp [h]
/-- the family of the rows of children, and the queue -/
structure Fam (w : World) (base c n : Nat) (V : Nat → Value) (K : Nat → List Nat) (q : Value) (Q : List Nat) : Prop where
  row : w.rowIs c 37 n V
  cb : c < base
  own : ∀ u, u < n → w.ownsRow base 3 1 (V u) (K u).length ((K u).map nat64)
  qown : w.ownsRow base 3 1 q Q.length (Q.map nat64)
  sep : ∀ u u', u < n → u' < n → u ≠ u' → (V u).ownBlock = none ∨ (V u).ownBlock ≠ (V u').ownBlock
  sepq : ∀ u, u < n → (V u).ownBlock = none ∨ (V u).ownBlock ≠ q.ownBlock

variable {w : World} {base c n : Nat} {V : Nat → Value} {K : Nat → List Nat} {q : Value} {Q : List Nat}

theorem Fam.start (hr : w.rowIs c 37 n (fun _ => .slice none 0 0)) (hc : c < base) : Fam w base c n (fun _ => .slice none 0 0) (fun _ => []) (.slice none 0 0) [] where
  row := hr
  cb := hc
  own := fun _ _ => World.ownsRow_nil _ _ _ _
  qown := World.ownsRow_nil _ _ _ _
  sep := fun _ _ _ _ _ => .inl rfl
  sepq := fun _ _ => .inl rfl
theorem Fam.alloc (F : Fam w base c n V K q Q) (o : Obj) : Fam (w.alloc o) base c n V K q Q where
  row := F.row.alloc o
  cb := F.cb
  own := fun u hu => (F.own u hu).alloc o
  qown := F.qown.alloc o
  sep := F.sep
  sepq := F.sepq
/-- a store below the rows, beside the block of their values -/
theorem Fam.store (F : Fam w base c n V K q Q) {a : Addr} (ha : a.block < base) (hc : c ≠ a.block) (x : Value) : Fam (w.setCell a x) base c n V K q Q where
  row := F.row.setOther hc x
  cb := F.cb
  own := fun u hu => ownsRow_setCell_below (F.own u hu) ha x
  qown := ownsRow_setCell_below F.qown ha x
  sep := F.sep
  sepq := F.sepq
/-- the queue has been appended to -/
theorem Fam.push (F : Fam w base c n V K q Q) {w1 : World} {g m cap x : Nat} (hown : w1.ownsRow base 3 1 (.slice (some ⟨g, 0, none⟩) m cap) (Q.length + 1) (Q.map nat64 ++ [nat64 x])) (hg : w.grownBy w1 q.ownBlock)
    (hv : Moved w q g) : Fam w1 base c n V K (.slice (some ⟨g, 0, none⟩) m cap) (Q ++ [x]) where
  row := F.row.of_block (hg.block c F.row.lt (fun e => by have := (F.qown.lt c e.symm).1; have := F.cb; omega))
  cb := F.cb
  own := fun u hu => (F.own u hu).kept hg (F.sepq u hu)
  qown := by simpa using hown
  sep := F.sep
  sepq := fun u hu => own_sep (F.own u hu) hv (F.sepq u hu)
/-- the block of the rows' values lies as it lay when a row is appended to -/
theorem Fam.still (F : Fam w base c n V K q Q) {w1 : World} {p : Nat} (hp : p < n) (hg : w.grownBy w1 (V p).ownBlock) : w1.rowIs c 37 n V :=
  F.row.of_block (hg.block c F.row.lt (fun e => by have := ((F.own p hp).lt c e.symm).1; have := F.cb; omega))
/-- a row of the family has been appended to, and its new value stored -/
theorem Fam.add (F : Fam w base c n V K q Q) {w1 : World} {g m cap : Nat} {p x : Nat} (hp : p < n) (hown : w1.ownsRow base 3 1 (.slice (some ⟨g, 0, none⟩) m cap) ((K p).length + 1) ((K p).map nat64 ++ [nat64 x])) (hg : w.grownBy w1 (V p).ownBlock)
    (hv : Moved w (V p) g) : Fam (w1.setCell ⟨c, p, none⟩ (.slice (some ⟨g, 0, none⟩) m cap)) base c n (fun u => if u = p then .slice (some ⟨g, 0, none⟩) m cap else V u) (fun u => if u = p then K u ++ [x] else K u) q Q where
  row := (F.still hp hg).set p _
  cb := F.cb
  own := fun u hu => by
    refine ownsRow_setCell_below ?_ (by exact F.cb) _
    by_cases e : u = p
    · subst e; simpa using hown
    · simp only [if_neg e]; exact (F.own u hu).kept hg (F.sep u p hu hp e)
  qown := by
    refine ownsRow_setCell_below ?_ (by exact F.cb) _
    refine F.qown.kept hg ?_
    rcases F.sepq p hp with h | h
    · cases hq : q.ownBlock with
      | none => exact .inl rfl
      | some b => right; rw [h]; simp
    · exact .inr (fun e => h e.symm)
  sep := fun u u' hu hu' hne => by
    by_cases e : u = p
    · subst e
      have e' : u' ≠ u := fun h => hne h.symm
      simp only [if_true, if_neg e']
      exact own_sep' (F.own u' hu') hv (F.sep u' u hu' hu e')
    · simp only [if_neg e]
      by_cases e' : u' = p
      · subst e'; simp only [if_true]; exact own_sep (F.own u hu) hv (F.sep u u' hu hu' e)
      · simp only [if_neg e']; exact F.sep u u' hu hu' hne
  sepq := fun u hu => by
    by_cases e : u = p
    · subst e
      simp only [if_true]
      right
      show some g ≠ q.ownBlock
      rcases hv with hv | hv
      · rw [← hv]
        rcases F.sepq u hu with h | h
        · rw [hv] at h; cases h
        · exact h
      · intro e2
        have := (F.qown.lt _ e2.symm).2; omega
    · simp only [if_neg e]; exact F.sepq u hu
end Go.Proofs.YtibdggbejogciaaGreat
