/- Plain mathematics of search trees whose numbers are counted. No program. -/
import Derived.Test.YtpbgophogneecaaGreatMe
import Derived.StillTailTactics
import Derived.Deep.LoopGhost
import Derived.IntWalk
import Derived.BigRegion
import Derived.BigQuiet
namespace Go.Proofs.YtpbgophogneecaaGreat
open Go.RowKit

/-- a tree: the block, the kids, the number, how many times -/
inductive Tn where
  | nil
  | nd (b : Nat) (l r : Tn) (x : Int) (t : Nat)
def Tn.bl : Tn → List Nat
  | .nil => []
  | .nd b l r _ _ => b :: (l.bl ++ r.bl)
def Tn.sz : Tn → Nat
  | .nil => 0
  | .nd _ l r _ t => t + l.sz + r.sz
def Tn.ds : Tn → Nat
  | .nil => 0
  | .nd _ l r _ _ => 1 + l.ds + r.ds
def Tn.ht : Tn → Nat
  | .nil => 0
  | .nd _ l r _ _ => max l.ht r.ht + 1
def Tn.ino : Tn → List (Int × Nat)
  | .nil => []
  | .nd _ l r x t => l.ino ++ (x, t) :: r.ino
def Tn.adr : Tn → Option Addr
  | .nil => none
  | .nd b _ _ _ _ => some ⟨b, 0, none⟩
def Tn.ptr (t : Tn) : Value := .pointer t.adr
/-- how many numbers a list of counted numbers has -/
def szL (L : List (Int × Nat)) : Nat := (L.map Prod.snd).sum
theorem szL_app (A B : List (Int × Nat)) : szL (A ++ B) = szL A + szL B := by unfold szL; rw [List.map_append, List.sum_append]
theorem szL_cons (p : Int × Nat) (B : List (Int × Nat)) : szL (p :: B) = p.2 + szL B := by unfold szL; rw [List.map_cons, List.sum_cons]
theorem Tn.sz_ino (t : Tn) : t.sz = szL t.ino := by
  induction t with
  | nil => rfl
  | nd b l r x s hl hr => rw [Tn.ino, szL_app, szL_cons, Tn.sz, hl, hr]; omega
theorem Tn.ds_ino (t : Tn) : t.ds = t.ino.length := by
  induction t with
  | nil => rfl
  | nd b l r x s hl hr => rw [Tn.ino, List.length_append, List.length_cons, Tn.ds, hl, hr]; omega
theorem Tn.ht_le (t : Tn) : t.ht ≤ t.ds := by
  induction t with
  | nil => exact Nat.le_refl _
  | nd b l r x s hl hr => rw [Tn.ht, Tn.ds]; omega
theorem Tn.ds_bl (t : Tn) : t.bl.length = t.ds := by
  induction t with
  | nil => rfl
  | nd b l r x s hl hr => rw [Tn.bl, List.length_cons, List.length_append, Tn.ds, hl, hr]; omega
/-- the count of a number becomes k -/
def tlSet : List (Int × Nat) → Int → Nat → List (Int × Nat)
  | [], x, k => if k = 0 then [] else [(x, k)]
  | p :: L, x, k => if x < p.1 then (if k = 0 then p :: L else (x, k) :: p :: L) else if x = p.1 then (if k = 0 then L else (x, k) :: L) else p :: tlSet L x k
/-- the count of a number -/
def getC : List (Int × Nat) → Int → Nat
  | [], _ => 0
  | p :: L, x => if p.1 = x then p.2 else getC L x
/-- in increasing order, each number once -/
def SrtC (L : List (Int × Nat)) : Prop := L.Pairwise fun p q => p.1 < q.1
theorem setC_lt {A B : List (Int × Nat)} {p : Int × Nat} {x : Int} {k : Nat} (h : x < p.1) : tlSet (A ++ p :: B) x k = tlSet A x k ++ p :: B := by
  induction A with
  | nil =>
    have e1 : tlSet (p :: B) x k = if x < p.1 then (if k = 0 then p :: B else (x, k) :: p :: B) else if x = p.1 then (if k = 0 then B else (x, k) :: B) else p :: tlSet B x k := rfl
    have e2 : tlSet [] x k = if k = 0 then [] else [(x, k)] := rfl
    rw [List.nil_append, e1, if_pos h, e2]; split <;> rfl
  | cons q A ih =>
    rw [List.cons_append, tlSet, tlSet, ih]
    split
    · split <;> rfl
    · split
      · split <;> rfl
      · rfl
theorem setC_gt {A B : List (Int × Nat)} {x : Int} {k : Nat} (hA : ∀ q ∈ A, q.1 < x) : tlSet (A ++ B) x k = A ++ tlSet B x k := by
  induction A with
  | nil => rfl
  | cons q A ih =>
    have h1 := hA q (by simp)
    rw [List.cons_append, tlSet, if_neg (by omega), if_neg (by omega), ih fun r hr => hA r (by simp [hr])]; rfl
theorem getC_none {B : List (Int × Nat)} {x : Int} (hB : ∀ q ∈ B, q.1 ≠ x) : getC B x = 0 := by
  induction B with
  | nil => rfl
  | cons q B ih => rw [getC, if_neg (hB q (by simp)), ih fun r hr => hB r (by simp [hr])]
theorem getC_app {A B : List (Int × Nat)} {x : Int} (hA : ∀ q ∈ A, q.1 ≠ x) : getC (A ++ B) x = getC B x := by
  induction A with
  | nil => rfl
  | cons q A ih => rw [List.cons_append, getC, if_neg (hA q (by simp)), ih fun r hr => hA r (by simp [hr])]
theorem getC_left {A B : List (Int × Nat)} {x : Int} (hB : ∀ q ∈ B, q.1 ≠ x) : getC (A ++ B) x = getC A x := by
  induction A with
  | nil => exact getC_none hB
  | cons q A ih => rw [List.cons_append, getC, getC, ih]
theorem setC_mem {L : List (Int × Nat)} {x : Int} {k : Nat} {q : Int × Nat} (h : q ∈ tlSet L x k) : q = (x, k) ∧ k ≠ 0 ∨ q ∈ L := by
  induction L with
  | nil =>
    rw [tlSet] at h
    split at h
    · simp at h
    · rename_i hk
      exact .inl ⟨by simpa using h, hk⟩
  | cons p L ih =>
    rw [tlSet] at h
    split at h
    · split at h
      · exact .inr h
      · rename_i hk
        rcases List.mem_cons.1 h with h | h
        · exact .inl ⟨h, hk⟩
        · exact .inr h
    · split at h
      · split at h
        · exact .inr (List.mem_cons_of_mem _ h)
        · rename_i hk
          rcases List.mem_cons.1 h with h | h
          · exact .inl ⟨h, hk⟩
          · exact .inr (List.mem_cons_of_mem _ h)
      · rcases List.mem_cons.1 h with h | h
        · exact .inr (by rw [h]; simp)
        · rcases ih h with h | h
          · exact .inl h
          · exact .inr (List.mem_cons_of_mem _ h)
theorem setC_srt {L : List (Int × Nat)} {x : Int} {k : Nat} (h : SrtC L) : SrtC (tlSet L x k) := by
  unfold SrtC at h ⊢
  induction L with
  | nil => rw [tlSet]; split <;> simp
  | cons p L ih =>
    have ⟨h1, h2⟩ := List.pairwise_cons.1 h
    rw [tlSet]
    split
    · split
      · exact h
      · rename_i hx _
        exact List.pairwise_cons.2 ⟨fun q hq => by
          rcases List.mem_cons.1 hq with rfl | hq
          · exact hx
          · exact Int.lt_trans hx (h1 q hq), h⟩
    · split
      · rename_i hx
        split
        · exact h2
        · exact List.pairwise_cons.2 ⟨fun q hq => by rw [hx]; exact h1 q hq, h2⟩
      · rename_i hx hx2
        refine List.pairwise_cons.2 ⟨fun q hq => ?_, ih h2⟩
        rcases setC_mem hq with ⟨rfl, _⟩ | hq
        · show p.1 < x; omega
        · exact h1 q hq
theorem setC_get {L : List (Int × Nat)} {x y : Int} {k : Nat} (h : SrtC L) : getC (tlSet L x k) y = if y = x then k else getC L y := by
  unfold SrtC at h
  induction L with
  | nil =>
    rw [tlSet]
    by_cases hk : k = 0
    · rw [if_pos hk]; subst hk; simp [getC]
    · rw [if_neg hk, getC, getC]
      by_cases hy : y = x
      · subst hy; simp
      · rw [if_neg hy, if_neg (fun e => hy e.symm)]; rfl
  | cons p L ih =>
    have ⟨h1, h2⟩ := List.pairwise_cons.1 h
    rw [tlSet]
    by_cases hx : x < p.1
    · rw [if_pos hx]
      by_cases hk : k = 0
      · rw [if_pos hk]
        by_cases hy : y = x
        · rw [if_pos hy, hk]
          exact getC_none fun q hq => by
            rcases List.mem_cons.1 hq with rfl | hq
            · omega
            · have := h1 q hq; omega
        · rw [if_neg hy]
      · rw [if_neg hk, getC]
        by_cases hy : y = x
        · subst hy; simp
        · rw [if_neg hy, if_neg (fun e => hy e.symm)]
    · rw [if_neg hx]
      by_cases he : x = p.1
      · rw [if_pos he]
        by_cases hk : k = 0
        · rw [if_pos hk, getC]
          by_cases hy : y = x
          · rw [if_pos hy, hk]
            exact getC_none fun q hq => by have := h1 q hq; omega
          · rw [if_neg hy, if_neg (fun e => hy (by omega))]
        · rw [if_neg hk, getC, getC]
          by_cases hy : y = x
          · subst hy; simp
          · rw [if_neg hy, if_neg (fun e => hy e.symm), if_neg (fun e => hy (by omega))]
      · rw [if_neg he, getC, getC, ih h2]
        by_cases hy : y = x
        · subst hy
          rw [if_pos rfl, if_neg (fun e => he e.symm), if_pos rfl]
        · rw [if_neg hy, if_neg hy]
theorem setC_sz {L : List (Int × Nat)} {x : Int} {k : Nat} (h : SrtC L) : szL (tlSet L x k) + getC L x = szL L + k := by
  unfold SrtC at h
  induction L with
  | nil =>
    rw [tlSet, getC]
    split
    · rename_i hk; rw [hk]
    · rw [szL_cons]; show k + szL [] + 0 = szL [] + k; omega
  | cons p L ih =>
    have ⟨h1, h2⟩ := List.pairwise_cons.1 h
    rw [tlSet]
    split
    · rename_i hx
      have h0 : getC (p :: L) x = 0 := getC_none fun q hq => by
        rcases List.mem_cons.1 hq with rfl | hq
        · omega
        · have := h1 q hq; omega
      rw [h0]
      split
      · rename_i hk; rw [hk]
      · rw [szL_cons]; show k + _ + 0 = _; omega
    · split
      · rename_i hx
        rw [getC, if_pos hx.symm, szL_cons]
        split
        · rename_i hk; omega
        · rw [szL_cons]; show k + _ + _ = _; omega
      · rename_i hx hx2
        rw [getC, if_neg (fun e => hx2 e.symm), szL_cons, szL_cons]
        have := ih h2
        omega
theorem setC_len (L : List (Int × Nat)) (x : Int) (k : Nat) : (tlSet L x k).length ≤ L.length + 1 := by
  induction L with
  | nil => rw [tlSet]; split <;> simp
  | cons p L ih =>
    rw [tlSet]
    split
    · split <;> simp
    · split
      · split <;> simp <;> omega
      · simp; omega
/-- the number with an index in the sequence -/
def kthL : List (Int × Nat) → Nat → Int
  | [], _ => 0
  | p :: L, k => if k < p.2 then p.1 else kthL L (k - p.2)
theorem kthL_app (A B : List (Int × Nat)) (k : Nat) : kthL (A ++ B) k = if k < szL A then kthL A k else kthL B (k - szL A) := by
  induction A generalizing k with
  | nil => rw [List.nil_append, if_neg (by unfold szL; simp)]; rfl
  | cons p A ih =>
    rw [List.cons_append, kthL, kthL, ih, szL_cons]
    by_cases h1 : k < p.2
    · rw [if_pos h1, if_pos h1, if_pos (by omega)]
    · rw [if_neg h1, if_neg h1]
      by_cases h2 : k - p.2 < szL A
      · rw [if_pos h2, if_pos (by omega)]
      · rw [if_neg h2, if_neg (by omega), show k - p.2 - szL A = k - (p.2 + szL A) by omega]
/-- every count is positive -/
def PosC (L : List (Int × Nat)) : Prop := ∀ q ∈ L, 0 < q.2
theorem setC_pos {L : List (Int × Nat)} {x : Int} {k : Nat} (h : PosC L) : PosC (tlSet L x k) := fun q hq => by
  rcases setC_mem hq with ⟨rfl, hk⟩ | hq
  · show 0 < k; omega
  · exact h q hq
theorem kthL_last {L : List (Int × Nat)} {p : Int × Nat} (hp : 0 < p.2) : kthL (L ++ [p]) (szL (L ++ [p]) - 1) = p.1 := by
  rw [kthL_app, szL_app, szL_cons]
  have h0 : szL [] = 0 := rfl
  rw [h0, if_neg (by omega), kthL, if_pos (by omega)]
/-- a list of counted numbers stands for a list of numbers -/
structure Rep (L : List (Int × Nat)) (M : List Int) : Prop where
  srt : SrtC L
  pos : PosC L
  cnt : ∀ x, getC L x = M.count x
theorem Rep.sum : ∀ {L : List (Int × Nat)} {M : List Int}, Rep L M → ∀ g : Int → Int, (L.map fun p => (p.2 : Int) * g p.1).sum = (M.map g).sum
  | [], M, h, g => by
    have h0 : M = [] := by
      cases M with
      | nil => rfl
      | cons y M => have := h.cnt y; rw [getC, List.count_cons_self] at this; omega
    rw [h0]; rfl
  | (y, t) :: L, M, h, g => by
    have ⟨h1, h2⟩ := List.pairwise_cons.1 h.srt
    have hr : Rep L (M.filter fun z => decide (z ≠ y)) := ⟨h2, fun q hq => h.pos q (by simp [hq]), fun x => by
      have hc := h.cnt x
      rw [getC] at hc
      by_cases hx : x = y
      · subst hx
        rw [getC_none fun q hq => by have := h1 q hq; omega, List.count_eq_zero.2]
        simp
      · rw [if_neg (fun e => hx e.symm)] at hc
        rw [hc, List.count_filter (by simpa using hx)]⟩
    have ih := hr.sum g
    rw [List.map_cons, List.sum_cons, ih]
    have hy := h.cnt y
    rw [getC, if_pos rfl] at hy
    have key : ∀ M : List Int, (M.map g).sum = (M.count y : Int) * g y + ((M.filter fun z => decide (z ≠ y)).map g).sum := by
      intro M
      induction M with
      | nil => simp
      | cons z M ihM =>
        rw [List.map_cons, List.sum_cons, ihM, List.count_cons, List.filter_cons]
        by_cases hz : z = y
        · subst hz
          simp
          rw [Int.add_mul, Int.one_mul]; omega
        · simp [hz]; omega
    rw [key M, ← hy]
theorem Rep.len {L : List (Int × Nat)} {M : List Int} (h : Rep L M) : szL L = M.length := by
  have h1 := h.sum fun _ => 1
  have h2 : ∀ L : List (Int × Nat), (L.map fun p => (p.2 : Int) * 1).sum = (szL L : Nat) := fun L => by
    induction L with
    | nil => rfl
    | cons p L ih => rw [List.map_cons, List.sum_cons, ih, szL_cons]; omega
  have h3 : ∀ M : List Int, (M.map fun _ => (1 : Int)).sum = (M.length : Nat) := fun M => by
    induction M with
    | nil => rfl
    | cons p L ih => rw [List.map_cons, List.sum_cons, ih, List.length_cons]; omega
  rw [h2, h3] at h1
  omega
theorem Rep.add {L : List (Int × Nat)} {M : List Int} (h : Rep L M) (x : Int) : Rep (tlSet L x (getC L x + 1)) (x :: M) :=
  ⟨setC_srt h.srt, setC_pos h.pos, fun y => by
    rw [setC_get h.srt, List.count_cons]
    by_cases hy : y = x
    · subst hy; rw [if_pos rfl, h.cnt]; simp
    · rw [if_neg hy, h.cnt]
      have : ¬ x = y := fun e => hy e.symm
      simp [this]⟩
theorem Rep.del {L : List (Int × Nat)} {M : List Int} {x : Int} (h : Rep L (x :: M)) : Rep (tlSet L x (getC L x - 1)) M :=
  ⟨setC_srt h.srt, setC_pos h.pos, fun y => by
    rw [setC_get h.srt]
    have hc := h.cnt y
    rw [List.count_cons] at hc
    by_cases hy : y = x
    · subst hy; rw [if_pos rfl, hc]; simp
    · rw [if_neg hy, hc]
      have : ¬ x = y := fun e => hy e.symm
      simp [this]⟩
theorem Rep.perm {L : List (Int × Nat)} {M M' : List Int} (h : Rep L M) (hp : M.Perm M') : Rep L M' := ⟨h.srt, h.pos, fun x => by rw [h.cnt, hp.count_eq]⟩
end Go.Proofs.YtpbgophogneecaaGreat

/- Search trees of package bag in memory: how they lie, what sizes and refresh do. Conditions: the tree has at most a million numbers. -/
namespace Go.Proofs.YtpbgophogneecaaGreat
open Go.RowKit

/-- the cells of a node -/
def nodV (l r : Value) (x t s d h : Int) : Array Value := #[l, r, .int .i64 x, .int .i64 t, .int .i64 s, .int .i64 d, .int .i64 h]
def NodAt (w : World) (b : Nat) (l r : Value) (x t s d h : Int) : Prop := Row w b 7 (fun i => (nodV l r x t s d h).getD i undef)
section
variable {w w' : World} {b : Nat} {l r : Value} {x t s d h : Int}
theorem NodAt.c0 (N : NodAt w b l r x t s d h) : w.cell? ⟨b, 0, none⟩ = some l := N.cell (i := 0) (by omega)
theorem NodAt.c1 (N : NodAt w b l r x t s d h) : w.cell? ⟨b, 1, none⟩ = some r := N.cell (i := 1) (by omega)
theorem NodAt.c2 (N : NodAt w b l r x t s d h) : w.cell? ⟨b, 2, none⟩ = some (.int .i64 x) := N.cell (i := 2) (by omega)
theorem NodAt.c3 (N : NodAt w b l r x t s d h) : w.cell? ⟨b, 3, none⟩ = some (.int .i64 t) := N.cell (i := 3) (by omega)
theorem NodAt.c4 (N : NodAt w b l r x t s d h) : w.cell? ⟨b, 4, none⟩ = some (.int .i64 s) := N.cell (i := 4) (by omega)
theorem NodAt.c5 (N : NodAt w b l r x t s d h) : w.cell? ⟨b, 5, none⟩ = some (.int .i64 d) := N.cell (i := 5) (by omega)
theorem NodAt.c6 (N : NodAt w b l r x t s d h) : w.cell? ⟨b, 6, none⟩ = some (.int .i64 h) := N.cell (i := 6) (by omega)
theorem NodAt.fz (N : NodAt w b l r x t s d h) (q : Nat) : w.frozen? ⟨b, q, none⟩ = false := Row.frozen N q
theorem NodAt.of_block (N : NodAt w b l r x t s d h) (e : w'.heap[b]? = w.heap[b]?) : NodAt w' b l r x t s d h := Row.of_block N e
theorem NodAt.other (N : NodAt w b l r x t s d h) {p : Addr} (hp : b ≠ p.block) (v : Value) : NodAt (w.setCell p v) b l r x t s d h := N.of_block (Below.heap_setCell _ _ _ _ hp)
theorem NodAt.lt (N : NodAt w b l r x t s d h) : b < w.heap.size := Row.lt N
theorem nodV_set {i : Nat} {v : Value} {V V' : Array Value} (h : ∀ j, j < 7 → (if j = i then v else V.getD j undef) = V'.getD j undef) (R : Row w b 7 (fun i => V.getD i undef)) : Row (w.setCell ⟨b, i, none⟩ v) b 7 (fun i => V'.getD i undef) := (R.set i v).congr h
theorem NodAt.set0 (N : NodAt w b l r x t s d h) (v : Value) : NodAt (w.setCell ⟨b, 0, none⟩ v) b v r x t s d h := nodV_set (fun j hj => by match j, hj with | 0, _ => rfl | 1, _ => rfl | 2, _ => rfl | 3, _ => rfl | 4, _ => rfl | 5, _ => rfl | 6, _ => rfl | n + 7, k => omega) N
theorem NodAt.set1 (N : NodAt w b l r x t s d h) (v : Value) : NodAt (w.setCell ⟨b, 1, none⟩ v) b l v x t s d h := nodV_set (fun j hj => by match j, hj with | 0, _ => rfl | 1, _ => rfl | 2, _ => rfl | 3, _ => rfl | 4, _ => rfl | 5, _ => rfl | 6, _ => rfl | n + 7, k => omega) N
theorem NodAt.set3 (N : NodAt w b l r x t s d h) (v : Int) : NodAt (w.setCell ⟨b, 3, none⟩ (.int .i64 v)) b l r x v s d h := nodV_set (fun j hj => by match j, hj with | 0, _ => rfl | 1, _ => rfl | 2, _ => rfl | 3, _ => rfl | 4, _ => rfl | 5, _ => rfl | 6, _ => rfl | n + 7, k => omega) N
theorem NodAt.set4 (N : NodAt w b l r x t s d h) (v : Int) : NodAt (w.setCell ⟨b, 4, none⟩ (.int .i64 v)) b l r x t v d h := nodV_set (fun j hj => by match j, hj with | 0, _ => rfl | 1, _ => rfl | 2, _ => rfl | 3, _ => rfl | 4, _ => rfl | 5, _ => rfl | 6, _ => rfl | n + 7, k => omega) N
theorem NodAt.set5 (N : NodAt w b l r x t s d h) (v : Int) : NodAt (w.setCell ⟨b, 5, none⟩ (.int .i64 v)) b l r x t s v h := nodV_set (fun j hj => by match j, hj with | 0, _ => rfl | 1, _ => rfl | 2, _ => rfl | 3, _ => rfl | 4, _ => rfl | 5, _ => rfl | 6, _ => rfl | n + 7, k => omega) N
theorem NodAt.set6 (N : NodAt w b l r x t s d h) (v : Int) : NodAt (w.setCell ⟨b, 6, none⟩ (.int .i64 v)) b l r x t s d v := nodV_set (fun j hj => by match j, hj with | 0, _ => rfl | 1, _ => rfl | 2, _ => rfl | 3, _ => rfl | 4, _ => rfl | 5, _ => rfl | 6, _ => rfl | n + 7, k => omega) N
end
/-- a tree in memory -/
def TAt (w : World) : Tn → Prop
  | .nil => True
  | .nd b l r x t => NodAt w b l.ptr r.ptr x (t : Nat) ((Tn.nd b l r x t).sz : Nat) ((Tn.nd b l r x t).ds : Nat) ((Tn.nd b l r x t).ht : Nat) ∧ TAt w l ∧ TAt w r
theorem TAt.keep {w w' : World} : ∀ {t : Tn}, TAt w t → (∀ j ∈ t.bl, w'.heap[j]? = w.heap[j]?) → TAt w' t
  | .nil, _, _ => trivial
  | .nd b l r x t, h, e => ⟨h.1.of_block (e b (by simp [Tn.bl])), h.2.1.keep fun j hj => e j (by simp [Tn.bl, hj]), h.2.2.keep fun j hj => e j (by simp [Tn.bl, hj])⟩
theorem TAt.lt {w : World} : ∀ {t : Tn}, TAt w t → ∀ j ∈ t.bl, j < w.heap.size
  | .nil, _, j, hj => by simp [Tn.bl] at hj
  | .nd b l r x t, h, j, hj => by
    rw [Tn.bl, List.mem_cons, List.mem_append] at hj
    rcases hj with rfl | hj | hj
    · exact h.1.lt
    · exact h.2.1.lt j hj
    · exact h.2.2.lt j hj
/-- nothing but some blocks, and new ones, has turned -/
structure Off (S : List Nat) (w w' : World) : Prop where
  os : w'.os = w.os
  tape : w'.tape = w.tape
  output : w'.output = w.output
  size : w.heap.size ≤ w'.heap.size
  block : ∀ k, k < w.heap.size → k ∉ S → w'.heap[k]? = w.heap[k]?
theorem Off.refl (S : List Nat) (w : World) : Off S w w := ⟨rfl, rfl, rfl, Nat.le_refl _, fun _ _ _ => rfl⟩
theorem Off.trans {S S' : List Nat} {a b c : World} (h : Off S a b) (k : Off S' b c) (hs : ∀ j ∈ S', j ∈ S ∨ a.heap.size ≤ j) : Off S a c :=
  ⟨k.os.trans h.os, k.tape.trans h.tape, k.output.trans h.output, Nat.le_trans h.size k.size, fun j hj hn => (k.block j (Nat.lt_of_lt_of_le hj h.size) fun c => (hs j c).elim hn fun e => by omega).trans (h.block j hj hn)⟩
theorem Off.mono {S S' : List Nat} {a b : World} (h : Off S a b) (hs : ∀ j ∈ S, j ∈ S' ∨ a.heap.size ≤ j) : Off S' a b :=
  ⟨h.os, h.tape, h.output, h.size, fun j hj hn => h.block j hj fun c => (hs j c).elim hn fun e => by omega⟩
theorem Off.setCell {S : List Nat} {a b : World} (h : Off S a b) {p : Addr} (hp : p.block ∈ S) (v : Value) : Off S a (b.setCell p v) :=
  ⟨h.os, h.tape, h.output, by simpa [World.setCell] using h.size, fun j hj hn => (Below.heap_setCell _ _ _ _ (fun e => hn (by rw [e]; exact hp))).trans (h.block j hj hn)⟩
theorem Off.drew {S : List Nat} {a b : World} (h : Off S a b) : Off S a b.drew := ⟨h.os, h.tape, h.output, h.size, h.block⟩
theorem Off.drewN {S : List Nat} {a b : World} (h : Off S a b) (q : Nat) : Off S a (b.drewN q) := by
  have k := below_drewN (Below.refl 0 b) q
  exact ⟨k.os.trans h.os, k.tape.trans h.tape, k.output.trans h.output, by simpa using h.size, fun j hj hn => by simpa using h.block j hj hn⟩
theorem Off.below {S : List Nat} {a b : World} {B : Nat} (h : Off S a b) (hB : B ≤ a.heap.size) (hs : ∀ j ∈ S, B ≤ j) : Below B a b :=
  ⟨h.os, h.tape, h.output, h.size, fun j hj => h.block j (by omega) fun c => by have := hs j c; omega⟩
theorem Off.tat {S : List Nat} {a b : World} {t : Tn} (h : Off S a b) (ht : TAt a t) (hd : ∀ j ∈ t.bl, j ∉ S) : TAt b t := ht.keep fun j hj => h.block j (ht.lt j hj) (hd j hj)
section
set_option maxRecDepth 100000 in
set_option maxHeartbeats 1000000 in
theorem sizes_any (t : Tn) (w : World) (h : TAt w t) : Calls Tryz.prog 105 #[t.ptr] w fun e w' => e = .returned (.tuple #[.int .i64 (t.sz : Nat), .int .i64 (t.ds : Nat), .int .i64 (t.ht : Nat)]) ∧ ∃ q, w' = w.drewN q := by
  cases t with
  | nil =>
    unfold Tn.ptr Tn.adr
    go_enter Tryz.func105, Tryz.ntmps105
    go_wp2_with fail
    go_ret3
    exact ⟨rfl, 0, rfl⟩
  | nd b l r x t =>
    have c4 := h.1.c4
    have c5 := h.1.c5
    have c6 := h.1.c6
    generalize (Tn.nd b l r x t).sz = s at *
    generalize (Tn.nd b l r x t).ds = d at *
    generalize (Tn.nd b l r x t).ht = hh at *
    unfold Tn.ptr Tn.adr
    clear h
    go_enter Tryz.func105, Tryz.ntmps105
    go_wp2_with fail
    go_quiet (fail)
    go_wp2_with fail
    go_ret3
    exact ⟨rfl, _, rfl⟩
end
/-- a node's sums, k kids counted -/
def sK (l r : Tn) (k : Nat) : Nat := (if 0 < k then l.sz else 0) + (if 1 < k then r.sz else 0)
def dK (l r : Tn) (k : Nat) : Nat := (if 0 < k then l.ds else 0) + (if 1 < k then r.ds else 0)
def hK (l r : Tn) (k : Nat) : Nat := max (if 0 < k then l.ht else 0) (if 1 < k then r.ht else 0)
set_option maxRecDepth 100000 in
set_option maxHeartbeats 4000000 in
theorem refresh_any (b : Nat) (l r : Tn) (x s d hh : Int) (t : Nat) (w : World) (hN : NodAt w b l.ptr r.ptr x (t : Nat) s d hh) (hl : TAt w l) (hr : TAt w r) (nl : b ∉ l.bl) (nr : b ∉ r.bl) (hz : (Tn.nd b l r x t).sz ≤ 1000000) (hd : (Tn.nd b l r x t).ds ≤ 1000000) :
    Calls Tryz.prog 106 #[.pointer (some ⟨b, 0, none⟩)] w fun e w' => e = .returned (.tuple #[]) ∧ TAt w' (.nd b l r x t) ∧ Off [b] w w' ∧ w'.heap.size = w.heap.size := by
  have HL := Lib.hid hl; have HR := Lib.hid hr; have HNL := Lib.hid nl; have HNR := Lib.hid nr
  have HN := Lib.hid hN
  have c0 := hN.c0; have c1 := hN.c1; have c2 := hN.c3
  have c4 := hN.c4; have c5 := hN.c5; have c6 := hN.c6
  have f4 := hN.fz 4; have f5 := hN.fz 5; have f6 := hN.fz 6
  have hht := Tn.ht_le (.nd b l r x t)
  rw [Tn.sz] at hz
  rw [Tn.ds] at hd hht
  rw [Tn.ht] at hht
  clear hl hr nl nr hN
  go_enter Tryz.func106, Tryz.ntmps106
  go_wp2_with fail
  have HS : Hid (NodAt (((w.setCell ⟨b, 4, none⟩ (.int .i64 (t : Nat))).setCell ⟨b, 5, none⟩ (.int .i64 1)).setCell ⟨b, 6, none⟩ (.int .i64 0)) b l.ptr r.ptr x (t : Nat) (t : Nat) 1 0) := Lib.hid (((HN.out.set4 _).set5 _).set6 _)
  have HO : Hid (Off [b] w (((w.setCell ⟨b, 4, none⟩ (.int .i64 (t : Nat))).setCell ⟨b, 5, none⟩ (.int .i64 1)).setCell ⟨b, 6, none⟩ (.int .i64 0))) := Lib.hid (((((Off.refl [b] w).setCell (p := ⟨b, 4, none⟩) (by simp) _).setCell (p := ⟨b, 5, none⟩) (by simp) _).setCell (p := ⟨b, 6, none⟩) (by simp) _))
  have HZ : Hid ((((w.setCell ⟨b, 4, none⟩ (.int .i64 (t : Nat))).setCell ⟨b, 5, none⟩ (.int .i64 1)).setCell ⟨b, 6, none⟩ (.int .i64 0)).heap.size = w.heap.size) := Lib.hid (by simp [World.setCell])
  clear c0 c1 c2 c4 c5 c6 f4 f5 f6
  go_loopw [24] (fun iv wr => ∃ k : Nat, k ≤ 2 ∧ iv = .int .i64 (k : Nat) ∧ Hid (NodAt wr b l.ptr r.ptr x (t : Nat) (t + sK l r k : Nat) (1 + dK l r k : Nat) (hK l r k : Nat)) ∧ Hid (Off [b] w wr) ∧ Hid (wr.heap.size = w.heap.size)) (fun iv _ => 2 - (intOf iv).toNat)
  case atStart => exact ⟨0, by omega, rfl, HS, HO, HZ⟩
  case round =>
    clear HS HO HZ
    obtain ⟨k, hk, rfl, HS, HO, HZ⟩ := hrel
    have h012 : k = 0 ∨ k = 1 ∨ k = 2 := by omega
    rcases h012 with rfl | rfl | rfl
    · have HQ := Lib.hid (sizes_any l wr (HO.out.tat HL.out fun j hj => by simp; exact fun e => HNL.out (e ▸ hj)))
      have i0 : ∀ w, (Instr.index 153 (.agg #[l.ptr, r.ptr]) (.int .i64 0)).run Tryz.prog w = .ok l.ptr w := fun _ => by kernel_rfl
      have z1 : t + sK l r 1 = t + sK l r 0 + l.sz := by simp [sK]; try omega
      have z2 : 1 + dK l r 1 = 1 + dK l r 0 + l.ds := by simp [dK]; try omega
      have z3 : hK l r 1 = max (hK l r 0) l.ht := by simp [hK]
      have z4 : t + sK l r 1 ≤ 1000000 := by simp [sK]; omega
      have z5 : 1 + dK l r 1 ≤ 1000000 := by simp [dK]; omega
      obtain ⟨s1, hs1⟩ : ∃ y, t + sK l r 1 = y := ⟨_, rfl⟩
      obtain ⟨d1, hd1⟩ : ∃ y, 1 + dK l r 1 = y := ⟨_, rfl⟩
      obtain ⟨h1, hh1⟩ : ∃ y, hK l r 1 = y := ⟨_, rfl⟩
      rw [hs1] at z1 z4; rw [hd1] at z2 z5; rw [hh1] at z3
      have HE := Lib.hid (And.intro hs1 (And.intro hd1 hh1))
      clear hs1 hd1 hh1
      generalize t + sK l r 0 = s0 at *
      generalize 1 + dK l r 0 = d0 at *
      generalize hK l r 0 = h0 at *
      have c4 := HS.out.c4; have c5 := HS.out.c5; have c6 := HS.out.c6
      have f4 := HS.out.fz 4; have f5 := HS.out.fz 5; have f6 := HS.out.fz 6
      have w4 : ((s0 : Nat) : Int) + (l.sz : Nat) = (s1 : Nat) := by omega
      have w5 : ((d0 : Nat) : Int) + (l.ds : Nat) = (d1 : Nat) := by omega
      have w6 : (if h0 < l.ht then ((l.ht : Nat) : Int) else (h0 : Nat)) = (h1 : Nat) := by split <;> omega
      have HW := Lib.hid (And.intro w4 (And.intro w5 w6))
      have b4 : ((s0 : Nat) : Int) + (l.sz : Nat) ≤ 1000000 := by omega
      have b5 : ((d0 : Nat) : Int) + (l.ds : Nat) ≤ 1000000 := by omega
      clear w4 w5 w6 z1 z2 z3 z4 z5
      go_wp2_with fail
      refine HQ.out.mono ?_
      rintro e w' ⟨rfl, q, rfl⟩
      go_wp2_with fail
      go_roundw
      case rel =>
        refine ⟨1, by omega, rfl, Lib.hid ?_, Lib.hid ?_, Lib.hid ?_⟩
        · rw [HE.out.1, HE.out.2.1, HE.out.2.2, HW.out.1, HW.out.2.1, HW.out.2.2]
          exact (((HS.out.of_block (by simp)).set4 _).set5 _).set6 _
        · exact (((HO.out.drewN q).setCell (p := ⟨b, 4, none⟩) (by simp) _).setCell (p := ⟨b, 5, none⟩) (by simp) _).setCell (p := ⟨b, 6, none⟩) (by simp) _
        · have := HZ.out
          simpa [World.setCell] using this
      case measure => simp only [intOf]; decide
    · have HQ := Lib.hid (sizes_any r wr (HO.out.tat HR.out fun j hj => by simp; exact fun e => HNR.out (e ▸ hj)))
      have i0 : ∀ w, (Instr.index 153 (.agg #[l.ptr, r.ptr]) (.int .i64 1)).run Tryz.prog w = .ok r.ptr w := fun _ => by kernel_rfl
      have z1 : t + sK l r 2 = t + sK l r 1 + r.sz := by simp [sK]; try omega
      have z2 : 1 + dK l r 2 = 1 + dK l r 1 + r.ds := by simp [dK]; try omega
      have z3 : hK l r 2 = max (hK l r 1) r.ht := by simp [hK]
      have z4 : t + sK l r 2 ≤ 1000000 := by simp [sK]; omega
      have z5 : 1 + dK l r 2 ≤ 1000000 := by simp [dK]; omega
      obtain ⟨s1, hs1⟩ : ∃ y, t + sK l r 2 = y := ⟨_, rfl⟩
      obtain ⟨d1, hd1⟩ : ∃ y, 1 + dK l r 2 = y := ⟨_, rfl⟩
      obtain ⟨h1, hh1⟩ : ∃ y, hK l r 2 = y := ⟨_, rfl⟩
      rw [hs1] at z1 z4; rw [hd1] at z2 z5; rw [hh1] at z3
      have HE := Lib.hid (And.intro hs1 (And.intro hd1 hh1))
      clear hs1 hd1 hh1
      generalize t + sK l r 1 = s0 at *
      generalize 1 + dK l r 1 = d0 at *
      generalize hK l r 1 = h0 at *
      have c4 := HS.out.c4; have c5 := HS.out.c5; have c6 := HS.out.c6
      have f4 := HS.out.fz 4; have f5 := HS.out.fz 5; have f6 := HS.out.fz 6
      have w4 : ((s0 : Nat) : Int) + (r.sz : Nat) = (s1 : Nat) := by omega
      have w5 : ((d0 : Nat) : Int) + (r.ds : Nat) = (d1 : Nat) := by omega
      have w6 : (if h0 < r.ht then ((r.ht : Nat) : Int) else (h0 : Nat)) = (h1 : Nat) := by split <;> omega
      have HW := Lib.hid (And.intro w4 (And.intro w5 w6))
      have b4 : ((s0 : Nat) : Int) + (r.sz : Nat) ≤ 1000000 := by omega
      have b5 : ((d0 : Nat) : Int) + (r.ds : Nat) ≤ 1000000 := by omega
      clear w4 w5 w6 z1 z2 z3 z4 z5
      go_wp2_with fail
      refine HQ.out.mono ?_
      rintro e w' ⟨rfl, q, rfl⟩
      go_wp2_with fail
      go_roundw
      case rel =>
        refine ⟨2, by omega, rfl, Lib.hid ?_, Lib.hid ?_, Lib.hid ?_⟩
        · rw [HE.out.1, HE.out.2.1, HE.out.2.2, HW.out.1, HW.out.2.1, HW.out.2.2]
          exact (((HS.out.of_block (by simp)).set4 _).set5 _).set6 _
        · exact (((HO.out.drewN q).setCell (p := ⟨b, 4, none⟩) (by simp) _).setCell (p := ⟨b, 5, none⟩) (by simp) _).setCell (p := ⟨b, 6, none⟩) (by simp) _
        · have := HZ.out
          simpa [World.setCell] using this
      case measure => simp only [intOf]; decide
    · have hs : t + sK l r 2 = (Tn.nd b l r x t).sz := by simp [sK, Tn.sz]; omega
      have hd' : 1 + dK l r 2 = (Tn.nd b l r x t).ds := by simp [dK, Tn.ds]; omega
      have hh' : hK l r 2 + 1 = (Tn.nd b l r x t).ht := by simp [hK, Tn.ht]
      have hb : hK l r 2 ≤ 1000000 := by simp [hK]; omega
      have HE := Lib.hid (And.intro hs (And.intro hd' hh'))
      clear hs hd' hh'
      have c6 := HS.out.c6
      have f6 := HS.out.fz 6
      generalize hK l r 2 = h0 at *
      go_wp2_with fail
      go_end0
      have hN2 : NodAt (wr.setCell ⟨b, 6, none⟩ (.int .i64 ((h0 : Int) + 1))) b l.ptr r.ptr x (t : Nat) ((Tn.nd b l r x t).sz : Nat) ((Tn.nd b l r x t).ds : Nat) ((Tn.nd b l r x t).ht : Nat) := by
        rw [← HE.out.1, ← HE.out.2.1, ← HE.out.2.2]; exact HS.out.set6 _
      have hO2 := HO.out.setCell (p := ⟨b, 6, none⟩) (by simp) (.int .i64 ((h0 : Int) + 1))
      exact ⟨rfl, ⟨hN2, hO2.tat HL.out fun j hj => by simp; exact fun e => HNL.out (e ▸ hj), hO2.tat HR.out fun j hj => by simp; exact fun e => HNR.out (e ▸ hj)⟩, hO2, by have := HZ.out; simpa [World.setCell] using this⟩
end Go.Proofs.YtpbgophogneecaaGreat

/- The walk of rotate of package bag. Conditions: the node has that kid. -/
namespace Go.Proofs.YtpbgophogneecaaGreat
open Go.RowKit

set_option maxRecDepth 100000 in
set_option maxHeartbeats 4000000 in
theorem rotate0_any (b kb : Nat) (p q o : Tn) (x kx : Int) (t kt : Nat) (s d hh ks kd kh : Int) (w : World) (hN : NodAt w b (.pointer (some ⟨kb, 0, none⟩)) o.ptr x (t : Nat) s d hh) (hK : NodAt w kb p.ptr q.ptr kx (kt : Nat) ks kd kh)
    (h1 : TAt w p) (h2 : TAt w q) (h3 : TAt w o) (hb : ∀ j, j ∈ p.bl ∨ j ∈ q.bl ∨ j ∈ o.bl → j ≠ b ∧ j ≠ kb) (hbk : b ≠ kb) (hz : kt + t + p.sz + q.sz + o.sz ≤ 1000000) (hd : 2 + p.ds + q.ds + o.ds ≤ 1000000) :
    Calls Tryz.prog 125 #[.pointer (some ⟨b, 0, none⟩), .int .i64 0] w fun e w' => e = .returned (.pointer (some ⟨kb, 0, none⟩)) ∧ TAt w' (.nd kb p (.nd b q o x t) kx kt) ∧ Off [b, kb] w w' ∧ w'.heap.size = w.heap.size := by
  have H1 := Lib.hid h1; have H2 := Lib.hid h2; have H3 := Lib.hid h3; have HB := Lib.hid hb; have HBK := Lib.hid hbk
  have HN := Lib.hid hN; have HK := Lib.hid hK
  have c0 := hN.c0
  have f0 := hN.fz 0
  have k0 := hK.c1
  have g0 := hK.fz 1
  have k1 : (w.setCell ⟨b, 0, none⟩ q.ptr).cell? ⟨kb, 1, none⟩ = some q.ptr := by
    rw [World.cell?_setCell_other (h := fun e => by injection e with e1; exact hbk (by first | exact e1 | exact e1.symm))]; exact k0
  have g1 : (w.setCell ⟨b, 0, none⟩ q.ptr).frozen? ⟨kb, 1, none⟩ = false := by
    rw [World.frozen?_setCell]; exact g0
  have hw : IntKind.i64.wrap 1 = 1 := by decide
  clear h1 h2 h3 hb hN hK
  unfold Tn.ptr at c0 k0 k1 g1
  go_enter Tryz.func125, Tryz.ntmps125
  go_wp2_with fail
  go_region
  go_wp2_with fail
  have hWn : NodAt (((w.setCell ⟨b, 0, none⟩ (.pointer q.adr)).setCell ⟨kb, 1, none⟩ (.pointer (some ⟨b, 0, none⟩))).drew) b q.ptr o.ptr x (t : Nat) s d hh := ((HN.out.set0 _).other (p := ⟨kb, 1, none⟩) HBK.out _).of_block rfl
  have hWk : NodAt (((w.setCell ⟨b, 0, none⟩ (.pointer q.adr)).setCell ⟨kb, 1, none⟩ (.pointer (some ⟨b, 0, none⟩))).drew) kb p.ptr (.pointer (some ⟨b, 0, none⟩)) kx (kt : Nat) ks kd kh := ((HK.out.other (p := ⟨b, 0, none⟩) (fun e => HBK.out e.symm) _).set1 _).of_block rfl
  have hO : Off [b, kb] w (((w.setCell ⟨b, 0, none⟩ (.pointer q.adr)).setCell ⟨kb, 1, none⟩ (.pointer (some ⟨b, 0, none⟩))).drew) := (((Off.refl _ w).setCell (p := ⟨b, 0, none⟩) (by simp) _).setCell (p := ⟨kb, 1, none⟩) (by simp) _).drew
  have hS : (((w.setCell ⟨b, 0, none⟩ (.pointer q.adr)).setCell ⟨kb, 1, none⟩ (.pointer (some ⟨b, 0, none⟩))).drew).heap.size = w.heap.size := by simp [World.setCell]
  generalize (((w.setCell ⟨b, 0, none⟩ (.pointer q.adr)).setCell ⟨kb, 1, none⟩ (.pointer (some ⟨b, 0, none⟩))).drew) = W at *
  have hn : ∀ j, j ∈ p.bl ∨ j ∈ q.bl ∨ j ∈ o.bl → j ∉ [b, kb] := fun j hj => by have := HB.out j hj; simp [this]
  have hp := hO.tat H1.out fun j hj => hn j (.inl hj)
  have hq := hO.tat H2.out fun j hj => hn j (.inr (.inl hj))
  have ho := hO.tat H3.out fun j hj => hn j (.inr (.inr hj))
  have HP := Lib.hid hp; have HQ := Lib.hid hq; have HO := Lib.hid ho; have HOf := Lib.hid hO; have HS := Lib.hid hS; have HWk := Lib.hid hWk
  have HRf := Lib.hid (refresh_any b q o x s d hh t W hWn hq ho (fun c => (HB.out b (by simp [c])).1 rfl) (fun c => (HB.out b (by simp [c])).1 rfl) (by rw [Tn.sz]; omega) (by rw [Tn.ds]; omega))
  clear hWn hWk hO hS hn hp hq ho c0 f0 k0 g0 k1 g1
  refine HRf.out.mono ?_
  rintro e w2 ⟨rfl, ht2, ho2, hs2⟩
  have hk2 : NodAt w2 kb p.ptr (Tn.nd b q o x t).ptr kx (kt : Nat) ks kd kh := HWk.out.of_block (ho2.block kb HWk.out.lt (by simp; exact fun e => HBK.out e.symm))
  have hx2 := ho2.tat HP.out fun j hj => by simp; exact (HB.out j (by simp [hj])).1
  have HRf2 := Lib.hid (refresh_any kb p (.nd b q o x t) kx ks kd kh kt w2 hk2 hx2 ht2 (fun c => (HB.out kb (by simp [c])).2 rfl) (fun c => by
    simp [Tn.bl] at c
    rcases c with c | c | c
    · exact HBK.out c.symm
    · exact (HB.out kb (by simp [c])).2 rfl
    · exact (HB.out kb (by simp [c])).2 rfl) (by simp only [Tn.sz]; omega) (by simp only [Tn.ds]; omega))
  have HO2 := Lib.hid (HOf.out.trans ho2 (fun j hj => .inl (by simp at hj; simp [hj])))
  have HS2 := Lib.hid (hs2.trans HS.out)
  clear hk2 hx2 ht2 ho2 hs2 HRf
  go_wp2_with fail
  refine HRf2.out.mono ?_
  rintro e w3 ⟨rfl, ht3, ho3, hs3⟩
  have HT := Lib.hid ht3
  have HO3 := Lib.hid (HO2.out.trans ho3 (fun j hj => .inl (by simp at hj; simp [hj])))
  have HS3 := Lib.hid (hs3.trans HS2.out)
  clear ht3 ho3 hs3 HRf2
  go_wp2_with fail
  go_ret
  exact ⟨rfl, HT.out, HO3.out, HS3.out⟩
set_option maxRecDepth 100000 in
set_option maxHeartbeats 4000000 in
theorem rotate1_any (b kb : Nat) (p q o : Tn) (x kx : Int) (t kt : Nat) (s d hh ks kd kh : Int) (w : World) (hN : NodAt w b o.ptr (.pointer (some ⟨kb, 0, none⟩)) x (t : Nat) s d hh) (hK : NodAt w kb p.ptr q.ptr kx (kt : Nat) ks kd kh)
    (h1 : TAt w p) (h2 : TAt w q) (h3 : TAt w o) (hb : ∀ j, j ∈ p.bl ∨ j ∈ q.bl ∨ j ∈ o.bl → j ≠ b ∧ j ≠ kb) (hbk : b ≠ kb) (hz : kt + t + p.sz + q.sz + o.sz ≤ 1000000) (hd : 2 + p.ds + q.ds + o.ds ≤ 1000000) :
    Calls Tryz.prog 125 #[.pointer (some ⟨b, 0, none⟩), .int .i64 1] w fun e w' => e = .returned (.pointer (some ⟨kb, 0, none⟩)) ∧ TAt w' (.nd kb (.nd b o p x t) q kx kt) ∧ Off [b, kb] w w' ∧ w'.heap.size = w.heap.size := by
  have H1 := Lib.hid h1; have H2 := Lib.hid h2; have H3 := Lib.hid h3; have HB := Lib.hid hb; have HBK := Lib.hid hbk
  have HN := Lib.hid hN; have HK := Lib.hid hK
  have c0 := hN.c1
  have f0 := hN.fz 1
  have k0 := hK.c0
  have g0 := hK.fz 0
  have k1 : (w.setCell ⟨b, 1, none⟩ p.ptr).cell? ⟨kb, 0, none⟩ = some p.ptr := by
    rw [World.cell?_setCell_other (h := fun e => by injection e with e1; exact hbk (by first | exact e1 | exact e1.symm))]; exact k0
  have g1 : (w.setCell ⟨b, 1, none⟩ p.ptr).frozen? ⟨kb, 0, none⟩ = false := by
    rw [World.frozen?_setCell]; exact g0
  have hw : IntKind.i64.wrap 1 = 1 := by decide
  clear h1 h2 h3 hb hN hK
  unfold Tn.ptr at c0 k0 k1 g1
  go_enter Tryz.func125, Tryz.ntmps125
  go_wp2_with fail
  go_region
  go_wp2_with fail
  have hWn : NodAt (((w.setCell ⟨b, 1, none⟩ (.pointer p.adr)).setCell ⟨kb, 0, none⟩ (.pointer (some ⟨b, 0, none⟩))).drew) b o.ptr p.ptr x (t : Nat) s d hh := ((HN.out.set1 _).other (p := ⟨kb, 0, none⟩) HBK.out _).of_block rfl
  have hWk : NodAt (((w.setCell ⟨b, 1, none⟩ (.pointer p.adr)).setCell ⟨kb, 0, none⟩ (.pointer (some ⟨b, 0, none⟩))).drew) kb (.pointer (some ⟨b, 0, none⟩)) q.ptr kx (kt : Nat) ks kd kh := ((HK.out.other (p := ⟨b, 1, none⟩) (fun e => HBK.out e.symm) _).set0 _).of_block rfl
  have hO : Off [b, kb] w (((w.setCell ⟨b, 1, none⟩ (.pointer p.adr)).setCell ⟨kb, 0, none⟩ (.pointer (some ⟨b, 0, none⟩))).drew) := (((Off.refl _ w).setCell (p := ⟨b, 1, none⟩) (by simp) _).setCell (p := ⟨kb, 0, none⟩) (by simp) _).drew
  have hS : (((w.setCell ⟨b, 1, none⟩ (.pointer p.adr)).setCell ⟨kb, 0, none⟩ (.pointer (some ⟨b, 0, none⟩))).drew).heap.size = w.heap.size := by simp [World.setCell]
  generalize (((w.setCell ⟨b, 1, none⟩ (.pointer p.adr)).setCell ⟨kb, 0, none⟩ (.pointer (some ⟨b, 0, none⟩))).drew) = W at *
  have hn : ∀ j, j ∈ p.bl ∨ j ∈ q.bl ∨ j ∈ o.bl → j ∉ [b, kb] := fun j hj => by have := HB.out j hj; simp [this]
  have hp := hO.tat H1.out fun j hj => hn j (.inl hj)
  have hq := hO.tat H2.out fun j hj => hn j (.inr (.inl hj))
  have ho := hO.tat H3.out fun j hj => hn j (.inr (.inr hj))
  have HP := Lib.hid hp; have HQ := Lib.hid hq; have HO := Lib.hid ho; have HOf := Lib.hid hO; have HS := Lib.hid hS; have HWk := Lib.hid hWk
  have HRf := Lib.hid (refresh_any b o p x s d hh t W hWn ho hp (fun c => (HB.out b (by simp [c])).1 rfl) (fun c => (HB.out b (by simp [c])).1 rfl) (by rw [Tn.sz]; omega) (by rw [Tn.ds]; omega))
  clear hWn hWk hO hS hn hp hq ho c0 f0 k0 g0 k1 g1
  refine HRf.out.mono ?_
  rintro e w2 ⟨rfl, ht2, ho2, hs2⟩
  have hk2 : NodAt w2 kb (Tn.nd b o p x t).ptr q.ptr kx (kt : Nat) ks kd kh := HWk.out.of_block (ho2.block kb HWk.out.lt (by simp; exact fun e => HBK.out e.symm))
  have hx2 := ho2.tat HQ.out fun j hj => by simp; exact (HB.out j (by simp [hj])).1
  have HRf2 := Lib.hid (refresh_any kb (.nd b o p x t) q kx ks kd kh kt w2 hk2 ht2 hx2 (fun c => by
    simp [Tn.bl] at c
    rcases c with c | c | c
    · exact HBK.out c.symm
    · exact (HB.out kb (by simp [c])).2 rfl
    · exact (HB.out kb (by simp [c])).2 rfl) (fun c => (HB.out kb (by simp [c])).2 rfl) (by simp only [Tn.sz]; omega) (by simp only [Tn.ds]; omega))
  have HO2 := Lib.hid (HOf.out.trans ho2 (fun j hj => .inl (by simp at hj; simp [hj])))
  have HS2 := Lib.hid (hs2.trans HS.out)
  clear hk2 hx2 ht2 ho2 hs2 HRf
  go_wp2_with fail
  refine HRf2.out.mono ?_
  rintro e w3 ⟨rfl, ht3, ho3, hs3⟩
  have HT := Lib.hid ht3
  have HO3 := Lib.hid (HO2.out.trans ho3 (fun j hj => .inl (by simp at hj; simp [hj])))
  have HS3 := Lib.hid (hs3.trans HS2.out)
  clear ht3 ho3 hs3 HRf2
  go_wp2_with fail
  go_ret
  exact ⟨rfl, HT.out, HO3.out, HS3.out⟩
end Go.Proofs.YtpbgophogneecaaGreat

/- The walk of balance of package bag. Conditions: the tree's blocks are apart. -/
namespace Go.Proofs.YtpbgophogneecaaGreat
open Go.RowKit

/-- what balance answers: a tree of the same numbers in the same blocks -/
def BalR (S : List Nat) (L : List (Int × Nat)) (w : World) (e : Ending) (w' : World) : Prop :=
  ∃ t' : Tn, e = .returned t'.ptr ∧ TAt w' t' ∧ t'.ino = L ∧ t'.bl.Perm S ∧ Off S w w' ∧ w'.heap.size = w.heap.size
theorem Tn.split {t : Tn} (h : 0 < t.ht) : ∃ b p q x k, t = .nd b p q x k := by
  cases t with
  | nil => exact absurd h (by simp [Tn.ht])
  | nd b p q x k => exact ⟨b, p, q, x, k, rfl⟩
theorem Off.nil {S : List Nat} {a b : World} (h : Off [] a b) : Off S a b := h.mono fun j hj => by simp at hj
theorem off_drewN (w : World) (q : Nat) : Off [] w (w.drewN q) := (Off.refl [] w).drewN q
theorem TAt.dn {w : World} {t : Tn} (h : TAt w t) (q : Nat) : TAt (w.drewN q) t := h.keep fun j _ => by simp
theorem NodAt.dn {w : World} {b : Nat} {l r : Value} {x t s d h : Int} (N : NodAt w b l r x t s d h) (q : Nat) : NodAt (w.drewN q) b l r x t s d h := N.of_block (by simp)
theorem cnt_pos {j : Nat} {l : List Nat} (h : j ∈ l) : 1 ≤ l.count j := List.count_pos_iff.2 h
theorem NodAt.off {w w' : World} {b : Nat} {l r : Value} {x t s d h : Int} {S : List Nat} (N : NodAt w b l r x t s d h) (o : Off S w w') (hb : b ∉ S) : NodAt w' b l r x t s d h := N.of_block (o.block b N.lt hb)
theorem TAt.set {w : World} {t : Tn} (h : TAt w t) {p : Addr} (hp : p.block ∉ t.bl) (v : Value) : TAt (w.setCell p v) t := h.keep fun j hj => Below.heap_setCell _ _ _ _ (fun e => hp (by rw [← e]; exact hj))
set_option maxRecDepth 100000 in
set_option maxHeartbeats 8000000 in
theorem balance_any (b : Nat) (l r : Tn) (x s d hh : Int) (t : Nat) (w : World) (hN : NodAt w b l.ptr r.ptr x (t : Nat) s d hh) (hl : TAt w l) (hr : TAt w r) (hnd : (b :: (l.bl ++ r.bl)).Nodup) (hz : (Tn.nd b l r x t).sz ≤ 1000000) (hd : (Tn.nd b l r x t).ds ≤ 1000000) :
    Calls Tryz.prog 108 #[.pointer (some ⟨b, 0, none⟩)] w (BalR (b :: (l.bl ++ r.bl)) (l.ino ++ (x, t) :: r.ino) w) := by
  have HN := Lib.hid hN; have HL := Lib.hid hl; have HR := Lib.hid hr; have HND := Lib.hid hnd; have HZ := Lib.hid hz; have HD := Lib.hid hd
  have hbl := Tn.ht_le l; have hbr := Tn.ht_le r
  rw [Tn.ds] at hd
  clear hN hl hr hnd hz
  go_enter Tryz.func108, Tryz.ntmps108
  go_wp2_with fail
  go_loopw [17] (fun iv wr => ∃ k q : Nat, k ≤ 2 ∧ iv = .int .i64 (k : Nat) ∧ wr = w.drewN q) (fun iv _ => 2 - (intOf iv).toNat)
  case atStart => exact ⟨0, 0, by omega, rfl, rfl⟩
  case round =>
    obtain ⟨k, q0, hk, rfl, rfl⟩ := hrel
    have h012 : k = 0 ∨ k = 1 ∨ k = 2 := by omega
    rcases h012 with rfl | rfl | rfl
    · by_cases hc : l.ht ≤ r.ht + 1
      · have c0 := HN.out.c0; have c1 := HN.out.c1
        unfold Tn.ptr at c0 c1
        go_wp2_with fail
        refine (sizes_any l _ (HL.out.dn _)).mono ?_
        rintro e w1 ⟨rfl, q1, rfl⟩
        go_wp2_with fail
        refine (sizes_any r _ (HR.out.dn _)).mono ?_
        rintro e w2 ⟨rfl, q2, rfl⟩
        go_wp2_with fail
        go_roundw
        case rel => exact ⟨0 + 1, _, by omega, rfl, by first | trivial | rfl⟩
        case measure => simp only [intOf]; decide
      · obtain ⟨kb, p, q, kx, kt, rfl⟩ := Tn.split (t := l) (by omega)
        have HBD := Lib.hid (And.intro HZ.out HD.out)
        have hbp := Tn.ht_le p; have hbq := Tn.ht_le q
        have hdK : (Tn.nd kb p q kx kt).ds = 1 + p.ds + q.ds := rfl
        have HKK := Lib.hid HL.out
        by_cases hi : p.ht < q.ht
        · obtain ⟨jb, u, v, jx, jt, hj⟩ := Tn.split (t := q) (by omega)
          subst hj
          have hnd := HND.out
          have c0 : w.cell? ⟨b, 0, none⟩ = some (.pointer (some ⟨kb, 0, none⟩)) := HN.out.c0
          have c1 : w.cell? ⟨b, 1, none⟩ = some (.pointer r.adr) := HN.out.c1
          have k0 : w.cell? ⟨kb, 0, none⟩ = some (.pointer p.adr) := HKK.out.1.c0
          have k1 : w.cell? ⟨kb, 1, none⟩ = some (.pointer (Tn.nd jb u v jx jt).adr) := HKK.out.1.c1
          have hx : IntKind.i64.wrap (1 - 0) = 1 := by decide
          clear hnd
          go_wp2_with fail
          refine (sizes_any _ _ (HKK.out.dn _)).mono ?_
          rintro e w1 ⟨rfl, q1, rfl⟩
          go_wp2_with fail
          refine (sizes_any r _ (HR.out.dn _)).mono ?_
          rintro e w2 ⟨rfl, q2, rfl⟩
          go_wp2_with fail
          refine (sizes_any (.nd jb u v jx jt) _ (HKK.out.2.2.dn _)).mono ?_
          rintro e w3 ⟨rfl, q3, rfl⟩
          go_wp2_with fail
          refine (sizes_any p _ (HKK.out.2.1.dn _)).mono ?_
          rintro e w4 ⟨rfl, q4, rfl⟩
          go_wp2_with fail
          obtain ⟨Q, hQ⟩ : ∃ Q, q0 + q1 + q2 + q3 + q4 = Q := ⟨_, rfl⟩
          rw [hQ]
          clear hQ
          have hcnt : ∀ j, (b :: ((Tn.nd kb p (.nd jb u v jx jt) kx kt).bl ++ r.bl)).count j ≤ 1 := fun j => List.nodup_iff_count.1 HND.out j
          simp only [Tn.bl, List.cons_append, List.append_assoc, List.count_cons, List.count_append] at hcnt
          have e1 : b ≠ kb := fun e => by have h := hcnt kb; (simp [e] at h) <;> omega
          have e2 : b ≠ jb := fun e => by have h := hcnt jb; (simp [e] at h) <;> omega
          have e3 : kb ≠ jb := fun e => by have h := hcnt jb; (simp [e] at h) <;> omega
          have HE := Lib.hid (And.intro e1 (And.intro e2 e3))
          have HC := Lib.hid hcnt
          have hz := HZ.out; have hd9 := HD.out
          simp only [Tn.sz] at hz; simp only [Tn.ds] at hd9
          clear c0 c1 k0 k1 e1 e2 e3 hcnt
          refine region_plain (fun _ => True) (by kernel_rfl) ?_
          have HS : True := trivial
          refine take_at (i := 0) (d := 74) (v := ?_) rfl rfl (by kernel_rfl) (by kernel_rfl) (by kernel_rfl) (fun _ _ _ _ => NormalOnly.any) rfl ?hy1 HS ?rest1
          case hy1 => intro w' hSw; (try dsimp only at hSw); go_simp; try (with_reducible rfl)
          try simp only [List.setIfInBounds_toArray, List.set_cons_zero, List.set_cons_succ]
          refine take_at (i := 1) (d := 75) (v := ?_) rfl rfl (by kernel_rfl) (by kernel_rfl) (by kernel_rfl) (fun _ _ _ _ => NormalOnly.any) rfl ?hy2 HS ?rest2
          case hy2 => intro w' hSw; (try dsimp only at hSw); go_simp; try (with_reducible rfl)
          try simp only [List.setIfInBounds_toArray, List.set_cons_zero, List.set_cons_succ]
          refine take_at (i := 2) (d := 76) (v := ?_) rfl rfl (by kernel_rfl) (by kernel_rfl) (by kernel_rfl) (fun _ _ _ _ => NormalOnly.any) rfl ?hy3 HS ?rest3
          case hy3 => intro w' hSw; (try dsimp only at hSw); go_simp; try (with_reducible rfl)
          try simp only [List.setIfInBounds_toArray, List.set_cons_zero, List.set_cons_succ]
          refine take_at (i := 3) (d := 77) (v := ?_) rfl rfl (by kernel_rfl) (by kernel_rfl) (by kernel_rfl) (fun _ _ _ _ => NormalOnly.any) rfl ?hy4 HS ?rest4
          case hy4 => intro w' hSw; (try dsimp only at hSw); go_simp; try (with_reducible rfl)
          try simp only [List.setIfInBounds_toArray, List.set_cons_zero, List.set_cons_succ]
          refine take_at (i := 4) (d := 78) (v := ?_) rfl rfl (by kernel_rfl) (by kernel_rfl) (by kernel_rfl) (fun _ _ _ _ => NormalOnly.any) rfl ?hy5 HS ?rest5
          case hy5 => intro w' hSw; (try dsimp only at hSw); go_simp; try (with_reducible rfl)
          try simp only [List.setIfInBounds_toArray, List.set_cons_zero, List.set_cons_succ]
          refine take_at (i := 6) (d := 80) (v := ?_) rfl rfl (by kernel_rfl) (by kernel_rfl) (by kernel_rfl) (fun _ _ _ _ => NormalOnly.any) rfl ?hy6 HS ?rest6
          case hy6 => intro w' hSw; (try dsimp only at hSw); go_simp; try (with_reducible rfl)
          try simp only [List.setIfInBounds_toArray, List.set_cons_zero, List.set_cons_succ]
          refine take_at (i := 7) (d := 81) (v := ?_) rfl rfl (by kernel_rfl) (by kernel_rfl) (by kernel_rfl) (fun _ _ _ _ => NormalOnly.any) rfl ?hy7 HS ?rest7
          case hy7 => intro w' hSw; (try dsimp only at hSw); go_simp; try (with_reducible rfl)
          try simp only [List.setIfInBounds_toArray, List.set_cons_zero, List.set_cons_succ]
          refine wpAnyH_ready (rs := [5]) (by kernel_rfl) (by simp) ?_
          refine AllReadyH.cons rfl (fun K hK => ?_) AllReadyH.nil
          go_simp
          rw [show IntKind.i64.wrap 1 = 1 by decide]
          refine (rotate1_any kb jb u v p kx jx kt jt _ _ _ _ _ _ _ (HKK.out.1.dn _) (HKK.out.2.2.1.dn _) (HKK.out.2.2.2.1.dn _) (HKK.out.2.2.2.2.dn _) (HKK.out.2.1.dn _) (fun j hj => ⟨fun e => ?_, fun e => ?_⟩) HE.out.2.2 (by omega) (by omega)).mono ?_
          · subst e
            have h := HC.out j
            rcases hj with hj | hj | hj <;> have h2 := cnt_pos hj <;> (simp at h) <;> omega
          · subst e
            have h := HC.out j
            rcases hj with hj | hj | hj <;> have h2 := cnt_pos hj <;> (simp at h) <;> omega
          rintro e w5 ⟨rfl, ht5, ho5, hs5⟩
          refine hK.out _ _ trivial (fun _ => ?_)
          clear hK
          have hN5 := (HN.out.dn (Q + 1)).off ho5 (by have := HE.out; simp; exact ⟨this.1, this.2.1⟩)
          have k5 := hN5.c0
          have f5 := hN5.fz 0
          have HN5 := Lib.hid hN5
          have HT5 := Lib.hid ht5; have HO5 := Lib.hid ho5; have HS5 := Lib.hid hs5
          clear hN5 ht5 ho5 hs5
          refine take_at (i := 8) (d := 82) (v := ?_) rfl rfl (by kernel_rfl) (by kernel_rfl) (by kernel_rfl) (fun _ _ _ _ => NormalOnly.any) rfl ?hy8 HS ?rest8
          case hy8 => intro w' hSw; (try dsimp only at hSw); go_simp; try (with_reducible rfl)
          try simp only [List.setIfInBounds_toArray, List.set_cons_zero, List.set_cons_succ]
          refine wpAnyH_ready (rs := [9]) (by kernel_rfl) (by simp) ?_
          refine AllReadyH.cons rfl (fun K hK => ?_) AllReadyH.nil
          go_simp
          refine hK.out _ _ trivial (fun _ => ?_)
          clear hK
          refine wpAnyH_done (by kernel_rfl) ⟨rfl, ?_⟩ _
          clear k5 f5
          have hb2 : NodAt (w5.setCell ⟨b, 0, none⟩ (.pointer (some ⟨jb, 0, none⟩))) b (.pointer (some ⟨jb, 0, none⟩)) r.ptr x (t : Nat) s d hh := HN5.out.set0 _
          have hj2 := HT5.out.1.other (p := ⟨b, 0, none⟩) (fun e => HE.out.2.1 e.symm) (.pointer (some ⟨jb, 0, none⟩))
          have hm : ∀ j, j ∈ (Tn.nd kb p u kx kt).bl ∨ j ∈ v.bl ∨ j ∈ r.bl → j ≠ b ∧ j ≠ jb := fun j hj => ⟨fun e => by
            subst e
            have h := HC.out j
            simp only [Tn.bl, List.mem_cons, List.mem_append] at hj
            rcases hj with (hj | hj | hj) | hj | hj <;> first | exact absurd hj HE.out.1 | (have h2 := cnt_pos hj; (simp at h) <;> omega), fun e => by
            subst e
            have h := HC.out j
            simp only [Tn.bl, List.mem_cons, List.mem_append] at hj
            rcases hj with (hj | hj | hj) | hj | hj <;> first | exact absurd hj.symm HE.out.2.2 | (have h2 := cnt_pos hj; (simp at h) <;> omega)⟩
          have t1 : TAt (w5.setCell ⟨b, 0, none⟩ (.pointer (some ⟨jb, 0, none⟩))) (Tn.nd kb p u kx kt) := HT5.out.2.1.set (p := ⟨b, 0, none⟩) (fun c => (hm b (.inl c)).1 rfl) _
          have t2 : TAt (w5.setCell ⟨b, 0, none⟩ (.pointer (some ⟨jb, 0, none⟩))) v := HT5.out.2.2.set (p := ⟨b, 0, none⟩) (fun c => (hm b (.inr (.inl c))).1 rfl) _
          have t3 : TAt (w5.setCell ⟨b, 0, none⟩ (.pointer (some ⟨jb, 0, none⟩))) r := (HO5.out.tat (HR.out.dn (Q + 1)) (fun j hj => by
            have h := HC.out j
            have h2 := cnt_pos hj
            simp only [List.mem_cons, List.not_mem_nil, or_false]
            rintro (rfl | rfl) <;> (simp at h) <;> omega)).set (p := ⟨b, 0, none⟩) (fun c => (hm b (.inr (.inr c))).1 rfl) _
          have HR2 := Lib.hid (rotate0_any b jb (Tn.nd kb p u kx kt) v r x jx t jt _ _ _ _ _ _ _ hb2 hj2 t1 t2 t3 hm HE.out.2.1 (by simp only [Tn.sz]; omega) (by simp only [Tn.ds]; omega))
          have HO6 := Lib.hid (show Off (b :: ((Tn.nd kb p (.nd jb u v jx jt) kx kt).bl ++ r.bl)) w (w5.setCell ⟨b, 0, none⟩ (.pointer (some ⟨jb, 0, none⟩))) from ((off_drewN w (Q + 1)).nil.trans HO5.out (fun j hj => .inl (by simp [Tn.bl] at hj ⊢; rcases hj with hj | hj <;> simp [hj]))).setCell (p := ⟨b, 0, none⟩) (by simp) _)
          have HS6 := Lib.hid (show (w5.setCell ⟨b, 0, none⟩ (.pointer (some ⟨jb, 0, none⟩))).heap.size = w.heap.size by have := HS5.out; simpa [World.setCell] using this)
          clear hb2 hj2 hm t1 t2 t3
          generalize w5.setCell ⟨b, 0, none⟩ (.pointer (some ⟨jb, 0, none⟩)) = w6 at *
          go_wp2_with fail
          refine HR2.out.mono ?_
          rintro e w7 ⟨rfl, ht7, ho7, hs7⟩
          have HT7 := Lib.hid ht7; have HO7 := Lib.hid ho7; have HS7 := Lib.hid hs7
          clear ht7 ho7 hs7
          go_wp2_with fail
          go_ret
          refine ⟨_, rfl, HT7.out, by simp [Tn.ino], List.perm_iff_count.2 fun j => by simp [Tn.bl, List.count_cons, List.count_append]; omega, ?_, HS7.out.trans HS6.out⟩
          exact HO6.out.trans HO7.out (fun j hj => .inl (by simp [Tn.bl] at hj ⊢; rcases hj with hj | hj <;> simp [hj]))
        · have e1 : b ≠ kb := fun e => by have h := List.nodup_iff_count.1 HND.out kb; (simp [Tn.bl, e] at h) <;> omega
          have c0 : w.cell? ⟨b, 0, none⟩ = some (.pointer (some ⟨kb, 0, none⟩)) := HN.out.c0
          have c1 : w.cell? ⟨b, 1, none⟩ = some (.pointer r.adr) := HN.out.c1
          have k0 : w.cell? ⟨kb, 0, none⟩ = some (.pointer p.adr) := HKK.out.1.c0
          have k1 : w.cell? ⟨kb, 1, none⟩ = some (.pointer q.adr) := HKK.out.1.c1
          have hx : IntKind.i64.wrap (1 - 0) = 1 := by decide
          have HE := Lib.hid e1
          clear e1
          go_wp2_with fail
          refine (sizes_any _ _ (HKK.out.dn _)).mono ?_
          rintro e w1 ⟨rfl, q1, rfl⟩
          go_wp2_with fail
          refine (sizes_any r _ (HR.out.dn _)).mono ?_
          rintro e w2 ⟨rfl, q2, rfl⟩
          go_wp2_with fail
          refine (sizes_any q _ (HKK.out.2.2.dn _)).mono ?_
          rintro e w3 ⟨rfl, q3, rfl⟩
          go_wp2_with fail
          refine (sizes_any p _ (HKK.out.2.1.dn _)).mono ?_
          rintro e w4 ⟨rfl, q4, rfl⟩
          go_wp2_with fail
          obtain ⟨Q, hQ⟩ : ∃ Q, q0 + q1 + q2 + q3 + q4 = Q := ⟨_, rfl⟩
          rw [hQ]
          have hz := HZ.out; have hd9 := HD.out
          simp only [Tn.sz] at hz; simp only [Tn.ds] at hd9
          have hcnt : ∀ j, (b :: ((Tn.nd kb p q kx kt).bl ++ r.bl)).count j ≤ 1 := fun j => List.nodup_iff_count.1 HND.out j
          simp only [Tn.bl, List.cons_append, List.append_assoc, List.count_cons, List.count_append] at hcnt
          have HC := Lib.hid hcnt
          clear hQ c0 c1 k0 k1 hcnt
          refine (rotate0_any b kb p q r x kx t kt _ _ _ _ _ _ _ (HN.out.dn Q) (HKK.out.1.dn Q) (HKK.out.2.1.dn Q) (HKK.out.2.2.dn Q) (HR.out.dn Q) (fun j hj => ⟨fun e => ?_, fun e => ?_⟩) HE.out (by omega) (by omega)).mono ?_
          · subst e
            have h := HC.out j
            rcases hj with hj | hj | hj <;> have h2 := cnt_pos hj <;> (simp at h) <;> omega
          · subst e
            have h := HC.out j
            rcases hj with hj | hj | hj <;> have h2 := cnt_pos hj <;> (simp at h) <;> omega
          rintro e w7 ⟨rfl, ht7, ho7, hs7⟩
          have HT7 := Lib.hid ht7; have HO7 := Lib.hid ho7; have HS7 := Lib.hid hs7
          clear ht7 ho7 hs7
          go_wp2_with fail
          go_ret
          refine ⟨_, rfl, HT7.out, by simp [Tn.ino], List.perm_iff_count.2 fun j => by simp [Tn.bl, List.count_cons, List.count_append]; omega, ?_, by rw [HS7.out]; simp⟩
          exact (off_drewN w Q).nil.trans HO7.out (fun j hj => .inl (by simp [Tn.bl] at hj ⊢; rcases hj with hj | hj <;> simp [hj]))
    · by_cases hc : r.ht ≤ l.ht + 1
      · have c0 := HN.out.c0; have c1 := HN.out.c1
        unfold Tn.ptr at c0 c1
        go_wp2_with fail
        refine (sizes_any r _ (HR.out.dn _)).mono ?_
        rintro e w1 ⟨rfl, q1, rfl⟩
        go_wp2_with fail
        refine (sizes_any l _ (HL.out.dn _)).mono ?_
        rintro e w2 ⟨rfl, q2, rfl⟩
        go_wp2_with fail
        go_roundw
        case rel => exact ⟨1 + 1, _, by omega, rfl, by first | trivial | rfl⟩
        case measure => simp only [intOf]; decide
      · obtain ⟨kb, p, q, kx, kt, rfl⟩ := Tn.split (t := r) (by omega)
        have HBD := Lib.hid (And.intro HZ.out HD.out)
        have hbp := Tn.ht_le p; have hbq := Tn.ht_le q
        have hdK : (Tn.nd kb p q kx kt).ds = 1 + p.ds + q.ds := rfl
        have HKK := Lib.hid HR.out
        by_cases hi : q.ht < p.ht
        · obtain ⟨jb, u, v, jx, jt, hj⟩ := Tn.split (t := p) (by omega)
          subst hj
          have hnd := HND.out
          have c0 : w.cell? ⟨b, 1, none⟩ = some (.pointer (some ⟨kb, 0, none⟩)) := HN.out.c1
          have c1 : w.cell? ⟨b, 0, none⟩ = some (.pointer l.adr) := HN.out.c0
          have k0 : w.cell? ⟨kb, 0, none⟩ = some (.pointer (Tn.nd jb u v jx jt).adr) := HKK.out.1.c0
          have k1 : w.cell? ⟨kb, 1, none⟩ = some (.pointer q.adr) := HKK.out.1.c1
          have hx : IntKind.i64.wrap (1 - 1) = 0 := by decide
          clear hnd
          go_wp2_with fail
          refine (sizes_any _ _ (HKK.out.dn _)).mono ?_
          rintro e w1 ⟨rfl, q1, rfl⟩
          go_wp2_with fail
          refine (sizes_any l _ (HL.out.dn _)).mono ?_
          rintro e w2 ⟨rfl, q2, rfl⟩
          go_wp2_with fail
          refine (sizes_any (.nd jb u v jx jt) _ (HKK.out.2.1.dn _)).mono ?_
          rintro e w3 ⟨rfl, q3, rfl⟩
          go_wp2_with fail
          refine (sizes_any q _ (HKK.out.2.2.dn _)).mono ?_
          rintro e w4 ⟨rfl, q4, rfl⟩
          go_wp2_with fail
          obtain ⟨Q, hQ⟩ : ∃ Q, q0 + q1 + q2 + q3 + q4 = Q := ⟨_, rfl⟩
          rw [hQ]
          clear hQ
          have hcnt : ∀ j, (b :: (l.bl ++ (Tn.nd kb (.nd jb u v jx jt) q kx kt).bl)).count j ≤ 1 := fun j => List.nodup_iff_count.1 HND.out j
          simp only [Tn.bl, List.cons_append, List.append_assoc, List.count_cons, List.count_append] at hcnt
          have e1 : b ≠ kb := fun e => by have h := hcnt kb; (simp [e] at h) <;> omega
          have e2 : b ≠ jb := fun e => by have h := hcnt jb; (simp [e] at h) <;> omega
          have e3 : kb ≠ jb := fun e => by have h := hcnt jb; (simp [e] at h) <;> omega
          have HE := Lib.hid (And.intro e1 (And.intro e2 e3))
          have HC := Lib.hid hcnt
          have hz := HZ.out; have hd9 := HD.out
          simp only [Tn.sz] at hz; simp only [Tn.ds] at hd9
          clear c0 c1 k0 k1 e1 e2 e3 hcnt
          refine region_plain (fun _ => True) (by kernel_rfl) ?_
          have HS : True := trivial
          refine take_at (i := 0) (d := 74) (v := ?_) rfl rfl (by kernel_rfl) (by kernel_rfl) (by kernel_rfl) (fun _ _ _ _ => NormalOnly.any) rfl ?hy9 HS ?rest9
          case hy9 => intro w' hSw; (try dsimp only at hSw); go_simp; try (with_reducible rfl)
          try simp only [List.setIfInBounds_toArray, List.set_cons_zero, List.set_cons_succ]
          refine take_at (i := 1) (d := 75) (v := ?_) rfl rfl (by kernel_rfl) (by kernel_rfl) (by kernel_rfl) (fun _ _ _ _ => NormalOnly.any) rfl ?hy10 HS ?rest10
          case hy10 => intro w' hSw; (try dsimp only at hSw); go_simp; try (with_reducible rfl)
          try simp only [List.setIfInBounds_toArray, List.set_cons_zero, List.set_cons_succ]
          refine take_at (i := 2) (d := 76) (v := ?_) rfl rfl (by kernel_rfl) (by kernel_rfl) (by kernel_rfl) (fun _ _ _ _ => NormalOnly.any) rfl ?hy11 HS ?rest11
          case hy11 => intro w' hSw; (try dsimp only at hSw); go_simp; try (with_reducible rfl)
          try simp only [List.setIfInBounds_toArray, List.set_cons_zero, List.set_cons_succ]
          refine take_at (i := 3) (d := 77) (v := ?_) rfl rfl (by kernel_rfl) (by kernel_rfl) (by kernel_rfl) (fun _ _ _ _ => NormalOnly.any) rfl ?hy12 HS ?rest12
          case hy12 => intro w' hSw; (try dsimp only at hSw); go_simp; try (with_reducible rfl)
          try simp only [List.setIfInBounds_toArray, List.set_cons_zero, List.set_cons_succ]
          refine take_at (i := 4) (d := 78) (v := ?_) rfl rfl (by kernel_rfl) (by kernel_rfl) (by kernel_rfl) (fun _ _ _ _ => NormalOnly.any) rfl ?hy13 HS ?rest13
          case hy13 => intro w' hSw; (try dsimp only at hSw); go_simp; try (with_reducible rfl)
          try simp only [List.setIfInBounds_toArray, List.set_cons_zero, List.set_cons_succ]
          refine take_at (i := 6) (d := 80) (v := ?_) rfl rfl (by kernel_rfl) (by kernel_rfl) (by kernel_rfl) (fun _ _ _ _ => NormalOnly.any) rfl ?hy14 HS ?rest14
          case hy14 => intro w' hSw; (try dsimp only at hSw); go_simp; try (with_reducible rfl)
          try simp only [List.setIfInBounds_toArray, List.set_cons_zero, List.set_cons_succ]
          refine take_at (i := 7) (d := 81) (v := ?_) rfl rfl (by kernel_rfl) (by kernel_rfl) (by kernel_rfl) (fun _ _ _ _ => NormalOnly.any) rfl ?hy15 HS ?rest15
          case hy15 => intro w' hSw; (try dsimp only at hSw); go_simp; try (with_reducible rfl)
          try simp only [List.setIfInBounds_toArray, List.set_cons_zero, List.set_cons_succ]
          refine wpAnyH_ready (rs := [5]) (by kernel_rfl) (by simp) ?_
          refine AllReadyH.cons rfl (fun K hK => ?_) AllReadyH.nil
          go_simp
          rw [show IntKind.i64.wrap 0 = 0 by decide]
          refine (rotate0_any kb jb u v q kx jx kt jt _ _ _ _ _ _ _ (HKK.out.1.dn _) (HKK.out.2.1.1.dn _) (HKK.out.2.1.2.1.dn _) (HKK.out.2.1.2.2.dn _) (HKK.out.2.2.dn _) (fun j hj => ⟨fun e => ?_, fun e => ?_⟩) HE.out.2.2 (by omega) (by omega)).mono ?_
          · subst e
            have h := HC.out j
            rcases hj with hj | hj | hj <;> have h2 := cnt_pos hj <;> (simp at h) <;> omega
          · subst e
            have h := HC.out j
            rcases hj with hj | hj | hj <;> have h2 := cnt_pos hj <;> (simp at h) <;> omega
          rintro e w5 ⟨rfl, ht5, ho5, hs5⟩
          refine hK.out _ _ trivial (fun _ => ?_)
          clear hK
          have hN5 := (HN.out.dn (Q + 1)).off ho5 (by have := HE.out; simp; exact ⟨this.1, this.2.1⟩)
          have k5 := hN5.c1
          have f5 := hN5.fz 1
          have HN5 := Lib.hid hN5
          have HT5 := Lib.hid ht5; have HO5 := Lib.hid ho5; have HS5 := Lib.hid hs5
          clear hN5 ht5 ho5 hs5
          refine take_at (i := 8) (d := 82) (v := ?_) rfl rfl (by kernel_rfl) (by kernel_rfl) (by kernel_rfl) (fun _ _ _ _ => NormalOnly.any) rfl ?hy16 HS ?rest16
          case hy16 => intro w' hSw; (try dsimp only at hSw); go_simp; try (with_reducible rfl)
          try simp only [List.setIfInBounds_toArray, List.set_cons_zero, List.set_cons_succ]
          refine wpAnyH_ready (rs := [9]) (by kernel_rfl) (by simp) ?_
          refine AllReadyH.cons rfl (fun K hK => ?_) AllReadyH.nil
          go_simp
          refine hK.out _ _ trivial (fun _ => ?_)
          clear hK
          refine wpAnyH_done (by kernel_rfl) ⟨rfl, ?_⟩ _
          clear k5 f5
          have hb2 : NodAt (w5.setCell ⟨b, 1, none⟩ (.pointer (some ⟨jb, 0, none⟩))) b l.ptr (.pointer (some ⟨jb, 0, none⟩)) x (t : Nat) s d hh := HN5.out.set1 _
          have hj2 := HT5.out.1.other (p := ⟨b, 1, none⟩) (fun e => HE.out.2.1 e.symm) (.pointer (some ⟨jb, 0, none⟩))
          have hm : ∀ j, j ∈ u.bl ∨ j ∈ (Tn.nd kb v q kx kt).bl ∨ j ∈ l.bl → j ≠ b ∧ j ≠ jb := fun j hj => ⟨fun e => by
            subst e
            have h := HC.out j
            simp only [Tn.bl, List.mem_cons, List.mem_append] at hj
            rcases hj with hj | (hj | hj | hj) | hj <;> first | exact absurd hj HE.out.1 | (have h2 := cnt_pos hj; (simp at h) <;> omega), fun e => by
            subst e
            have h := HC.out j
            simp only [Tn.bl, List.mem_cons, List.mem_append] at hj
            rcases hj with hj | (hj | hj | hj) | hj <;> first | exact absurd hj.symm HE.out.2.2 | (have h2 := cnt_pos hj; (simp at h) <;> omega)⟩
          have t1 : TAt (w5.setCell ⟨b, 1, none⟩ (.pointer (some ⟨jb, 0, none⟩))) u := HT5.out.2.1.set (p := ⟨b, 1, none⟩) (fun c => (hm b (.inl c)).1 rfl) _
          have t2 : TAt (w5.setCell ⟨b, 1, none⟩ (.pointer (some ⟨jb, 0, none⟩))) (Tn.nd kb v q kx kt) := HT5.out.2.2.set (p := ⟨b, 1, none⟩) (fun c => (hm b (.inr (.inl c))).1 rfl) _
          have t3 : TAt (w5.setCell ⟨b, 1, none⟩ (.pointer (some ⟨jb, 0, none⟩))) l := (HO5.out.tat (HL.out.dn (Q + 1)) (fun j hj => by
            have h := HC.out j
            have h2 := cnt_pos hj
            simp only [List.mem_cons, List.not_mem_nil, or_false]
            rintro (rfl | rfl) <;> (simp at h) <;> omega)).set (p := ⟨b, 1, none⟩) (fun c => (hm b (.inr (.inr c))).1 rfl) _
          have HR2 := Lib.hid (rotate1_any b jb u (Tn.nd kb v q kx kt) l x jx t jt _ _ _ _ _ _ _ hb2 hj2 t1 t2 t3 hm HE.out.2.1 (by simp only [Tn.sz]; omega) (by simp only [Tn.ds]; omega))
          have HO6 := Lib.hid (show Off (b :: (l.bl ++ (Tn.nd kb (.nd jb u v jx jt) q kx kt).bl)) w (w5.setCell ⟨b, 1, none⟩ (.pointer (some ⟨jb, 0, none⟩))) from ((off_drewN w (Q + 1)).nil.trans HO5.out (fun j hj => .inl (by simp [Tn.bl] at hj ⊢; rcases hj with hj | hj <;> simp [hj]))).setCell (p := ⟨b, 1, none⟩) (by simp) _)
          have HS6 := Lib.hid (show (w5.setCell ⟨b, 1, none⟩ (.pointer (some ⟨jb, 0, none⟩))).heap.size = w.heap.size by have := HS5.out; simpa [World.setCell] using this)
          clear hb2 hj2 hm t1 t2 t3
          generalize w5.setCell ⟨b, 1, none⟩ (.pointer (some ⟨jb, 0, none⟩)) = w6 at *
          go_wp2_with fail
          refine HR2.out.mono ?_
          rintro e w7 ⟨rfl, ht7, ho7, hs7⟩
          have HT7 := Lib.hid ht7; have HO7 := Lib.hid ho7; have HS7 := Lib.hid hs7
          clear ht7 ho7 hs7
          go_wp2_with fail
          go_ret
          refine ⟨_, rfl, HT7.out, by simp [Tn.ino], List.perm_iff_count.2 fun j => by simp [Tn.bl, List.count_cons, List.count_append]; omega, ?_, HS7.out.trans HS6.out⟩
          exact HO6.out.trans HO7.out (fun j hj => .inl (by simp [Tn.bl] at hj ⊢; rcases hj with hj | hj <;> simp [hj]))
        · have e1 : b ≠ kb := fun e => by have h := List.nodup_iff_count.1 HND.out kb; (simp [Tn.bl, e] at h) <;> omega
          have c0 : w.cell? ⟨b, 1, none⟩ = some (.pointer (some ⟨kb, 0, none⟩)) := HN.out.c1
          have c1 : w.cell? ⟨b, 0, none⟩ = some (.pointer l.adr) := HN.out.c0
          have k0 : w.cell? ⟨kb, 0, none⟩ = some (.pointer p.adr) := HKK.out.1.c0
          have k1 : w.cell? ⟨kb, 1, none⟩ = some (.pointer q.adr) := HKK.out.1.c1
          have hx : IntKind.i64.wrap (1 - 1) = 0 := by decide
          have HE := Lib.hid e1
          clear e1
          go_wp2_with fail
          refine (sizes_any _ _ (HKK.out.dn _)).mono ?_
          rintro e w1 ⟨rfl, q1, rfl⟩
          go_wp2_with fail
          refine (sizes_any l _ (HL.out.dn _)).mono ?_
          rintro e w2 ⟨rfl, q2, rfl⟩
          go_wp2_with fail
          refine (sizes_any p _ (HKK.out.2.1.dn _)).mono ?_
          rintro e w3 ⟨rfl, q3, rfl⟩
          go_wp2_with fail
          refine (sizes_any q _ (HKK.out.2.2.dn _)).mono ?_
          rintro e w4 ⟨rfl, q4, rfl⟩
          go_wp2_with fail
          obtain ⟨Q, hQ⟩ : ∃ Q, q0 + q1 + q2 + q3 + q4 = Q := ⟨_, rfl⟩
          rw [hQ]
          have hz := HZ.out; have hd9 := HD.out
          simp only [Tn.sz] at hz; simp only [Tn.ds] at hd9
          have hcnt : ∀ j, (b :: (l.bl ++ (Tn.nd kb p q kx kt).bl)).count j ≤ 1 := fun j => List.nodup_iff_count.1 HND.out j
          simp only [Tn.bl, List.count_cons, List.count_append] at hcnt
          have HC := Lib.hid hcnt
          clear hQ c0 c1 k0 k1 hcnt
          refine (rotate1_any b kb p q l x kx t kt _ _ _ _ _ _ _ (HN.out.dn Q) (HKK.out.1.dn Q) (HKK.out.2.1.dn Q) (HKK.out.2.2.dn Q) (HL.out.dn Q) (fun j hj => ⟨fun e => ?_, fun e => ?_⟩) HE.out (by omega) (by omega)).mono ?_
          · subst e
            have h := HC.out j
            rcases hj with hj | hj | hj <;> have h2 := cnt_pos hj <;> (simp at h) <;> omega
          · subst e
            have h := HC.out j
            rcases hj with hj | hj | hj <;> have h2 := cnt_pos hj <;> (simp at h) <;> omega
          rintro e w7 ⟨rfl, ht7, ho7, hs7⟩
          have HT7 := Lib.hid ht7; have HO7 := Lib.hid ho7; have HS7 := Lib.hid hs7
          clear ht7 ho7 hs7
          go_wp2_with fail
          go_ret
          refine ⟨_, rfl, HT7.out, by simp [Tn.ino], List.perm_iff_count.2 fun j => by simp [Tn.bl, List.count_cons, List.count_append]; omega, ?_, by rw [HS7.out]; simp⟩
          exact (off_drewN w Q).nil.trans HO7.out (fun j hj => .inl (by simp [Tn.bl] at hj ⊢; rcases hj with hj | hj <;> simp [hj]))
    · have hN9 := HN.out.dn q0
      have HQ := Lib.hid (refresh_any b l r x s d hh t _ hN9 (HL.out.dn q0) (HR.out.dn q0) (fun c => (List.nodup_cons.1 HND.out).1 (by simp [c])) (fun c => (List.nodup_cons.1 HND.out).1 (by simp [c])) HZ.out HD.out)
      clear hN9
      go_wp2_with fail
      refine HQ.out.mono ?_
      rintro e w3 ⟨rfl, ht, ho, hs⟩
      have HT := Lib.hid ht; have HO := Lib.hid ho; have HS := Lib.hid hs
      clear ht ho hs HQ
      go_wp2_with fail
      go_ret
      exact ⟨_, rfl, HT.out, rfl, List.Perm.refl _, (off_drewN w q0).nil.trans HO.out (fun j hj => .inl (by simp at hj; simp [hj])), by rw [HS.out]; simp⟩
end Go.Proofs.YtpbgophogneecaaGreat

/- The walks of detach and join of package bag. Conditions: the trees' blocks are apart. -/
namespace Go.Proofs.YtpbgophogneecaaGreat
open Go.RowKit

/-- what detach answers: the first node, and a tree of the others -/
def DetR (S : List Nat) (L : List (Int × Nat)) (w : World) (e : Ending) (w' : World) : Prop :=
  ∃ (fb : Nat) (fl fr : Value) (fx : Int) (fk : Nat) (fs fd fh : Int) (t' : Tn), e = .returned (.tuple #[.pointer (some ⟨fb, 0, none⟩), t'.ptr]) ∧ NodAt w' fb fl fr fx (fk : Nat) fs fd fh ∧ TAt w' t' ∧ (fx, fk) :: t'.ino = L ∧ (fb :: t'.bl).Perm S ∧ Off S w w' ∧ w'.heap.size = w.heap.size
theorem szL_tail {p : Int × Nat} {L M : List (Int × Nat)} (h : p :: L = M) : szL L ≤ szL M ∧ L.length + 1 = M.length := by rw [← h, szL_cons, List.length_cons]; omega
set_option maxRecDepth 100000 in
set_option maxHeartbeats 8000000 in
theorem detach_any (t : Tn) : ∀ (b : Nat) (l r : Tn) (x : Int) (k : Nat) (w : World), t = .nd b l r x k → TAt w t → t.bl.Nodup → t.sz ≤ 1000000 → t.ds ≤ 1000000 →
    Calls Tryz.prog 124 #[.pointer (some ⟨b, 0, none⟩)] w (DetR t.bl t.ino w) := by
  induction t with
  | nil => intro b l r x k w h; cases h
  | nd b l r x k ihl _ =>
    intro b9 l9 r9 x9 k9 w h hT hnd hz hd
    cases h
    have c0 : w.cell? ⟨b, 0, none⟩ = some (.pointer l.adr) := hT.1.c0
    have c1 : w.cell? ⟨b, 1, none⟩ = some (.pointer r.adr) := hT.1.c1
    have HT := Lib.hid hT; have HND := Lib.hid hnd; have HZ := Lib.hid hz; have HD := Lib.hid hd
    cases l with
    | nil =>
      have c0 : w.cell? ⟨b, 0, none⟩ = some (.pointer none) := c0
      clear hT hnd hz hd ihl
      go_enter Tryz.func124, Tryz.ntmps124
      go_wp2_with fail
      go_quiet (fail)
      go_wp2_with fail
      go_ret2
      exact ⟨b, _, _, x, k, _, _, _, r, rfl, HT.out.1.dn _, HT.out.2.2.dn _, by simp [Tn.ino], by simp [Tn.bl], (off_drewN w _).nil, by simp⟩
    | nd lb ll lr lx lk =>
      have c0 : w.cell? ⟨b, 0, none⟩ = some (.pointer (some ⟨lb, 0, none⟩)) := c0
      have HI := Lib.hid (ihl lb ll lr lx lk w.drew rfl (hT.2.1.keep fun j _ => rfl) (by simp only [Tn.bl] at hnd ⊢; exact (List.nodup_append.1 (List.nodup_cons.1 hnd).2).1) (by simp only [Tn.sz] at hz ⊢; omega) (by simp only [Tn.ds] at hd ⊢; omega))
      obtain ⟨l, hl⟩ : ∃ l, Tn.nd lb ll lr lx lk = l := ⟨_, rfl⟩
      have hlp : l.ptr = .pointer (some ⟨lb, 0, none⟩) := by rw [← hl]; rfl
      have hla : (Tn.nd lb ll lr lx lk).adr = some ⟨lb, 0, none⟩ := rfl
      rw [hl] at HI HT HND HZ HD ⊢
      clear hT hnd hz hd ihl hl
      have HS : w.drew.cell? ⟨b, 0, none⟩ = some (.pointer (some ⟨lb, 0, none⟩)) := c0
      go_enter Tryz.func124, Tryz.ntmps124
      go_wp2_with fail
      have c9 := HS
      clear HS
      have HS : True := trivial
      refine region_plain (fun _ => True) (by kernel_rfl) ?_
      refine take_at (i := 0) (d := 17) (v := ?_) rfl rfl (by kernel_rfl) (by kernel_rfl) (by kernel_rfl) (fun _ _ _ _ => NormalOnly.any) rfl ?hy1 HS ?rest1
      case hy1 => intro w' hSw; (try dsimp only at hSw); go_simp; try (with_reducible rfl)
      try simp only [List.setIfInBounds_toArray, List.set_cons_zero, List.set_cons_succ]
      refine take_at (i := 1) (d := 18) (v := ?_) rfl rfl (by kernel_rfl) (by kernel_rfl) (by kernel_rfl) (fun _ _ _ _ => NormalOnly.any) rfl ?hy2 HS ?rest2
      case hy2 => intro w' hSw; (try dsimp only at hSw); go_simp; try (with_reducible rfl)
      try simp only [List.setIfInBounds_toArray, List.set_cons_zero, List.set_cons_succ]
      refine take_at (i := 2) (d := 19) (v := ?_) rfl rfl (by kernel_rfl) (by kernel_rfl) (by kernel_rfl) (fun _ _ _ _ => NormalOnly.any) rfl ?hy3 HS ?rest3
      case hy3 => intro w' hSw; (try dsimp only at hSw); go_simp; try (with_reducible rfl)
      try simp only [List.setIfInBounds_toArray, List.set_cons_zero, List.set_cons_succ]
      refine take_at (i := 3) (d := 20) (v := ?_) rfl rfl (by kernel_rfl) (by kernel_rfl) (by kernel_rfl) (fun _ _ _ _ => NormalOnly.any) rfl ?hy4 HS ?rest4
      case hy4 => intro w' hSw; (try dsimp only at hSw); go_simp; try (with_reducible rfl)
      try simp only [List.setIfInBounds_toArray, List.set_cons_zero, List.set_cons_succ]
      refine take_at (i := 4) (d := 21) (v := ?_) rfl rfl (by kernel_rfl) (by kernel_rfl) (by kernel_rfl) (fun _ _ _ _ => NormalOnly.any) rfl ?hy5 HS ?rest5
      case hy5 => intro w' hSw; (try dsimp only at hSw); go_simp; try (with_reducible rfl)
      try simp only [List.setIfInBounds_toArray, List.set_cons_zero, List.set_cons_succ]
      refine take_at (i := 11) (d := 26) (v := ?_) rfl rfl (by kernel_rfl) (by kernel_rfl) (by kernel_rfl) (fun _ _ _ _ => NormalOnly.any) rfl ?hy6 HS ?rest6
      case hy6 => intro w' hSw; (try dsimp only at hSw); go_simp; try (with_reducible rfl)
      try simp only [List.setIfInBounds_toArray, List.set_cons_zero, List.set_cons_succ]
      refine take_at (i := 12) (d := 27) (v := ?_) rfl rfl (by kernel_rfl) (by kernel_rfl) (by kernel_rfl) (fun _ _ _ _ => NormalOnly.any) rfl ?hy7 HS ?rest7
      case hy7 => intro w' hSw; (try dsimp only at hSw); go_simp; try (with_reducible rfl)
      try simp only [List.setIfInBounds_toArray, List.set_cons_zero, List.set_cons_succ]
      refine wpAnyH_ready (rs := [5]) (by kernel_rfl) (by simp) ?_
      refine AllReadyH.cons rfl (fun K hK => ?_) AllReadyH.nil
      go_simp
      refine hK.out _ _ trivial (fun _ => ?_)
      clear hK
      refine wpAnyH_ready (rs := [6]) (by kernel_rfl) (by simp) ?_
      refine AllReadyH.cons rfl (fun K hK => ?_) AllReadyH.nil
      go_simp
      refine HI.out.mono ?_
      rintro e w1 ⟨fb, fl, fr, fx, fk, fs, fd, fh, t1, rfl, hF, hT1, hi1, hp1, ho1, hs1⟩
      unfold Tn.ptr
      have hbl : b ∉ l.bl := fun c => (List.nodup_cons.1 HND.out).1 (by simp [c])
      have hN1 := (HT.out.1.of_block (w' := w.drew) rfl).off ho1 hbl
      have k0 : w1.cell? ⟨b, 0, none⟩ = some (.pointer (some ⟨lb, 0, none⟩)) := by rw [← hlp]; exact hN1.c0
      refine hK.out _ _ trivial (fun _ => ?_)
      clear hK
      have f0 := hN1.fz 0
      have HF := Lib.hid hF; have HT1 := Lib.hid hT1; have HI1 := Lib.hid hi1; have HP1 := Lib.hid hp1; have HO1 := Lib.hid ho1; have HS1 := Lib.hid hs1; have HN1 := Lib.hid hN1; have HBL := Lib.hid hbl
      clear hF hT1 hi1 hp1 ho1 hs1 hN1 hbl HI
      refine take_at (i := 7) (d := 16) (v := ?_) rfl rfl (by kernel_rfl) (by kernel_rfl) (by kernel_rfl) (fun _ _ _ _ => NormalOnly.any) rfl ?hy8 HS ?rest8
      case hy8 => intro w' hSw; (try dsimp only at hSw); go_simp; try (with_reducible rfl)
      try simp only [List.setIfInBounds_toArray, List.set_cons_zero, List.set_cons_succ]
      refine take_at (i := 8) (d := 24) (v := ?_) rfl rfl (by kernel_rfl) (by kernel_rfl) (by kernel_rfl) (fun _ _ _ _ => NormalOnly.any) rfl ?hy9 HS ?rest9
      case hy9 => intro w' hSw; (try dsimp only at hSw); go_simp; try (with_reducible rfl)
      try simp only [List.setIfInBounds_toArray, List.set_cons_zero, List.set_cons_succ]
      refine take_at (i := 9) (d := 25) (v := ?_) rfl rfl (by kernel_rfl) (by kernel_rfl) (by kernel_rfl) (fun _ _ _ _ => NormalOnly.any) rfl ?hy10 HS ?rest10
      case hy10 => intro w' hSw; (try dsimp only at hSw); go_simp; try (with_reducible rfl)
      try simp only [List.setIfInBounds_toArray, List.set_cons_zero, List.set_cons_succ]
      refine take_at (i := 10) (d := 2) (v := ?_) rfl rfl (by kernel_rfl) (by kernel_rfl) (by kernel_rfl) (fun _ _ _ _ => NormalOnly.any) rfl ?hy11 HS ?rest11
      case hy11 => intro w' hSw; (try dsimp only at hSw); go_simp; try (with_reducible rfl)
      try simp only [List.setIfInBounds_toArray, List.set_cons_zero, List.set_cons_succ]
      refine take_at (i := 13) (d := 28) (v := ?_) rfl rfl (by kernel_rfl) (by kernel_rfl) (by kernel_rfl) (fun _ _ _ _ => NormalOnly.any) rfl ?hy12 HS ?rest12
      case hy12 => intro w' hSw; (try dsimp only at hSw); go_simp; try (with_reducible rfl)
      try simp only [List.setIfInBounds_toArray, List.set_cons_zero, List.set_cons_succ]
      refine wpAnyH_ready (rs := [14]) (by kernel_rfl) (by simp) ?_
      refine AllReadyH.cons rfl (fun K hK => ?_) AllReadyH.nil
      go_simp
      refine hK.out _ _ trivial (fun _ => ?_)
      clear hK
      refine wpAnyH_done (by kernel_rfl) ⟨rfl, ?_⟩ _
      clear k0 f0
      have hp1 := HP1.out
      have hsub : ∀ j, j ∈ t1.bl → j ∈ l.bl := fun j hj => hp1.subset (by simp [hj])
      have hnd := HND.out
      rw [Tn.bl] at hnd
      have hn2 := (List.nodup_cons.1 hnd).2
      obtain ⟨n1, n2, n3⟩ := List.nodup_append.1 hn2
      have hndp : (fb :: t1.bl).Nodup := hp1.nodup_iff.2 n1
      have hfl : fb ∈ l.bl := hp1.subset (by simp)
      have hfb : fb ≠ b := fun e => HBL.out (e ▸ hfl)
      have N2 := HN1.out.set0 (.pointer t1.adr)
      have F2 := HF.out.other (p := ⟨b, 0, none⟩) hfb (.pointer t1.adr)
      have T2 := HT1.out.set (p := ⟨b, 0, none⟩) (fun c => HBL.out (hsub _ c)) (.pointer t1.adr)
      have R2 := (HO1.out.tat (HT.out.2.2.keep (w' := w.drew) fun j _ => rfl) (fun j hj c => n3 j c j hj rfl)).set (p := ⟨b, 0, none⟩) (fun c => (List.nodup_cons.1 hnd).1 (by simp [c])) (.pointer t1.adr)
      have hS2 : (w1.setCell ⟨b, 0, none⟩ (.pointer t1.adr)).heap.size = w.heap.size := by have := HS1.out; simpa [World.setCell] using this
      have hO2 : Off (Tn.nd b l r x k).bl w (w1.setCell ⟨b, 0, none⟩ (.pointer t1.adr)) := (((Off.refl _ w).drew).trans HO1.out (fun j hj => .inl (by simp [Tn.bl, hj]))).setCell (p := ⟨b, 0, none⟩) (by simp [Tn.bl]) _
      have hst := szL_tail HI1.out
      have hz := HZ.out; have hd := HD.out
      simp only [Tn.sz] at hz; simp only [Tn.ds] at hd
      have hnd2 : (b :: (t1.bl ++ r.bl)).Nodup := List.nodup_cons.2 ⟨fun c => by
        rcases List.mem_append.1 c with c | c
        · exact HBL.out (hsub _ c)
        · exact (List.nodup_cons.1 hnd).1 (by simp [c]), List.nodup_append.2 ⟨(List.nodup_cons.1 hndp).2, n2, fun a ha c hc => n3 a (hsub _ ha) c hc⟩⟩
      have HB := Lib.hid (balance_any b t1 r x _ _ _ k _ N2 T2 R2 hnd2 (by simp only [Tn.sz]; rw [Tn.sz_ino t1]; have := Tn.sz_ino l; omega) (by simp only [Tn.ds]; rw [Tn.ds_ino t1]; have := Tn.ds_ino l; omega))
      have HF2 := Lib.hid F2; have HO2 := Lib.hid hO2; have HS2 := Lib.hid hS2
      have HFb := Lib.hid (show fb ∉ b :: (t1.bl ++ r.bl) from fun c => by
        rcases List.mem_cons.1 c with c | c
        · exact hfb c
        · rcases List.mem_append.1 c with c | c
          · exact (List.nodup_cons.1 hndp).1 c
          · exact n3 fb hfl fb c rfl)
      clear N2 F2 T2 R2 hS2 hO2 hst hz hd hnd2 hfb hfl hndp hnd hn2 n1 n2 n3 hp1
      have HSub := Lib.hid hsub
      clear hsub
      generalize w1.setCell ⟨b, 0, none⟩ (.pointer t1.adr) = w2 at *
      go_wp2_with fail
      refine HB.out.mono ?_
      rintro e w3 ⟨t2, rfl, ht2, hi2, hp2, ho2, hs2⟩
      have hF3 := HF2.out.off ho2 HFb.out
      unfold Tn.ptr
      go_wp2_with fail
      go_ret2
      refine ⟨fb, fl, fr, fx, fk, fs, fd, fh, t2, rfl, hF3, ht2, ?_, ?_, HO2.out.trans ho2 (fun j hj => .inl ?_), hs2.trans HS2.out⟩
      · rw [hi2, Tn.ino, ← HI1.out]; rfl
      · refine List.perm_iff_count.2 fun j => ?_
        have q1 := List.perm_iff_count.1 hp2 j
        have q2 := List.perm_iff_count.1 HP1.out j
        simp only [Tn.bl, List.count_cons, List.count_append] at q1 q2 ⊢
        omega
      · simp only [Tn.bl, List.mem_cons, List.mem_append] at hj ⊢
        rcases hj with hj | hj | hj
        · exact .inl hj
        · exact .inr (.inl (HSub.out j hj))
        · exact .inr (.inr hj)
set_option maxRecDepth 100000 in
set_option maxHeartbeats 4000000 in
theorem join_any (p q : Tn) (w : World) (hp : TAt w p) (hq : TAt w q) (hnd : (p.bl ++ q.bl).Nodup) (hz : p.sz + q.sz ≤ 1000000) (hd : p.ds + q.ds ≤ 1000000) :
    Calls Tryz.prog 107 #[p.ptr, q.ptr] w (BalR (p.bl ++ q.bl) (p.ino ++ q.ino) w) := by
  have HP := Lib.hid hp; have HQ := Lib.hid hq; have HND := Lib.hid hnd
  clear hp hq hnd
  cases p with
  | nil =>
    show Calls _ _ #[.pointer none, .pointer q.adr] _ _
    go_enter Tryz.func107, Tryz.ntmps107
    go_wp2_with fail
    go_ret
    exact ⟨q, rfl, HQ.out, rfl, List.Perm.refl _, Off.refl _ _, rfl⟩
  | nd pb pl pr px pk =>
    cases q with
    | nil =>
      show Calls _ _ #[.pointer (some ⟨pb, 0, none⟩), .pointer none] _ _
      go_enter Tryz.func107, Tryz.ntmps107
      go_wp2_with fail
      go_ret
      exact ⟨.nd pb pl pr px pk, rfl, HP.out, by simp [Tn.ino], by simp [Tn.bl], Off.refl _ _, rfl⟩
    | nd qb ql qr qx qk =>
      obtain ⟨n1, n2, n3⟩ := List.nodup_append.1 HND.out
      have HD := Lib.hid (detach_any _ qb ql qr qx qk w rfl HQ.out n2 (by omega) (by omega))
      have HN := Lib.hid (And.intro n1 (And.intro n2 n3))
      have hpa : (Tn.nd pb pl pr px pk).ptr = .pointer (some ⟨pb, 0, none⟩) := rfl
      have hqa : (Tn.nd qb ql qr qx qk).ptr = .pointer (some ⟨qb, 0, none⟩) := rfl
      obtain ⟨p, hpe⟩ : ∃ p, Tn.nd pb pl pr px pk = p := ⟨_, rfl⟩
      obtain ⟨q, hqe⟩ : ∃ q, Tn.nd qb ql qr qx qk = q := ⟨_, rfl⟩
      rw [hpe] at HP HND HN hpa hz hd ⊢; rw [hqe] at HQ HND HN HD hqa hz hd ⊢
      rw [hpa, hqa]
      have HPA := Lib.hid hpa
      clear n1 n2 n3 hpe hqe hqa hpa
      go_enter Tryz.func107, Tryz.ntmps107
      go_wp2_with fail
      refine HD.out.mono ?_
      rintro e w1 ⟨fb, fl, fr, fx, fk, fs, fd, fh, t1, rfl, hF, hT1, hi1, hp1, ho1, hs1⟩
      unfold Tn.ptr
      have c0 := hF.c0; have c1 := hF.c1; have f0 := hF.fz 0; have f1 := hF.fz 1
      have HF := Lib.hid hF; have HT1 := Lib.hid hT1; have HI1 := Lib.hid hi1; have HP1 := Lib.hid hp1; have HO1 := Lib.hid ho1; have HS1 := Lib.hid hs1
      clear hF hT1 hi1 hp1 ho1 hs1 HD
      go_wp2_with fail
      clear c0 c1 f0 f1
      have hp1 := HP1.out
      have hsub : ∀ j, j ∈ t1.bl → j ∈ q.bl := fun j hj => hp1.subset (by simp [hj])
      have hfq : fb ∈ q.bl := hp1.subset (by simp)
      have hndp : (fb :: t1.bl).Nodup := hp1.nodup_iff.2 HN.out.2.1
      have hfp : fb ∉ p.bl := fun c => HN.out.2.2 fb c fb hfq rfl
      have hft := (List.nodup_cons.1 hndp).1
      have N2 : NodAt ((w1.setCell ⟨fb, 0, none⟩ (.pointer (some ⟨pb, 0, none⟩))).setCell ⟨fb, 1, none⟩ (.pointer t1.adr)) fb p.ptr t1.ptr fx (fk : Nat) fs fd fh := by
        rw [HPA.out]; exact (HF.out.set0 _).set1 _
      have P2 := ((HO1.out.tat HP.out (fun j hj c => HN.out.2.2 j hj j c rfl)).set (p := ⟨fb, 0, none⟩) hfp (.pointer (some ⟨pb, 0, none⟩))).set (p := ⟨fb, 1, none⟩) hfp (.pointer t1.adr)
      have T2 := (HT1.out.set (p := ⟨fb, 0, none⟩) hft (.pointer (some ⟨pb, 0, none⟩))).set (p := ⟨fb, 1, none⟩) hft (.pointer t1.adr)
      have hS2 : ((w1.setCell ⟨fb, 0, none⟩ (.pointer (some ⟨pb, 0, none⟩))).setCell ⟨fb, 1, none⟩ (.pointer t1.adr)).heap.size = w.heap.size := by have := HS1.out; simpa [World.setCell] using this
      have hO2 : Off (p.bl ++ q.bl) w ((w1.setCell ⟨fb, 0, none⟩ (.pointer (some ⟨pb, 0, none⟩))).setCell ⟨fb, 1, none⟩ (.pointer t1.adr)) := ((HO1.out.mono (fun j hj => .inl (by simp [hj]))).setCell (p := ⟨fb, 0, none⟩) (by simp [hfq]) _).setCell (p := ⟨fb, 1, none⟩) (by simp [hfq]) _
      have hst := szL_tail HI1.out
      have hnd2 : (fb :: (p.bl ++ t1.bl)).Nodup := List.nodup_cons.2 ⟨fun c => by
        rcases List.mem_append.1 c with c | c
        · exact hfp c
        · exact hft c, List.nodup_append.2 ⟨HN.out.1, (List.nodup_cons.1 hndp).2, fun a ha c hc => HN.out.2.2 a ha c (hsub _ hc)⟩⟩
      have hkz : fk + szL t1.ino = szL q.ino := by rw [← HI1.out, szL_cons]
      have HB := Lib.hid (balance_any fb p t1 fx _ _ _ fk _ N2 P2 T2 hnd2 (by simp only [Tn.sz]; rw [Tn.sz_ino t1]; have := Tn.sz_ino q; omega) (by simp only [Tn.ds]; rw [Tn.ds_ino t1]; have := Tn.ds_ino q; omega))
      have HO2 := Lib.hid hO2; have HS2 := Lib.hid hS2; have HSub := Lib.hid hsub; have HFQ := Lib.hid hfq
      clear hp1 hsub hndp hfp hft N2 P2 T2 hS2 hO2 hst hnd2 hkz hfq
      generalize (w1.setCell ⟨fb, 0, none⟩ (.pointer (some ⟨pb, 0, none⟩))).setCell ⟨fb, 1, none⟩ (.pointer t1.adr) = w2 at *
      refine HB.out.mono ?_
      rintro e w3 ⟨t2, rfl, ht2, hi2, hp2, ho2, hs2⟩
      unfold Tn.ptr
      go_wp2_with fail
      go_ret
      refine ⟨t2, rfl, ht2, ?_, ?_, HO2.out.trans ho2 (fun j hj => .inl ?_), hs2.trans HS2.out⟩
      · rw [hi2, ← HI1.out]
      · refine List.perm_iff_count.2 fun j => ?_
        have q1 := List.perm_iff_count.1 hp2 j
        have q2 := List.perm_iff_count.1 HP1.out j
        simp only [List.count_cons, List.count_append] at q1 q2 ⊢
        omega
      · simp only [List.mem_cons, List.mem_append] at hj ⊢
        rcases hj with hj | hj | hj
        · exact .inr (by rw [hj]; exact HFQ.out)
        · exact .inl hj
        · exact .inr (HSub.out j hj)
end Go.Proofs.YtpbgophogneecaaGreat
