/- Slices in memory, at any size of their elements: a slice that is read, whatever its address; rows that a call owns; copies. No conditions. -/
import Derived.Test.YtcpikabhcjkkmaaRows
import Derived.WalkKit
import Derived.WalkSpells
import Derived.WalkLawsBesides
import Derived.Lib.Hide
import Derived.Deep.OwnRows
import Derived.Maps.AppendAt
import Derived.Laws.OwnMore
import Derived.OwnWalk
import Derived.BigQuiet
import Derived.Deep.QuietTactic
namespace Go.Proofs.Ytcpikabhcjkkmaa
open Go.RowKit

/-- the i-th number of a list -/
def nth (l : List Int) (i : Nat) : Int := l.getD i 0
theorem nth_eq {l : List Int} {i : Nat} (h : i < l.length) : nth l i = l[i] := by simp [nth, List.getD, h]
theorem add_block (a : Addr) (i : Nat) : (a.add i).block = a.block := by unfold Addr.add; split <;> rfl
theorem add_zero (a : Addr) : a.add 0 = a := by unfold Addr.add; rw [if_pos rfl]
theorem add_mk (b o i : Nat) : (⟨b, o, none⟩ : Addr).add i = ⟨b, o + i, none⟩ := by unfold Addr.add; split <;> simp_all
theorem add_add (a : Addr) (i j : Nat) : (a.add i).add j = a.add (i + j) := by
  unfold Addr.add
  by_cases h : i = 0
  · subst h; simp
  · by_cases h2 : j = 0
    · subst h2; simp
    · rw [if_neg h, if_neg h2, if_neg (by omega)]; simp [Nat.add_assoc]

/-- the facts of an element type: t is the slice type, e the element's -/
structure ET (t e : TypeId) (size bytes : Nat) : Prop where
  ht : Try.prog.underlying t = some (.slice e)
  info : ∃ i z, Try.prog.info? e = some i ∧ i.zero = some z ∧ i.size = size ∧ i.bytes = bytes ∧ z.cells.size = size
  pos : 0 < size
theorem ET.of {t e : TypeId} {z : Value} {size bytes : Nat} (ht : Try.prog.underlying t = some (.slice e)) (hinfo : (Try.prog.info? e).map (fun i => (i.zero, i.size, i.bytes)) = some (some z, size, bytes)) (hz : z.cells.size = size) (hp : 0 < size) : ET t e size bytes := by
  obtain ⟨i, hi, h0, h1, h2⟩ := info_parts hinfo
  exact ⟨ht, ⟨i, z, hi, h0, h1, h2, hz⟩, hp⟩
theorem ET.size {t e : TypeId} {size bytes : Nat} (E : ET t e size bytes) (w : World) : (sizeOf e).run Try.prog w = .ok size w := by
  obtain ⟨i, z, hi, _, h2, _⟩ := E.info
  simp [sizeOf, typeInfo, hi, h2]

/-- a slice value of n elements, each of so many cells, that reads as f tells; its cells below block B -/
structure Rd (t : TypeId) (size : Nat) (w : World) (B : Nat) (v : Value) (n : Nat) (f : Nat → Nat → Value) (A : Nat → Addr) : Prop where
  ix : ∀ i : Nat, i < n → ∀ w' : World, (Instr.indexAt t v (.int .i64 i)).run Try.prog w' = .ok (.pointer (some (A i))) w'
  lt : ∀ i : Nat, i < n → (A i).block < B
  cell : ∀ i : Nat, i < n → ∀ j : Nat, j < size → w.cell? ((A i).add j) = some (f i j)
section
variable {t e : TypeId} {size bytes : Nat} {w w' : World} {B B' : Nat} {v : Value} {n : Nat} {f g : Nat → Nat → Value} {A : Nat → Addr}
theorem Rd.below (h : Rd t size w B v n f A) (hb : Below B w w') : Rd t size w' B v n f A :=
  ⟨h.ix, h.lt, fun i hi j hj => by rw [hb.cell (by rw [add_block]; exact h.lt i hi)]; exact h.cell i hi j hj⟩
theorem Rd.mono (h : Rd t size w B v n f A) (hb : B ≤ B') : Rd t size w B' v n f A :=
  ⟨h.ix, fun i hi => Nat.lt_of_lt_of_le (h.lt i hi) hb, h.cell⟩
theorem Rd.congr (h : Rd t size w B v n f A) (hg : ∀ i, i < n → ∀ j, j < size → f i j = g i j) : Rd t size w B v n g A :=
  ⟨h.ix, h.lt, fun i hi j hj => by rw [← hg i hi j hj]; exact h.cell i hi j hj⟩
theorem Rd.nil (A : Nat → Addr) : Rd t size w B v 0 f A :=
  ⟨fun _ hi => absurd hi (by omega), fun _ hi => absurd hi (by omega), fun _ hi => absurd hi (by omega)⟩
theorem Rd.addr {cap : Nat} {a : Addr} (E : ET t e size bytes) (hb : 0 < n → a.block < B) (hc : ∀ i, i < n → ∀ j, j < size → w.cell? (a.add (i * size + j)) = some (f i j)) :
    Rd t size w B (.slice (some a) n cap) n f (fun i => a.add (i * size)) where
  ix := fun i hi w' => by
    have h1 : (0 : Int) ≤ (i : Int) ∧ (i : Int) < (n : Int) := by omega
    have he : Try.prog.elem t = e := by simp [Program.elem, E.ht]
    rw [run_indexAt_slice w' t a n cap .i64 i (by rw [E.ht, he]), if_pos h1, he, E.size]
    simp [Result.andThen]
  lt := fun i hi => by rw [add_block]; exact hb (by omega)
  cell := fun i hi j hj => by rw [add_add]; exact hc i hi j hj
/-- a slice that is not empty has an address -/
theorem Rd.view {cap : Nat} {a : Option Addr} (E : ET t e size bytes) (h : Rd t size w B (.slice a n cap) n f A) (hn : 0 < n) :
    ∃ ad : Addr, a = some ad ∧ ad.block < B ∧ (∀ i, i < n → A i = ad.add (i * size)) ∧ ∀ i, i < n → ∀ j, j < size → w.cell? (ad.add (i * size + j)) = some (f i j) := by
  have he : Try.prog.elem t = e := by simp [Program.elem, E.ht]
  cases a with
  | none =>
    exfalso
    have h1 := h.ix 0 hn w
    have h2 : (Instr.indexAt t (.slice none n cap) (.int .i64 (0 : Nat))).run Try.prog w = (boundsPanic .i64 (0 : Nat) 0 .index).run Try.prog w := by
      simp [Instr.indexAt, run_underlying E.ht, asIntOf]
    rw [h2] at h1
    obtain ⟨s, w2, hrun⟩ := run_boundsPanic (α := Value) (P := Try.prog) (w := w) .i64 ((0 : Nat) : Int) 0 .index
    rw [hrun] at h1; cases h1
  | some ad =>
    have hA : ∀ i, i < n → A i = ad.add (i * size) := fun i hi => by
      have h1 := h.ix i hi w
      rw [run_indexAt_slice w t ad n cap .i64 i (by rw [E.ht, he]), if_pos (by omega), he, E.size] at h1
      simp [Result.andThen] at h1
      exact h1.symm
    refine ⟨ad, rfl, ?_, hA, fun i hi j hj => by rw [← add_add, ← hA i hi]; exact h.cell i hi j hj⟩
    have h3 := h.lt 0 hn
    rw [hA 0 hn, add_block] at h3; exact h3
end

/-- numbers as elements -/
def nums (k : IntKind) (l : List Int) (i : Nat) (_ : Nat) : Value := .int k (nth l i)
/-- the cells of n elements, one after the other -/
def flat (f : Nat → Nat → Value) (n size : Nat) : List Value := (List.range n).flatMap fun i => (List.range size).map (f i)
theorem flat_len (f : Nat → Nat → Value) (n size : Nat) : (flat f n size).length = n * size := by
  induction n with
  | zero => simp [flat]
  | succ n ih =>
    have : flat f (n + 1) size = flat f n size ++ (List.range size).map (f n) := by simp [flat, List.range_succ, List.flatMap_append]
    rw [this, List.length_append, ih, List.length_map, List.length_range, Nat.succ_mul]
theorem flat_succ (f : Nat → Nat → Value) (n size : Nat) : flat f (n + 1) size = flat f n size ++ (List.range size).map (f n) := by simp [flat, List.range_succ, List.flatMap_append]
theorem flat_at {f : Nat → Nat → Value} {n size i j : Nat} (hi : i < n) (hj : j < size) : (flat f n size)[i * size + j]? = some (f i j) := by
  induction n with
  | zero => omega
  | succ n ih =>
    rw [flat_succ]
    by_cases h : i < n
    · have h1 := ih h
      rw [List.getElem?_append_left (List.getElem?_eq_some_iff.1 h1).1]; exact h1
    · obtain rfl : i = n := by omega
      rw [List.getElem?_append_right (by rw [flat_len]; omega), flat_len]
      have : i * size + j - i * size = j := by omega
      rw [this]; simp [hj]
theorem flat_congr {f g : Nat → Nat → Value} {n size : Nat} (h : ∀ i, i < n → ∀ j, j < size → f i j = g i j) : flat f n size = flat g n size := by
  induction n with
  | zero => rfl
  | succ n ih =>
    rw [flat_succ, flat_succ, ih fun i hi => h i (by omega)]
    congr 1
    exact List.map_congr_left fun j hj => h n (by omega) j (List.mem_range.1 hj)
theorem flat_one (f : Nat → Nat → Value) (n : Nat) : flat f n 1 = (List.range n).map fun i => f i 0 := by
  induction n with
  | zero => rfl
  | succ n ih => rw [flat_succ, ih, List.range_succ (n := n), List.map_append]; rfl
theorem flat_nums (k : IntKind) (l : List Int) : flat (nums k l) l.length 1 = l.map (Value.int k) := by
  rw [flat_one]
  apply List.ext_getElem
  · simp
  · intro i h1 h2
    simp at h1
    simp [nums, nth, h1]
theorem div_mod_of {n size q : Nat} (hq : q < n * size) : ∃ i j, i < n ∧ j < size ∧ q = i * size + j := by
  have hp : 0 < size := Nat.pos_of_ne_zero fun h => by rw [h] at hq; omega
  exact ⟨q / size, q % size, by rw [Nat.div_lt_iff_lt_mul hp]; exact hq, Nat.mod_lt _ hp, by rw [Nat.mul_comm]; exact (Nat.div_add_mod q size).symm⟩

/-- a row that the call owns, as a slice that is read -/
theorem Rd.own {t e : TypeId} {size bytes : Nat} {w : World} {base n : Nat} {v : Value} {f : Nat → Nat → Value} (E : ET t e size bytes) (h : w.ownsRow base e size v n (flat f n size)) :
    ∃ a cap A, v = .slice a n cap ∧ Rd t size w w.heap.size v n f A := by
  rcases h.2 with ⟨rfl, h0⟩ | ⟨g, cap, cur, rfl, hb, hg, hn, hm, hs, ht⟩
  · subst h0
    exact ⟨_, _, fun _ => ⟨0, 0, none⟩, rfl, Rd.nil _⟩
  · refine ⟨_, _, _, rfl, Rd.addr E (fun _ => (Array.getElem?_eq_some_iff.1 hg).1) (fun i hi j hj => ?_)⟩
    exact h.cells (g := g) rfl (i * size + j) (f i j) (flat_at hi hj)
theorem grownBy_of_alloc {w w1 : World} {o : Obj} {row : Option Nat} (h : (w.alloc o).grownBy w1 row) : w.grownBy w1 row :=
  ⟨h.os, h.tape, h.output, by have := h.size; simp at this; omega, fun k hk hne => (h.block k (by simp; omega) hne).trans (Below.heap_alloc w o k hk)⟩
/-- what lies in a row that was laid before the call lies there after it -/
theorem ownsRow_below {w w' : World} {base size n : Nat} {e : TypeId} {v : Value} {xs : List Value} (h : w.ownsRow base e size v n xs) (hb : Below w.heap.size w w') : w'.ownsRow base e size v n xs := by
  refine ⟨h.1, ?_⟩
  rcases h.2 with h' | ⟨g, cap, cur, h1, h2, h3, h4⟩
  · exact .inl h'
  · exact .inr ⟨g, cap, cur, h1, h2, by rw [hb.block g (Array.getElem?_eq_some_iff.1 h3).1]; exact h3, h4⟩

/-- where the block of an appended row lies: where it lay, or new -/
def Moved (w : World) (v : Value) (g : Nat) : Prop := v.ownBlock = some g ∨ w.heap.size ≤ g

/-- one element is appended to a row that the call owns -/
theorem push {ops : Array Oper} {rest : List Oper} {o : Oper} {a : Act} {Q : Exit → Act → World → Prop} {w0 : World} {t e : TypeId} {size bytes : Nat} (E : ET t e size bytes) (hgd : o.guard = none) (s x : Operand)
    (ho : o.op = .call { callee := .builtin .append, args := #[s, x], argTypes := #[t, t] }) (base : Nat) (v : Value) (n : Nat) (xs : List Value) (hown : w0.ownsRow base e size v n xs) (hs : a.eval s = v)
    (news : Array Value) (N : Nat) (hx : a.eval x = .slice (some ⟨N, 0, none⟩) 1 1) (hN : w0.heap.size = N) (hsz : news.size = size) (h1 : ∀ u ∈ news.toList, u.oneCell' = true)
    (hn : (n + 1) * bytes ≤ 140737488355328) (hm : n + 1 ≤ 9223372036854775807) (hbase : base ≤ w0.heap.size)
    (h : ∀ (g cap : Nat) (w1 : World), w1.ownsRow base e size (.slice (some ⟨g, 0, none⟩) (n + 1 : Nat) cap) (n + 1) (xs ++ news.toList) → w0.grownBy w1 v.ownBlock → Moved w0 v g →
      wpList Try.prog ops Q rest (a.put o.dst (.slice (some ⟨g, 0, none⟩) (n + 1 : Nat) cap)) w1) : wpList Try.prog ops Q (o :: rest) a (w0.alloc (.cells news e)) := by
  subst hN
  obtain ⟨i, z, hi, hz, h2, h3, h4⟩ := E.info
  refine wpList_append_own_at _ hgd s x t ho base e i z size bytes E.ht hi hz h2 h3 h4 E.pos v n xs hs (hown.alloc _) ⟨w0.heap.size, 0, none⟩ 1 1 news.toList hx (by simp [hsz]) ?_ h1 (by unfold maxLen; omega) hn (by simp; omega) ?_
  · intro j u hu
    rw [add_mk, Nat.zero_add]
    have := heap_alloc_new w0 (.cells news e)
    simp only [World.cell?, this, Option.isSome_none, Bool.false_eq_true, if_false]
    rw [Array.getElem?_toList] at hu; exact hu
  · intro v' w1 hown' hg _ hv
    rcases hown'.2 with ⟨_, h0⟩ | ⟨g, cap, cur, rfl, r⟩
    · omega
    · refine h g cap w1 hown' (grownBy_of_alloc hg) ?_
      rcases hv with hv | hv
      · exact .inl hv.symm
      · right
        simp only [Value.ownBlock, Option.some.injEq, World.size_alloc] at hv
        omega

/-- nothing is appended to a new slice that is empty -/
theorem run_append_nothing {t e : TypeId} {size bytes : Nat} (E : ET t e size bytes) (ty : TypeId) (ad : Addr) (ax : Option Addr) (c : Nat) (w : World) :
    (Builtin.append_ #[t, t] ty #[.slice (some ad) 0 0, .slice ax 0 c]).run Try.prog w = .ok (.slice (some ad) 0 0) w := by
  obtain ⟨i, z, hi, hz, h2, h3, h4⟩ := E.info
  cases ax with
  | none => simp [Builtin.append_, run_underlying E.ht, sizeOf, typeInfo, hi, Builtin.lenOf, Builtin.firstCells, storeCells]
  | some a => simp [Builtin.append_, run_underlying E.ht, sizeOf, typeInfo, hi, Builtin.lenOf, Builtin.firstCells, loadCells, loadCellsFrom, storeCells]
/-- a copy of any slice: the elements, appended to a new one that is empty -/
theorem copiedAny {ops : Array Oper} {rest : List Oper} {o : Oper} {a : Act} {Q : Exit → Act → World → Prop} {w0 : World} {t e : TypeId} {size bytes : Nat} {f : Nat → Nat → Value} (E : ET t e size bytes) (hgd : o.guard = none) (s x : Operand)
    (ho : o.op = .call { callee := .builtin .append, args := #[s, x], argTypes := #[t, t] }) {ax : Option Addr} {m c B : Nat} {A : Nat → Addr} (hS : Rd t size w0 B (.slice ax m c) m f A) (hB : B ≤ w0.heap.size) (hf : ∀ i, i < m → ∀ j, j < size → (f i j).oneCell' = true)
    (N : Nat) (hs : a.eval s = .slice (some ⟨N, 0, none⟩) 0 0) (hN : w0.heap.size = N) (hx : a.eval x = .slice ax m c) (h63 : m ≤ 9223372036854775807) (hbytes : m * bytes ≤ 140737488355328)
    (h : ∀ (g cap : Nat) (w1 : World), w0.heap.size ≤ g → w1.ownsRow w0.heap.size e size (.slice (some ⟨g, 0, none⟩) m cap) m (flat f m size) → Below w0.heap.size w0 w1 →
      wpList Try.prog ops Q rest (a.put o.dst (.slice (some ⟨g, 0, none⟩) m cap)) w1) : wpList Try.prog ops Q (o :: rest) a (w0.alloc (.cells #[] e)) := by
  subst hN
  have hown : (w0.alloc (.cells #[] e)).ownsRow w0.heap.size e size (.slice (some ⟨w0.heap.size, 0, none⟩) 0 0) 0 (#[] : Array Value).toList :=
    World.ownsRow_lit w0 #[] 0 (Nat.le_refl _) (Nat.zero_le _) (by simp)
  by_cases hm : m = 0
  · subst hm
    refine wpList_plain hgd fun K hK => ?_
    have hr := run_append_nothing E o.type ⟨w0.heap.size, 0, none⟩ ax c (w0.alloc (.cells #[] e))
    unfold Oper.wp execOp
    simp only [ho, resolve, invoke, builtin, Sem.run_bind, Sem.run_pure, Result.andThen_ok, List.map_toArray, List.map_cons, List.map_nil, hs, hx, hr]
    exact hK _ _ (h w0.heap.size 0 _ (Nat.le_refl _) hown ((Below.refl _ _).alloc (Nat.le_refl _) _))
  · obtain ⟨i, z, hi, hz, h2, h3, h4⟩ := E.info
    obtain ⟨ad, rfl, hlt, _, hce⟩ := hS.view E (by omega)
    refine wpList_append_own_at _ hgd s x t ho w0.heap.size e i z size bytes E.ht hi hz h2 h3 h4 E.pos _ 0 _ hs hown ad m c (flat f m size) hx (flat_len _ _ _) ?_ ?_ (by unfold maxLen; omega) (by rw [Nat.zero_add]; exact hbytes) (by simp) ?_
    · intro q u hu
      have hq := (List.getElem?_eq_some_iff.1 hu).1
      rw [flat_len] at hq
      obtain ⟨x, y, hx, hy, rfl⟩ := div_mod_of hq
      rw [flat_at hx hy] at hu
      cases hu
      rw [World.cell?_of_block (Below.heap_alloc w0 _ _ (by rw [add_block]; omega))]
      exact hce x hx y hy
    · intro u hu
      obtain ⟨q, hq, rfl⟩ := List.mem_iff_getElem.1 hu
      rw [flat_len] at hq
      obtain ⟨x, y, hx, hy, rfl⟩ := div_mod_of hq
      have := flat_at (f := f) hx hy
      rw [List.getElem?_eq_getElem (by rw [flat_len]; exact hq)] at this
      rw [Option.some.inj this]; exact hf x hx y hy
    · intro v' w1 hown' hg _ _
      simp only [Nat.zero_add, List.nil_append] at hown'
      obtain ⟨g, cap, rfl⟩ : ∃ g cap, v' = .slice (some ⟨g, 0, none⟩) m cap := by
        rcases hown'.2 with ⟨_, h0⟩ | ⟨g, cap, cur, e1, _⟩
        · omega
        · exact ⟨g, cap, e1⟩
      have hgl := (hown'.lt g rfl).1
      refine h g cap w1 hgl hown' ?_
      have h5 := (Below.refl w0.heap.size w0).alloc (Nat.le_refl _) (.cells #[] e)
      exact h5.grown hg (by simp) (fun j hj => by simp only [Value.ownBlock, Option.some.injEq] at hj; omega)

/-- numbers in memory -/
abbrev Sl (t : TypeId) (k : IntKind) (w : World) (B : Nat) (v : Value) (l : List Int) (A : Nat → Addr) : Prop := Rd t 1 w B v l.length (nums k l) A
theorem Sl.at {t : TypeId} {k : IntKind} {w : World} {B : Nat} {v : Value} {l : List Int} {A : Nat → Addr} (h : Sl t k w B v l A) {i : Nat} (hi : i < l.length) : w.cell? (A i) = some (.int k (nth l i)) := by
  have := h.cell i hi 0 (by omega); rwa [add_zero] at this

theorem Try.infoI : (Try.prog.info? 3).map (fun i => (i.zero, i.size, i.bytes)) = some (some (.int .i64 0), 1, 8) := by kernel_rfl
theorem etI : ET 29 3 1 8 := ET.of Try.underlying29 Try.infoI rfl (by decide)
theorem Try.infoE : (Try.prog.info? 48).map (fun i => (i.zero, i.size, i.bytes)) = some (some (.agg #[.int .i64 0, .int .i64 0, .int .i64 0]), 3, 24) := by kernel_rfl
theorem etE : ET 22 48 3 24 := ET.of Try.underlying22 Try.infoE rfl (by decide)

theorem bcell {W w1 : World} {B : Nat} (hb : Below B W w1) : (∀ b o, b < B → w1.cell? ⟨b, o, none⟩ = W.cell? ⟨b, o, none⟩) ∧ (∀ b o, b < B → w1.frozen? ⟨b, o, none⟩ = W.frozen? ⟨b, o, none⟩) :=
  ⟨fun b o h => hb.cell (p := ⟨b, o, none⟩) h, fun b o h => hb.frozen (p := ⟨b, o, none⟩) h⟩
end Go.Proofs.Ytcpikabhcjkkmaa
