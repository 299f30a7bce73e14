/- Slices in memory, at any size of their elements: a slice that is read, whatever its address; rows that a call owns; copies. No conditions. -/
import Derived.Test.YtpbgophogneecaaGreatRows
import Derived.WalkKit
import Derived.WalkSpells
import Derived.WalkLawsBesides
import Derived.Lib.Hide
import Derived.Deep.OwnRows
import Derived.Maps.AppendAt
import Derived.Laws.OwnMore
import Derived.OwnWalk
import Derived.BigQuiet
import Derived.Deep.QuietTactic
import Derived.Test.YtpbgophogneecaaGreatPl
import Derived.RegionTactic
import Derived.BigRegion
import Derived.Deep.DeepCutAuto
import Derived.OrdersHeld
import Derived.Deep.RegionHeld
import Derived.OrdersIn
import Derived.RangeFuncNested
import Derived.RangeFuncOwn
import Derived.RangeFuncBox
namespace Go.Proofs.YtpbgophogneecaaGreat
open Go.RowKit

/-- the i-th number of a list -/
def nth (l : List Int) (i : Nat) : Int := l.getD i 0
theorem nth_eq {l : List Int} {i : Nat} (h : i < l.length) : nth l i = l[i] := by simp [nth, List.getD, h]
theorem add_block (a : Addr) (i : Nat) : (a.add i).block = a.block := by unfold Addr.add; split <;> rfl
theorem add_zero (a : Addr) : a.add 0 = a := by unfold Addr.add; rw [if_pos rfl]
theorem add_mk (b o i : Nat) : (⟨b, o, none⟩ : Addr).add i = ⟨b, o + i, none⟩ := by unfold Addr.add; split <;> simp_all
theorem add_add (a : Addr) (i j : Nat) : (a.add i).add j = a.add (i + j) := by
  unfold Addr.add
  by_cases h : i = 0
  · subst h; simp
  · by_cases h2 : j = 0
    · subst h2; simp
    · rw [if_neg h, if_neg h2, if_neg (by omega)]; simp [Nat.add_assoc]

/-- the facts of an element type: t is the slice type, e the element's -/
structure ET (t e : TypeId) (size bytes : Nat) : Prop where
  ht : Tryz.prog.underlying t = some (.slice e)
  info : ∃ i z, Tryz.prog.info? e = some i ∧ i.zero = some z ∧ i.size = size ∧ i.bytes = bytes ∧ z.cells.size = size
  pos : 0 < size
theorem ET.of {t e : TypeId} {z : Value} {size bytes : Nat} (ht : Tryz.prog.underlying t = some (.slice e)) (hinfo : (Tryz.prog.info? e).map (fun i => (i.zero, i.size, i.bytes)) = some (some z, size, bytes)) (hz : z.cells.size = size) (hp : 0 < size) : ET t e size bytes := by
  obtain ⟨i, hi, h0, h1, h2⟩ := info_parts hinfo
  exact ⟨ht, ⟨i, z, hi, h0, h1, h2, hz⟩, hp⟩
theorem ET.size {t e : TypeId} {size bytes : Nat} (E : ET t e size bytes) (w : World) : (sizeOf e).run Tryz.prog w = .ok size w := by
  obtain ⟨i, z, hi, _, h2, _⟩ := E.info
  simp [sizeOf, typeInfo, hi, h2]

/-- a slice value of n elements, each of so many cells, that reads as f tells; its cells below block B -/
structure Rd (t : TypeId) (size : Nat) (w : World) (B : Nat) (v : Value) (n : Nat) (f : Nat → Nat → Value) (A : Nat → Addr) : Prop where
  ix : ∀ i : Nat, i < n → ∀ w' : World, (Instr.indexAt t v (.int .i64 i)).run Tryz.prog w' = .ok (.pointer (some (A i))) w'
  lt : ∀ i : Nat, i < n → (A i).block < B
  cell : ∀ i : Nat, i < n → ∀ j : Nat, j < size → w.cell? ((A i).add j) = some (f i j)
section
variable {t e : TypeId} {size bytes : Nat} {w w' : World} {B B' : Nat} {v : Value} {n : Nat} {f g : Nat → Nat → Value} {A : Nat → Addr}
theorem Rd.below (h : Rd t size w B v n f A) (hb : Below B w w') : Rd t size w' B v n f A :=
  ⟨h.ix, h.lt, fun i hi j hj => by rw [hb.cell (by rw [add_block]; exact h.lt i hi)]; exact h.cell i hi j hj⟩
theorem Rd.mono (h : Rd t size w B v n f A) (hb : B ≤ B') : Rd t size w B' v n f A :=
  ⟨h.ix, fun i hi => Nat.lt_of_lt_of_le (h.lt i hi) hb, h.cell⟩
theorem Rd.congr (h : Rd t size w B v n f A) (hg : ∀ i, i < n → ∀ j, j < size → f i j = g i j) : Rd t size w B v n g A :=
  ⟨h.ix, h.lt, fun i hi j hj => by rw [← hg i hi j hj]; exact h.cell i hi j hj⟩
theorem Rd.nil (A : Nat → Addr) : Rd t size w B v 0 f A :=
  ⟨fun _ hi => absurd hi (by omega), fun _ hi => absurd hi (by omega), fun _ hi => absurd hi (by omega)⟩
theorem Rd.addr {cap : Nat} {a : Addr} (E : ET t e size bytes) (hb : 0 < n → a.block < B) (hc : ∀ i, i < n → ∀ j, j < size → w.cell? (a.add (i * size + j)) = some (f i j)) :
    Rd t size w B (.slice (some a) n cap) n f (fun i => a.add (i * size)) where
  ix := fun i hi w' => by
    have h1 : (0 : Int) ≤ (i : Int) ∧ (i : Int) < (n : Int) := by omega
    have he : Tryz.prog.elem t = e := by simp [Program.elem, E.ht]
    rw [run_indexAt_slice w' t a n cap .i64 i (by rw [E.ht, he]), if_pos h1, he, E.size]
    simp [Result.andThen]
  lt := fun i hi => by rw [add_block]; exact hb (by omega)
  cell := fun i hi j hj => by rw [add_add]; exact hc i hi j hj
/-- a slice that is not empty has an address -/
theorem Rd.view {cap : Nat} {a : Option Addr} (E : ET t e size bytes) (h : Rd t size w B (.slice a n cap) n f A) (hn : 0 < n) :
    ∃ ad : Addr, a = some ad ∧ ad.block < B ∧ (∀ i, i < n → A i = ad.add (i * size)) ∧ ∀ i, i < n → ∀ j, j < size → w.cell? (ad.add (i * size + j)) = some (f i j) := by
  have he : Tryz.prog.elem t = e := by simp [Program.elem, E.ht]
  cases a with
  | none =>
    exfalso
    have h1 := h.ix 0 hn w
    have h2 : (Instr.indexAt t (.slice none n cap) (.int .i64 (0 : Nat))).run Tryz.prog w = (boundsPanic .i64 (0 : Nat) 0 .index).run Tryz.prog w := by
      simp [Instr.indexAt, run_underlying E.ht, asIntOf]
    rw [h2] at h1
    obtain ⟨s, w2, hrun⟩ := run_boundsPanic (α := Value) (P := Tryz.prog) (w := w) .i64 ((0 : Nat) : Int) 0 .index
    rw [hrun] at h1; cases h1
  | some ad =>
    have hA : ∀ i, i < n → A i = ad.add (i * size) := fun i hi => by
      have h1 := h.ix i hi w
      rw [run_indexAt_slice w t ad n cap .i64 i (by rw [E.ht, he]), if_pos (by omega), he, E.size] at h1
      simp [Result.andThen] at h1
      exact h1.symm
    refine ⟨ad, rfl, ?_, hA, fun i hi j hj => by rw [← add_add, ← hA i hi]; exact h.cell i hi j hj⟩
    have h3 := h.lt 0 hn
    rw [hA 0 hn, add_block] at h3; exact h3
end

/-- numbers as elements -/
def nums (k : IntKind) (l : List Int) (i : Nat) (_ : Nat) : Value := .int k (nth l i)
/-- the cells of n elements, one after the other -/
def flat (f : Nat → Nat → Value) (n size : Nat) : List Value := (List.range n).flatMap fun i => (List.range size).map (f i)
theorem flat_len (f : Nat → Nat → Value) (n size : Nat) : (flat f n size).length = n * size := by
  induction n with
  | zero => simp [flat]
  | succ n ih =>
    have : flat f (n + 1) size = flat f n size ++ (List.range size).map (f n) := by simp [flat, List.range_succ, List.flatMap_append]
    rw [this, List.length_append, ih, List.length_map, List.length_range, Nat.succ_mul]
theorem flat_succ (f : Nat → Nat → Value) (n size : Nat) : flat f (n + 1) size = flat f n size ++ (List.range size).map (f n) := by simp [flat, List.range_succ, List.flatMap_append]
theorem flat_at {f : Nat → Nat → Value} {n size i j : Nat} (hi : i < n) (hj : j < size) : (flat f n size)[i * size + j]? = some (f i j) := by
  induction n with
  | zero => omega
  | succ n ih =>
    rw [flat_succ]
    by_cases h : i < n
    · have h1 := ih h
      rw [List.getElem?_append_left (List.getElem?_eq_some_iff.1 h1).1]; exact h1
    · obtain rfl : i = n := by omega
      rw [List.getElem?_append_right (by rw [flat_len]; omega), flat_len]
      have : i * size + j - i * size = j := by omega
      rw [this]; simp [hj]
theorem flat_congr {f g : Nat → Nat → Value} {n size : Nat} (h : ∀ i, i < n → ∀ j, j < size → f i j = g i j) : flat f n size = flat g n size := by
  induction n with
  | zero => rfl
  | succ n ih =>
    rw [flat_succ, flat_succ, ih fun i hi => h i (by omega)]
    congr 1
    exact List.map_congr_left fun j hj => h n (by omega) j (List.mem_range.1 hj)
theorem flat_one (f : Nat → Nat → Value) (n : Nat) : flat f n 1 = (List.range n).map fun i => f i 0 := by
  induction n with
  | zero => rfl
  | succ n ih => rw [flat_succ, ih, List.range_succ (n := n), List.map_append]; rfl
theorem flat_nums (k : IntKind) (l : List Int) : flat (nums k l) l.length 1 = l.map (Value.int k) := by
  rw [flat_one]
  apply List.ext_getElem
  · simp
  · intro i h1 h2
    simp at h1
    simp [nums, nth, h1]
theorem div_mod_of {n size q : Nat} (hq : q < n * size) : ∃ i j, i < n ∧ j < size ∧ q = i * size + j := by
  have hp : 0 < size := Nat.pos_of_ne_zero fun h => by rw [h] at hq; omega
  exact ⟨q / size, q % size, by rw [Nat.div_lt_iff_lt_mul hp]; exact hq, Nat.mod_lt _ hp, by rw [Nat.mul_comm]; exact (Nat.div_add_mod q size).symm⟩

/-- a row that the call owns, as a slice that is read -/
theorem Rd.own {t e : TypeId} {size bytes : Nat} {w : World} {base n : Nat} {v : Value} {f : Nat → Nat → Value} (E : ET t e size bytes) (h : w.ownsRow base e size v n (flat f n size)) :
    ∃ a cap A, v = .slice a n cap ∧ Rd t size w w.heap.size v n f A := by
  rcases h.2 with ⟨rfl, h0⟩ | ⟨g, cap, cur, rfl, hb, hg, hn, hm, hs, ht⟩
  · subst h0
    exact ⟨_, _, fun _ => ⟨0, 0, none⟩, rfl, Rd.nil _⟩
  · refine ⟨_, _, _, rfl, Rd.addr E (fun _ => (Array.getElem?_eq_some_iff.1 hg).1) (fun i hi j hj => ?_)⟩
    exact h.cells (g := g) rfl (i * size + j) (f i j) (flat_at hi hj)
theorem grownBy_of_alloc {w w1 : World} {o : Obj} {row : Option Nat} (h : (w.alloc o).grownBy w1 row) : w.grownBy w1 row :=
  ⟨h.os, h.tape, h.output, by have := h.size; simp at this; omega, fun k hk hne => (h.block k (by simp; omega) hne).trans (Below.heap_alloc w o k hk)⟩
/-- what lies in a row that was laid before the call lies there after it -/
theorem ownsRow_below {w w' : World} {base size n : Nat} {e : TypeId} {v : Value} {xs : List Value} (h : w.ownsRow base e size v n xs) (hb : Below w.heap.size w w') : w'.ownsRow base e size v n xs := by
  refine ⟨h.1, ?_⟩
  rcases h.2 with h' | ⟨g, cap, cur, h1, h2, h3, h4⟩
  · exact .inl h'
  · exact .inr ⟨g, cap, cur, h1, h2, by rw [hb.block g (Array.getElem?_eq_some_iff.1 h3).1]; exact h3, h4⟩

/-- where the block of an appended row lies: where it lay, or new -/
def Moved (w : World) (v : Value) (g : Nat) : Prop := v.ownBlock = some g ∨ w.heap.size ≤ g

/-- one element is appended to a row that the call owns -/
theorem push {ops : Array Oper} {rest : List Oper} {o : Oper} {a : Act} {Q : Exit → Act → World → Prop} {w0 : World} {t e : TypeId} {size bytes : Nat} (E : ET t e size bytes) (hgd : o.guard = none) (s x : Operand)
    (ho : o.op = .call { callee := .builtin .append, args := #[s, x], argTypes := #[t, t] }) (base : Nat) (v : Value) (n : Nat) (xs : List Value) (hown : w0.ownsRow base e size v n xs) (hs : a.eval s = v)
    (news : Array Value) (N : Nat) (hx : a.eval x = .slice (some ⟨N, 0, none⟩) 1 1) (hN : w0.heap.size = N) (hsz : news.size = size) (h1 : ∀ u ∈ news.toList, u.oneCell' = true)
    (hn : (n + 1) * bytes ≤ 140737488355328) (hm : n + 1 ≤ 9223372036854775807) (hbase : base ≤ w0.heap.size)
    (h : ∀ (g cap : Nat) (w1 : World), w1.ownsRow base e size (.slice (some ⟨g, 0, none⟩) (n + 1 : Nat) cap) (n + 1) (xs ++ news.toList) → w0.grownBy w1 v.ownBlock → Moved w0 v g →
      wpList Tryz.prog ops Q rest (a.put o.dst (.slice (some ⟨g, 0, none⟩) (n + 1 : Nat) cap)) w1) : wpList Tryz.prog ops Q (o :: rest) a (w0.alloc (.cells news e)) := by
  subst hN
  obtain ⟨i, z, hi, hz, h2, h3, h4⟩ := E.info
  refine wpList_append_own_at _ hgd s x t ho base e i z size bytes E.ht hi hz h2 h3 h4 E.pos v n xs hs (hown.alloc _) ⟨w0.heap.size, 0, none⟩ 1 1 news.toList hx (by simp [hsz]) ?_ h1 (by unfold maxLen; omega) hn (by simp; omega) ?_
  · intro j u hu
    rw [add_mk, Nat.zero_add]
    have := heap_alloc_new w0 (.cells news e)
    simp only [World.cell?, this, Option.isSome_none, Bool.false_eq_true, if_false]
    rw [Array.getElem?_toList] at hu; exact hu
  · intro v' w1 hown' hg _ hv
    rcases hown'.2 with ⟨_, h0⟩ | ⟨g, cap, cur, rfl, r⟩
    · omega
    · refine h g cap w1 hown' (grownBy_of_alloc hg) ?_
      rcases hv with hv | hv
      · exact .inl hv.symm
      · right
        simp only [Value.ownBlock, Option.some.injEq, World.size_alloc] at hv
        omega

/-- nothing is appended to a new slice that is empty -/
theorem run_append_nothing {t e : TypeId} {size bytes : Nat} (E : ET t e size bytes) (ty : TypeId) (ad : Addr) (ax : Option Addr) (c : Nat) (w : World) :
    (Builtin.append_ #[t, t] ty #[.slice (some ad) 0 0, .slice ax 0 c]).run Tryz.prog w = .ok (.slice (some ad) 0 0) w := by
  obtain ⟨i, z, hi, hz, h2, h3, h4⟩ := E.info
  cases ax with
  | none => simp [Builtin.append_, run_underlying E.ht, sizeOf, typeInfo, hi, Builtin.lenOf, Builtin.firstCells, storeCells]
  | some a => simp [Builtin.append_, run_underlying E.ht, sizeOf, typeInfo, hi, Builtin.lenOf, Builtin.firstCells, loadCells, loadCellsFrom, storeCells]
/-- a copy of any slice: the elements, appended to a new one that is empty -/
theorem copiedAny {ops : Array Oper} {rest : List Oper} {o : Oper} {a : Act} {Q : Exit → Act → World → Prop} {w0 : World} {t e : TypeId} {size bytes : Nat} {f : Nat → Nat → Value} (E : ET t e size bytes) (hgd : o.guard = none) (s x : Operand)
    (ho : o.op = .call { callee := .builtin .append, args := #[s, x], argTypes := #[t, t] }) {ax : Option Addr} {m c B : Nat} {A : Nat → Addr} (hS : Rd t size w0 B (.slice ax m c) m f A) (hB : B ≤ w0.heap.size) (hf : ∀ i, i < m → ∀ j, j < size → (f i j).oneCell' = true)
    (N : Nat) (hs : a.eval s = .slice (some ⟨N, 0, none⟩) 0 0) (hN : w0.heap.size = N) (hx : a.eval x = .slice ax m c) (h63 : m ≤ 9223372036854775807) (hbytes : m * bytes ≤ 140737488355328)
    (h : ∀ (g cap : Nat) (w1 : World), w0.heap.size ≤ g → w1.ownsRow w0.heap.size e size (.slice (some ⟨g, 0, none⟩) m cap) m (flat f m size) → Below w0.heap.size w0 w1 →
      wpList Tryz.prog ops Q rest (a.put o.dst (.slice (some ⟨g, 0, none⟩) m cap)) w1) : wpList Tryz.prog ops Q (o :: rest) a (w0.alloc (.cells #[] e)) := by
  subst hN
  have hown : (w0.alloc (.cells #[] e)).ownsRow w0.heap.size e size (.slice (some ⟨w0.heap.size, 0, none⟩) 0 0) 0 (#[] : Array Value).toList :=
    World.ownsRow_lit w0 #[] 0 (Nat.le_refl _) (Nat.zero_le _) (by simp)
  by_cases hm : m = 0
  · subst hm
    refine wpList_plain hgd fun K hK => ?_
    have hr := run_append_nothing E o.type ⟨w0.heap.size, 0, none⟩ ax c (w0.alloc (.cells #[] e))
    unfold Oper.wp execOp
    simp only [ho, resolve, invoke, builtin, Sem.run_bind, Sem.run_pure, Result.andThen_ok, List.map_toArray, List.map_cons, List.map_nil, hs, hx, hr]
    exact hK _ _ (h w0.heap.size 0 _ (Nat.le_refl _) hown ((Below.refl _ _).alloc (Nat.le_refl _) _))
  · obtain ⟨i, z, hi, hz, h2, h3, h4⟩ := E.info
    obtain ⟨ad, rfl, hlt, _, hce⟩ := hS.view E (by omega)
    refine wpList_append_own_at _ hgd s x t ho w0.heap.size e i z size bytes E.ht hi hz h2 h3 h4 E.pos _ 0 _ hs hown ad m c (flat f m size) hx (flat_len _ _ _) ?_ ?_ (by unfold maxLen; omega) (by rw [Nat.zero_add]; exact hbytes) (by simp) ?_
    · intro q u hu
      have hq := (List.getElem?_eq_some_iff.1 hu).1
      rw [flat_len] at hq
      obtain ⟨x, y, hx, hy, rfl⟩ := div_mod_of hq
      rw [flat_at hx hy] at hu
      cases hu
      rw [World.cell?_of_block (Below.heap_alloc w0 _ _ (by rw [add_block]; omega))]
      exact hce x hx y hy
    · intro u hu
      obtain ⟨q, hq, rfl⟩ := List.mem_iff_getElem.1 hu
      rw [flat_len] at hq
      obtain ⟨x, y, hx, hy, rfl⟩ := div_mod_of hq
      have := flat_at (f := f) hx hy
      rw [List.getElem?_eq_getElem (by rw [flat_len]; exact hq)] at this
      rw [Option.some.inj this]; exact hf x hx y hy
    · intro v' w1 hown' hg _ _
      simp only [Nat.zero_add, List.nil_append] at hown'
      obtain ⟨g, cap, rfl⟩ : ∃ g cap, v' = .slice (some ⟨g, 0, none⟩) m cap := by
        rcases hown'.2 with ⟨_, h0⟩ | ⟨g, cap, cur, e1, _⟩
        · omega
        · exact ⟨g, cap, e1⟩
      have hgl := (hown'.lt g rfl).1
      refine h g cap w1 hgl hown' ?_
      have h5 := (Below.refl w0.heap.size w0).alloc (Nat.le_refl _) (.cells #[] e)
      exact h5.grown hg (by simp) (fun j hj => by simp only [Value.ownBlock, Option.some.injEq] at hj; omega)

/-- numbers in memory -/
abbrev Sl (t : TypeId) (k : IntKind) (w : World) (B : Nat) (v : Value) (l : List Int) (A : Nat → Addr) : Prop := Rd t 1 w B v l.length (nums k l) A
theorem Sl.at {t : TypeId} {k : IntKind} {w : World} {B : Nat} {v : Value} {l : List Int} {A : Nat → Addr} (h : Sl t k w B v l A) {i : Nat} (hi : i < l.length) : w.cell? (A i) = some (.int k (nth l i)) := by
  have := h.cell i hi 0 (by omega); rwa [add_zero] at this

theorem Tryz.infoI : (Tryz.prog.info? 3).map (fun i => (i.zero, i.size, i.bytes)) = some (some (.int .i64 0), 1, 8) := by kernel_rfl
theorem etI : ET 46 3 1 8 := ET.of Tryz.underlying46 Tryz.infoI rfl (by decide)
theorem Tryz.infoE : (Tryz.prog.info? 45).map (fun i => (i.zero, i.size, i.bytes)) = some (some (.agg #[.int .i64 0, .int .i64 0, .int .i64 0]), 3, 24) := by kernel_rfl
theorem etE : ET 22 45 3 24 := ET.of Tryz.underlying22 Tryz.infoE rfl (by decide)

theorem bcell {W w1 : World} {B : Nat} (hb : Below B W w1) : (∀ b o, b < B → w1.cell? ⟨b, o, none⟩ = W.cell? ⟨b, o, none⟩) ∧ (∀ b o, b < B → w1.frozen? ⟨b, o, none⟩ = W.frozen? ⟨b, o, none⟩) :=
  ⟨fun b o h => hb.cell (p := ⟨b, o, none⟩) h, fun b o h => hb.frozen (p := ⟨b, o, none⟩) h⟩
end Go.Proofs.YtpbgophogneecaaGreat

/- Rows in memory that are written cell by cell; edges in memory. No conditions. -/
namespace Go.Proofs.YtpbgophogneecaaGreat
open Go.RowKit

/-- block g: its first n cells hold what f tells; it is not frozen -/
def Row (w : World) (g n : Nat) (f : Nat → Value) : Prop := ∃ c t, w.heap[g]? = some (.cells c t (0, 0)) ∧ ∀ i, i < n → c[i]? = some (f i)
section
variable {w w' : World} {g n : Nat} {f f' : Nat → Value}
theorem Row.cell (h : Row w g n f) {i : Nat} (hi : i < n) : w.cell? ⟨g, i, none⟩ = some (f i) := by
  obtain ⟨c, t, hb, hc⟩ := h
  simp [World.cell?, hb, hc i hi]
theorem Row.frozen (h : Row w g n f) (i : Nat) : w.frozen? ⟨g, i, none⟩ = false := by
  obtain ⟨c, t, hb, _⟩ := h
  simp [World.frozen?, hb]
theorem Row.lt (h : Row w g n f) : g < w.heap.size := by
  obtain ⟨c, t, hb, _⟩ := h
  exact (Array.getElem?_eq_some_iff.1 hb).1
theorem Row.congr (h : Row w g n f) (e : ∀ i, i < n → f i = f' i) : Row w g n f' := by
  obtain ⟨c, t, hb, hc⟩ := h
  exact ⟨c, t, hb, fun i hi => by rw [hc i hi, e i hi]⟩
theorem Row.of_block (h : Row w g n f) (e : w'.heap[g]? = w.heap[g]?) : Row w' g n f := by
  obtain ⟨c, t, hb, hc⟩ := h
  exact ⟨c, t, e.trans hb, hc⟩
theorem Row.set (h : Row w g n f) (i : Nat) (v : Value) : Row (w.setCell ⟨g, i, none⟩ v) g n (fun j => if j = i then v else f j) := by
  obtain ⟨c, t, hb, hc⟩ := h
  refine ⟨c.setIfInBounds i v, t, ?_, fun j hj => ?_⟩
  · simp [World.setCell, Array.getElem?_modify, hb]
  · rw [Array.getElem?_setIfInBounds]
    have := hc j hj
    by_cases e : j = i
    · subst e
      have := (Array.getElem?_eq_some_iff.1 this).1
      simp [this]
    · rw [if_neg (fun h => e h.symm)]; dsimp only; rw [if_neg e]; exact this
theorem Row.setOther (h : Row w g n f) {a : Addr} (ha : g ≠ a.block) (v : Value) : Row (w.setCell a v) g n f := h.of_block (Below.heap_setCell _ _ _ _ ha)
theorem Row.alloc (h : Row w g n f) (o : Obj) : Row (w.alloc o) g n f := h.of_block (Below.heap_alloc _ _ _ h.lt)
theorem Row.drewN (h : Row w g n f) (q : Nat) : Row (w.drewN q) g n f := h
theorem Row.drew (h : Row w g n f) : Row w.drew g n f := h
theorem Row.below {B : Nat} (h : Row w g n f) (hb : Below B w w') (hg : g < B) : Row w' g n f := h.of_block (hb.block g hg)
theorem Row.made (w : World) (z : Value) (n : Nat) (t : TypeId) : Row (w.alloc (.cells (madeCells #[z] n) t)) w.heap.size n (fun _ => z) := by
  obtain ⟨c, h1, _, h2⟩ := World.rowIs_made w z n t
  exact ⟨c, t, h1, h2⟩
theorem Row.lit (w : World) (c : Array Value) (t : TypeId) (hn : n ≤ c.size) (hf : ∀ i, (h : i < n) → c[i]'(by omega) = f i) : Row (w.alloc (.cells c t)) w.heap.size n f :=
  ⟨c, t, heap_alloc_new _ _, fun i hi => by rw [Array.getElem?_eq_getElem (by omega), hf i hi]⟩
theorem Row.owned {base cap : Nat} {e : TypeId} {xs : List Value} (h : w.ownsRow base e 1 (.slice (some ⟨g, 0, none⟩) n cap) n xs) : Row w g n (fun i => xs.getD i (.int .i64 0)) := by
  have hl := h.1
  rcases h.2 with ⟨h0, _⟩ | ⟨g', cap', cur, h1, _, hg, _, _, _, ht⟩
  · cases h0
  · cases h1
    refine ⟨cur, e, hg, fun i hi => ?_⟩
    have h2 : xs[i]? = some (xs[i]'(by omega)) := List.getElem?_eq_getElem (by omega)
    have h3 : (cur.toList.take (n * 1))[i]? = some (xs[i]'(by omega)) := by rw [ht]; exact h2
    rw [List.getElem?_take, if_pos (by omega), Array.getElem?_toList] at h3
    rw [h3]; simp [List.getD, h2]
end

/-- the cells of the i-th edge -/
def edC (E : List Ed) (i : Nat) : Nat → Value
  | 0 => .int .i64 (eAt E i).u
  | 1 => .int .i64 (eAt E i).v
  | _ => .int .i64 (eAt E i).w
theorem edC_one (E : List Ed) (i j : Nat) : (edC E i j).oneCell' = true := by unfold edC; split <;> rfl
/-- edges in memory -/
abbrev ES (w : World) (B : Nat) (v : Value) (E : List Ed) (A : Nat → Addr) : Prop := Rd 22 3 w B v E.length (edC E) A
section
variable {W : World} {B : Nat} {x : Value} {E : List Ed} {A : Nat → Addr}
theorem ES.u (h : ES W B x E A) {i : Nat} (hi : i < E.length) : W.cell? (A i) = some (.int .i64 (eAt E i).u) := by
  have := h.cell i hi 0 (by omega); rwa [add_zero] at this
theorem ES.v (h : ES W B x E A) {i : Nat} (hi : i < E.length) : W.cell? ⟨(A i).block, (A i).off + 1, none⟩ = some (.int .i64 (eAt E i).v) := h.cell i hi 1 (by omega)
theorem ES.w (h : ES W B x E A) {i : Nat} (hi : i < E.length) : W.cell? ⟨(A i).block, (A i).off + 2, none⟩ = some (.int .i64 (eAt E i).w) := h.cell i hi 2 (by omega)
end

/-- a slice of the call's own, new -/
def CopyPost (t e : TypeId) (size : Nat) (m : Nat) (f : Nat → Nat → Value) (w : World) (en : Ending) (w' : World) : Prop :=
  ∃ a cap A, en = .returned (.slice a m cap) ∧ Rd t size w' w'.heap.size (.slice a m cap) m f A ∧ Below w.heap.size w w' ∧ (a = none ∨ ∃ g, a = some ⟨g, 0, none⟩ ∧ w.heap.size ≤ g ∧ w'.ownsRow w.heap.size e size (.slice (some ⟨g, 0, none⟩) m cap) m (flat f m size))
set_option maxHeartbeats 1000000 in
theorem cloneE (B : Nat) (a : Option Addr) (cap m : Nat) (A : Nat → Addr) (f : Nat → Nat → Value) (w : World) (hS : Rd 22 3 w B (.slice a m cap) m f A) (hB : B ≤ w.heap.size) (hf : ∀ i, i < m → ∀ j, j < 3 → (f i j).oneCell' = true) (hm : m ≤ 1000000) :
    Calls Tryz.prog 19 #[.slice a m cap] w (CopyPost 22 45 3 m f w) := by
  cases a with
  | none =>
    obtain rfl : m = 0 := by
      rcases Nat.eq_zero_or_pos m with h | h
      · exact h
      · obtain ⟨_, h1, _⟩ := hS.view etE h; cases h1
    have he := fun w => Lib.run_eql_slice_nil (P := Tryz.prog) w 22 45 none 0 cap 0 0 Tryz.underlying22
    go_enter Tryz.func19, Tryz.ntmps19
    go_wp2
    go_ret
    exact ⟨none, 0, A, rfl, Rd.nil _, Below.refl _ _, .inl rfl⟩
  | some ad =>
    have he := fun w => Lib.run_eql_slice_nil (P := Tryz.prog) w 22 45 (some ad) m cap 0 0 Tryz.underlying22
    go_enter Tryz.func19, Tryz.ntmps19
    go_wp2_with (at_builtin; refine copiedAny etE rfl _ _ rfl hS hB hf _ rfl (by simp) rfl (by omega) (by omega) ?_; intro g cp w1 hg R1 D1)
    go_ret
    obtain ⟨a', c', A', h1, h2⟩ := Rd.own etE R1
    cases h1
    exact ⟨_, _, A', rfl, h2, D1, .inr ⟨g, rfl, hg, R1⟩⟩
set_option maxHeartbeats 1000000 in
theorem cloneI (B : Nat) (a : Option Addr) (cap m : Nat) (A : Nat → Addr) (f : Nat → Nat → Value) (w : World) (hS : Rd 46 1 w B (.slice a m cap) m f A) (hB : B ≤ w.heap.size) (hf : ∀ i, i < m → ∀ j, j < 1 → (f i j).oneCell' = true) (hm : m ≤ 1000000) :
    Calls Tryz.prog 42 #[.slice a m cap] w (CopyPost 46 3 1 m f w) := by
  cases a with
  | none =>
    obtain rfl : m = 0 := by
      rcases Nat.eq_zero_or_pos m with h | h
      · exact h
      · obtain ⟨_, h1, _⟩ := hS.view etI h; cases h1
    have he := fun w => Lib.run_eql_slice_nil (P := Tryz.prog) w 46 3 none 0 cap 0 0 Tryz.underlying46
    go_enter Tryz.func42, Tryz.ntmps42
    go_wp2
    go_ret
    exact ⟨none, 0, A, rfl, Rd.nil _, Below.refl _ _, .inl rfl⟩
  | some ad =>
    have he := fun w => Lib.run_eql_slice_nil (P := Tryz.prog) w 46 3 (some ad) m cap 0 0 Tryz.underlying46
    go_enter Tryz.func42, Tryz.ntmps42
    go_wp2_with (at_builtin; refine copiedAny etI rfl _ _ rfl hS hB hf _ rfl (by simp) rfl (by omega) (by omega) ?_; intro g cp w1 hg R1 D1)
    go_ret
    obtain ⟨a', c', A', h1, h2⟩ := Rd.own etI R1
    cases h1
    exact ⟨_, _, A', rfl, h2, D1, .inr ⟨g, rfl, hg, R1⟩⟩
end Go.Proofs.YtpbgophogneecaaGreat

/- A region that draws its order, inside a round of a loop over a function: what is shown of it outside of every fence holds there too. Conditions: no operation defers a call; it ends normally. -/
namespace Go.Proofs.YtpbgophogneecaaGreat
open Go.RowKit

section
variable {P : Program} {ops : Array Oper} {l n : Nat} {md : Region.Mode}
/-- an end that is normal -/
def NormalOnly (K : Act → World → Prop) : Exit → Act → World → Prop := fun e a w => e = .normal ∧ K a w
theorem NormalOnly.panic {K : Act → World → Prop} {c : List PanicEntry} {a : Act} {w : World} (h : NormalOnly K (.panic c) a w) : False := by cases h.1
theorem not_letsOut (K : Act → World → Prop) : ¬ LetsOut (NormalOnly K) := fun ⟨_, _, h, _⟩ => by cases h
theorem oper_round {o : Oper} {a : Act} {w : World} {K X : Act → World → Prop} (hd : ∀ c, o.op ≠ .defer c) (h : Oper.wp P o a w K (NormalOnly X)) : Oper.wpIn (Fence.wide.inRound l) n P o a w K (NormalOnly X) := by
  refine ⟨fun _ _ => trivial, ?_⟩
  rw [Oper.semAt_eq _ _ _ hd]
  unfold Oper.wp at h
  generalize (execOp a.eval o).run P w = r at *
  cases r with
  | ok x w' =>
    cases x <;> simp only [Oper.upon] at h <;> simp only [Oper.uponIn]
    case value v => exact h
    case skip => exact h
    case defer d => exact h
    case enter f args => exact ⟨fun hh => absurd hh (by simp [Fence.wide]), CallsIn.inRound l (callsIn_wide.2 h)⟩
    case row r args =>
      refine ⟨fun hh => absurd hh (by simp [Fence.wide]), fun c cs _ => ?_⟩
      obtain ⟨v, w', hr, s⟩ := h c cs
      exact ⟨v, w', hr, stepsIn_wide.2 s⟩
  | halt x w' => cases x <;> simp only [Oper.upon] at h <;> simp only [Oper.uponIn] <;> exact h
/-- no operation defers a call -/
def noDefer (ops : Array Oper) : Bool := ops.all fun o => match o.op with | .defer _ => false | _ => true
theorem noDefer_at (h : noDefer ops = true) {i : Nat} {o : Oper} (ho : ops[i]? = some o) : ∀ c, o.op ≠ .defer c := by
  intro c hc
  have := Array.all_eq_true_iff_forall_mem.1 h o (Array.mem_of_getElem? ho)
  simp [hc] at this
theorem any_round {X : Act → World → Prop} (hn : noDefer ops = true) : ∀ (fuel : Nat) (listed : Array Bool) (a : Act) (w : World), wpAny P md ops (NormalOnly X) fuel listed a w → wpAnyIn (Fence.wide.inRound l) n P md ops (NormalOnly X) fuel listed a w
  | 0, _, _, _, h => h
  | fuel + 1, listed, a, w, h => ⟨h.1, fun i hi => by
    have h1 := h.2 i hi
    unfold wpOp at h1
    unfold wpOpIn
    cases ho : ops[i]? with
    | none => simp only [ho] at h1 ⊢; exact any_round hn fuel _ a w h1
    | some o =>
      simp only [ho] at h1 ⊢
      by_cases hw : Region.wanted o (yielded ops a.tmps) = true
      · rw [if_pos hw] at h1 ⊢
        rcases h1 with h1 | ⟨_, h1⟩
        · exact Oper.wpIn_mono (fun a' w' h' => any_round hn fuel _ a' w' h') (oper_round (noDefer_at hn ho) h1)
        · exact absurd h1 (not_letsOut X)
      · rw [if_neg hw] at h1 ⊢
        exact ⟨fun _ _ => trivial, any_round hn fuel _ _ w h1⟩⟩
/-- an operation is taken first; its slot is given -/
theorem take_at {Q : Exit → Act → World → Prop} {S : World → Prop} {i d : Nat} {oi : Oper} {v : Value} {fuel : Nat} {listed : Array Bool} {tmps : Array Value} {ds : List Deferred} {w : World} (hi : ops[i]? = some oi) (hd : oi.dst = some d)
    (hs : Region.noSelect ops = true) (hf : Region.free md ops listed i = true) (hr : (Region.ready md ops listed).contains i = true)
    (hQ : ∀ c a a' w, Q (.panic c) a w → Q (.panic c) a' w) (hw : Region.wanted oi (yielded ops tmps) = true) (hy : ∀ w, S w → (execOp (Act.eval { tmps := tmps, defers := ds }) oi).run P w = .ok (.value v) w) (hS : S w)
    (h : wpAnyH P md ops Q S fuel (listed.setIfInBounds i true) { tmps := tmps.setIfInBounds d v, defers := ds } w) : wpAnyH P md ops Q S (fuel + 1) listed { tmps := tmps, defers := ds } w :=
  wpAnyH_take hi hs hf hr (fun c a w => hQ c _ _ w) (.inl ⟨hw, hy⟩) hS (by rw [hd]; exact h)
theorem NormalOnly.any {K : Act → World → Prop} {c : List PanicEntry} {a a' : Act} {w : World} (h : NormalOnly K (.panic c) a w) : NormalOnly K (.panic c) a' w := h.panic.elim
/-- a region that draws, inside a round: a condition S on the worlds holds behind each operation -/
theorem region_round {Q : Exit → Act → World → Prop} {id : Nat} {a : Act} {w : World} (S : World → Prop) (hm : P.follows .mixedOrders = true) (hn : noDefer ops = true)
    (h : wpAnyH P .any ops (NormalOnly fun a w => Q .normal a w) S ops.size (Array.replicate ops.size false) a w.drew) : (Code.region id ops true).wpIn (Fence.wide.inRound l) n P Q a w := by
  refine wpIn_mono (wpIn_region_any hm (any_round hn _ _ _ _ (wpAny_of_held _ _ _ _ h))) ?_
  rintro e a w ⟨rfl, h⟩
  exact h
/-- the same outside of rounds -/
theorem region_wide {Q : Exit → Act → World → Prop} {id : Nat} {a : Act} {w : World} (S : World → Prop) (hm : P.follows .mixedOrders = true)
    (h : wpAnyH P .any ops (NormalOnly fun a w => Q .normal a w) S ops.size (Array.replicate ops.size false) a w.drew) : (Code.region id ops true).wpIn Fence.wide n P Q a w := by
  refine wpIn_wide.2 (wp_mono (wp_region_held hm h) ?_)
  rintro e a w ⟨rfl, h⟩
  exact h
theorem region_plain {Q : Exit → Act → World → Prop} {id : Nat} {a : Act} {w : World} (S : World → Prop) (hm : P.follows .mixedOrders = true)
    (h : wpAnyH P .any ops (NormalOnly fun a w => Q .normal a w) S ops.size (Array.replicate ops.size false) a w.drew) : (Code.region id ops true).wp P Q a w := by
  refine wp_mono (wp_region_held hm h) ?_
  rintro e a w ⟨rfl, h⟩
  exact h
end
end Go.Proofs.YtpbgophogneecaaGreat

/- A slice of slices that grow by append: all rows are the call's own, and no two lie in one block. No conditions. -/
namespace Go.Proofs.YtpbgophogneecaaGreat
open Go.RowKit

/-- block eb holds n slices; the i-th one holds the elements R i, in a row of the call's own -/
structure OwnRows {α : Type} (st e : TypeId) (size : Nat) (enc : α → List Value) (base eb n : Nat) (R : Nat → List α) (w : World) : Prop where
  lo : base ≤ eb
  ne : st ≠ e
  ex : ∃ V : Nat → Value, w.rowIs eb st n V ∧ (∀ i, i < n → w.ownsRow base e size (V i) (R i).length ((R i).flatMap enc)) ∧ ∀ i j g, i < n → j < n → i ≠ j → (V i).ownBlock = some g → (V j).ownBlock ≠ some g
section
variable {α : Type} {st e : TypeId} {size base eb n : Nat} {enc : α → List Value} {R R' : Nat → List α} {w w' : World}
theorem OwnRows.start (st e : TypeId) (size : Nat) (enc : α → List Value) (base n : Nat) (w : World) (hb : base ≤ w.heap.size) (hne : st ≠ e) : OwnRows st e size enc base w.heap.size n (fun _ => []) (w.alloc (.cells (madeCells #[.slice none 0 0] n) st)) :=
  ⟨hb, hne, fun _ => .slice none 0 0, World.rowIs_made w (.slice none 0 0) n st, fun i _ => World.ownsRow_nil _ _ _ _, fun i j g _ _ _ h => by cases h⟩
theorem OwnRows.lt (h : OwnRows st e size enc base eb n R w) : eb < w.heap.size := by obtain ⟨V, h1, _⟩ := h.ex; exact h1.lt
theorem OwnRows.congr (h : OwnRows st e size enc base eb n R w) (hr : ∀ i, i < n → R i = R' i) : OwnRows st e size enc base eb n R' w := by
  obtain ⟨V, h1, h2, h3⟩ := h.ex
  exact ⟨h.lo, h.ne, V, h1, fun i hi => by rw [← hr i hi]; exact h2 i hi, h3⟩
theorem OwnRows.below (h : OwnRows st e size enc base eb n R w) (hb : Below w.heap.size w w') : OwnRows st e size enc base eb n R w' := by
  obtain ⟨V, h1, h2, h3⟩ := h.ex
  exact ⟨h.lo, h.ne, V, h1.of_block (hb.block eb h1.lt), fun i hi => ownsRow_below (h2 i hi) hb, h3⟩
/-- a step that turns no cells but one block, which is none of these -/
theorem OwnRows.kept {row : Option Nat} (h : OwnRows st e size enc base eb n R w) (hg : w.grownBy w' row) (hr : ∀ r, row = some r → r ≠ eb ∧ ∀ c fz, w.heap[r]? ≠ some (.cells c e fz)) : OwnRows st e size enc base eb n R w' := by
  obtain ⟨V, h1, h2, h3⟩ := h.ex
  refine ⟨h.lo, h.ne, V, h1.of_block (hg.block eb h1.lt (fun c => (hr _ c.symm).1 rfl)), fun i hi => (h2 i hi).kept hg ?_, h3⟩
  rcases (h2 i hi).2 with ⟨e1, _⟩ | ⟨g, cap, cur, e1, _, e3, _⟩
  · exact .inl (by rw [e1]; rfl)
  · refine .inr fun c => ?_
    rw [e1] at c
    exact (hr g c.symm).2 _ _ e3
theorem OwnRows.own (h : OwnRows st e size enc base eb n R w) {row : Option Nat} (hg : w.grownBy w' row) (hr : ∀ r, row = some r → ∃ o : Obj, w.heap[r]? = some o ∧ o.isCells = false) : OwnRows st e size enc base eb n R w' :=
  h.kept hg fun r hrr => by
    obtain ⟨o, ho, hc⟩ := hr r hrr
    refine ⟨fun c => ?_, fun c fz hh => ?_⟩
    · obtain ⟨V, ⟨c', h1, _⟩, _⟩ := h.ex
      rw [c, h1] at ho; cases ho; cases hc
    · rw [hh] at ho; cases ho; cases hc
theorem OwnRows.at (h : OwnRows st e size enc base eb n R w) {i : Nat} (hi : i < n) : ∃ v, w.cell? ⟨eb, i, none⟩ = some v ∧ w.frozen? ⟨eb, i, none⟩ = false ∧ w.ownsRow base e size v (R i).length ((R i).flatMap enc) := by
  obtain ⟨V, h1, h2, _⟩ := h.ex
  exact ⟨V i, h1.cell hi, h1.frozen i, h2 i hi⟩
/-- row i is longer by one element -/
theorem OwnRows.push {i : Nat} {v v' : Value} {w1 : World} {x : α} {g cap : Nat} (h : OwnRows st e size enc base eb n R w) (hi : i < n) (hv : w.cell? ⟨eb, i, none⟩ = some v)
    (hown : w1.ownsRow base e size v' ((R i).length + 1) ((R i).flatMap enc ++ enc x)) (hv' : v' = .slice (some ⟨g, 0, none⟩) ((R i).length + 1 : Nat) cap) (hg : w.grownBy w1 v.ownBlock) (hm : Moved w v g) :
    OwnRows st e size enc base eb n (fun j => if j = i then R i ++ [x] else R j) (w1.setCell ⟨eb, i, none⟩ v') := by
  obtain ⟨V, h1, h2, h3⟩ := h.ex
  obtain rfl : V i = v := Option.some.inj ((h1.cell hi).symm.trans hv)
  have hne : ∀ j, j < n → (V j).ownBlock ≠ some eb := fun j hj c => by
    rcases (h2 j hj).2 with ⟨e1, _⟩ | ⟨g, cap, cur, e1, _, e3, _⟩
    · rw [e1] at c; cases c
    · rw [e1] at c
      have c : g = eb := Option.some.inj c
      subst c
      obtain ⟨c', k1, _⟩ := h1
      rw [k1] at e3
      simp at e3
      exact h.ne e3.2
  have h1' : w1.rowIs eb st n V := h1.of_block (hg.block eb h1.lt (fun c => hne i hi c.symm))
  have hge : g ≠ eb := by
    rcases hm with c | c
    · intro e; exact hne i hi (by rw [c, e])
    · have := h1.lt; omega
  have hnew : ∀ j, j < n → j ≠ i → (V j).ownBlock ≠ some g := fun j hj hji c => by
    rcases hm with d | d
    · exact h3 i j g hi hj (fun e => hji e.symm) d c
    · have := (h2 j hj).lt g c; omega
  refine ⟨h.lo, h.ne, fun j => if j = i then v' else V j, h1'.set i v', fun j hj => ?_, fun j k g' hj hk hjk hb => ?_⟩
  · by_cases hji : j = i
    · subst hji
      simp only [if_true]
      rw [List.length_append, List.length_singleton, List.flatMap_append, List.flatMap_singleton]
      subst hv'
      exact ⟨hown.1, .inr (by
        rcases hown.2 with ⟨c, _⟩ | ⟨g0, cap0, cur, c1, c2, c3, c4⟩
        · cases c
        · cases c1
          exact ⟨g, cap, cur, rfl, c2, (Below.heap_setCell _ _ _ _ hge).trans c3, c4⟩)⟩
    · simp only [if_neg hji]
      have h4 : w1.ownsRow base e size (V j) (R j).length ((R j).flatMap enc) := (h2 j hj).kept hg (by
        cases hc : (V j).ownBlock with
        | none => exact .inl rfl
        | some b => exact .inr (fun c => h3 j i b hj hi hji hc c.symm))
      exact ⟨h4.1, by
        rcases h4.2 with c | ⟨g0, cap0, cur, c1, c2, c3, c4⟩
        · exact .inl c
        · refine .inr ⟨g0, cap0, cur, c1, c2, (Below.heap_setCell _ _ _ _ (fun c => hne j hj (by rw [c1, c]; rfl))).trans c3, c4⟩⟩
  · by_cases hji : j = i
    · subst hji
      simp only [if_true] at hb
      rw [hv'] at hb
      have hb : g = g' := Option.some.inj hb
      subst hb
      simp only [if_neg (show ¬ k = j from fun c => hjk c.symm)]
      exact hnew k hk (fun c => hjk c.symm)
    · simp only [if_neg hji] at hb
      by_cases hki : k = i
      · subst hki
        simp only [if_true]
        rw [hv']
        intro c
        have c : g = g' := Option.some.inj c
        exact hnew j hj hji (by rw [c]; exact hb)
      · simp only [if_neg hki]
        exact h3 j k g' hj hk hjk hb
end
/-- one number as cells -/
def encI (x : Int) : List Value := [.int .i64 x]
theorem encI_map (l : List Int) : l.flatMap encI = l.map (Value.int .i64) := by
  induction l with
  | nil => rfl
  | cons a t ih => rw [List.flatMap_cons, ih]; rfl

/-- one element is appended to a row that the call owns: as a step of a region that draws -/
theorem step_pushM {P : Program} {ops : Array Oper} {o : Oper} {a : Act} {K : Act → World → Prop} {Q : Exit → Act → World → Prop} {X : Prop} {w0 : World} {t e : TypeId} {size bytes : Nat} (hP : P = Tryz.prog) (E : ET t e size bytes) (hgd : o.guard = none) (s x : Operand)
    (ho : o.op = .call { callee := .builtin .append, args := #[s, x], argTypes := #[t, t] }) (base : Nat) (v : Value) (n : Nat) (xs : List Value) (hown : w0.ownsRow base e size v n xs) (hs : a.eval s = v)
    (news : Array Value) (N : Nat) (hx : a.eval x = .slice (some ⟨N, 0, none⟩) 1 1) (hN : w0.heap.size = N) (hsz : news.size = size) (h1 : ∀ u ∈ news.toList, u.oneCell' = true)
    (hn : (n + 1) * bytes ≤ 140737488355328) (hm : n + 1 ≤ 9223372036854775807) (hbase : base ≤ w0.heap.size)
    (h : ∀ (g cap : Nat) (w1 : World), w1.ownsRow base e size (.slice (some ⟨g, 0, none⟩) (n + 1 : Nat) cap) (n + 1) (xs ++ news.toList) → w0.grownBy w1 v.ownBlock → Moved w0 v g →
      K (a.put o.dst (.slice (some ⟨g, 0, none⟩) (n + 1 : Nat) cap)) w1) :
    if Region.wanted o (yielded ops a.tmps) = true then Oper.wp P o a (w0.alloc (.cells news e)) K Q else X := by
  subst hP
  have hw : Region.wanted o (yielded ops a.tmps) = true := by simp [Region.wanted, hgd]
  rw [if_pos hw]
  subst hN
  obtain ⟨i, z, hi, hz, h2, h3, h4⟩ := E.info
  obtain ⟨v', w', hr, k2, k3, k4, k5⟩ := run_append_own_at (P := Tryz.prog) (w0.alloc (.cells news e)) base t o.type e i z size bytes E.ht hi hz h2 h3 h4 E.pos v n xs (hown.alloc _) ⟨w0.heap.size, 0, none⟩ 1 1 news.toList (by simp [hsz]) (by
    intro j u hu
    rw [add_mk, Nat.zero_add]
    have := heap_alloc_new w0 (.cells news e)
    simp only [World.cell?, this, Option.isSome_none, Bool.false_eq_true, if_false]
    rw [Array.getElem?_toList] at hu; exact hu) h1 (by unfold maxLen; omega) hn (by simp; omega)
  unfold Oper.wp execOp
  simp only [ho, resolve, invoke, builtin, Sem.run_bind, Sem.run_pure, Result.andThen_ok, List.map_toArray, List.map_cons, List.map_nil, hs, hx, hr]
  rcases k2.2 with ⟨_, h0⟩ | ⟨g, cap, cur, rfl, r⟩
  · omega
  · refine h g cap w' k2 (grownBy_of_alloc k3) ?_
    rcases k5 with hv | hv
    · exact .inl hv.symm
    · right
      simp only [Value.ownBlock, Option.some.injEq, World.size_alloc] at hv
      omega
/-- what lies in no block of cells lies on behind an append -/
theorem grown_others {w w1 : World} {base n size : Nat} {e : TypeId} {v : Value} {xs : List Value} (hown : w.ownsRow base e size v n xs) (hg : w.grownBy w1 v.ownBlock) {k : Nat} {o : Obj} (hk : w.heap[k]? = some o) (ho : o.isCells = false) : w1.heap[k]? = some o := by
  refine (hg.block k (Array.getElem?_eq_some_iff.1 hk).1 (fun c => ?_)).trans hk
  rcases hown.2 with ⟨e1, _⟩ | ⟨g, cap, cur, e1, _, e3, _⟩
  · rw [e1] at c; cases c
  · rw [e1] at c
    have c : k = g := Option.some.inj c
    subst c
    rw [hk] at e3; cases e3; cases ho
/-- a store elsewhere leaves a box as it lay -/
theorem box_far {w : World} {b : Nat} {t : TypeId} {u : Value} (h : Boxed w b t u) {a : Addr} (hne : b ≠ a.block) (v : Value) : Boxed (w.setCell a v) b t u := (Below.heap_setCell _ _ _ _ hne).trans h
/-- a box lies on behind an append to another block -/
theorem grown_box {w w1 : World} {v : Value} {b : Nat} {t : TypeId} {u : Value} (hg : w.grownBy w1 v.ownBlock) (hb : Boxed w b t u) (hne : v.ownBlock ≠ some b) : Boxed w1 b t u := hb.kept hg fun c => hne c.symm
end Go.Proofs.YtpbgophogneecaaGreat

/- Slices of indexes that a call owns: reading them, writing one cell. No conditions. -/
namespace Go.Proofs.YtpbgophogneecaaGreat
open Go.RowKit

/-- indexes as Go's numbers -/
def intsN (l : List Nat) : List Int := l.map fun (x : Nat) => (x : Int)
theorem intsN_len (l : List Nat) : (intsN l).length = l.length := by simp [intsN]
theorem intsN_snoc (l : List Nat) (i : Nat) : intsN (l ++ [i]) = intsN l ++ [(i : Int)] := by simp [intsN]
theorem intsN_nth {l : List Nat} {i : Nat} : nth (intsN l) i = ((l.getD i 0 : Nat) : Int) := by
  unfold nth intsN
  rw [List.getD_eq_getElem?_getD, List.getD_eq_getElem?_getD, List.getElem?_map]
  cases l[i]? <;> rfl
/-- a slice of indexes that the call owns -/
def OwnI (base : Nat) (v : Value) (l : List Nat) (w : World) : Prop := w.ownsRow base 3 1 v l.length ((intsN l).map (Value.int .i64))
theorem take_snocN {l : List Nat} {k : Nat} (h : k < l.length) : l.take (k + 1) = l.take k ++ [l.getD k 0] := by
  rw [List.take_succ_eq_append_getElem h]; simp [List.getD, h]
theorem ownI_rd {w : World} {base : Nat} {v : Value} {l : List Nat} (h : OwnI base v l w) : ∃ a cap A, v = .slice a l.length cap ∧ Rd 46 1 w w.heap.size (.slice a l.length cap) l.length (nums .i64 (intsN l)) A := by
  have h1 : w.ownsRow base 3 1 v l.length (flat (nums .i64 (intsN l)) l.length 1) := by
    have := flat_nums .i64 (intsN l)
    rw [intsN_len] at this
    rw [this]; exact h
  obtain ⟨a, cap, A, rfl, h2⟩ := Rd.own etI h1
  exact ⟨a, cap, A, rfl, h2⟩
theorem ownI_below {w w' : World} {base : Nat} {v : Value} {l : List Nat} (h : OwnI base v l w) (hb : Below w.heap.size w w') : OwnI base v l w' := ownsRow_below h hb
/-- one cell of an owned row is written -/
theorem own_set {w : World} {base n cap g i : Nat} {e : TypeId} {xs : List Value} (h : w.ownsRow base e 1 (.slice (some ⟨g, 0, none⟩) n cap) n xs) (u : Value) : (w.setCell ⟨g, i, none⟩ u).ownsRow base e 1 (.slice (some ⟨g, 0, none⟩) n cap) n (xs.set i u) := by
  refine ⟨by rw [List.length_set]; exact h.1, ?_⟩
  rcases h.2 with ⟨h0, _⟩ | ⟨g', cap', cur, h1, hb, hg, hn, hm, hs, ht⟩
  · cases h0
  · cases h1
    refine .inr ⟨g, cap, cur.setIfInBounds i u, rfl, hb, ?_, hn, hm, by simpa using hs, ?_⟩
    · simp [World.setCell, Array.getElem?_modify, hg]
    · rw [Array.toList_setIfInBounds, List.take_set, ht]
theorem own_cell {w : World} {base n cap g i : Nat} {e : TypeId} {xs : List Value} {u : Value} (h : w.ownsRow base e 1 (.slice (some ⟨g, 0, none⟩) n cap) n xs) (hu : xs[i]? = some u) : w.cell? ⟨g, i, none⟩ = some u ∧ w.frozen? ⟨g, i, none⟩ = false := by
  have hi : i < n := by have := (List.getElem?_eq_some_iff.1 hu).1; have := h.1; omega
  have r := Row.owned h
  refine ⟨?_, r.frozen i⟩
  rw [r.cell hi]
  simp [List.getD, hu]
theorem intsN_at {l : List Nat} {i : Nat} (h : i < l.length) : ((intsN l).map (Value.int .i64))[i]? = some (.int .i64 ((l.getD i 0 : Nat) : Int)) := by
  simp [intsN, List.getD, h]
theorem intsN_set (l : List Nat) (i x : Nat) : ((intsN l).map (Value.int .i64)).set i (.int .i64 (x : Nat)) = (intsN (l.set i x)).map (Value.int .i64) := by
  simp [intsN, List.map_set]
end Go.Proofs.YtpbgophogneecaaGreat

/- Edges that a call owns; a copy onto nil. No conditions. -/
namespace Go.Proofs.YtpbgophogneecaaGreat
open Go.RowKit

theorem flat_snoc (T : List Ed) (x : Ed) : flat (edC (T ++ [x])) (T ++ [x]).length 3 = flat (edC T) T.length 3 ++ #[Value.int .i64 x.u, .int .i64 x.v, .int .i64 x.w].toList := by
  have e1 : ∀ i, i < T.length → eAt (T ++ [x]) i = eAt T i := fun i hi => by rw [eAt_eq (by simp; omega), eAt_eq hi, List.getElem_append_left hi]
  have e2 : eAt (T ++ [x]) T.length = x := by rw [eAt_eq (by simp)]; simp
  rw [List.length_append, List.length_singleton, flat_succ]
  congr 1
  · refine flat_congr fun i hi j _ => ?_
    unfold edC; rw [e1 i hi]
  · simp [List.range_succ, edC, e2]
/-- edges that the call owns -/
def OwnE (base : Nat) (v : Value) (T : List Ed) (w : World) : Prop := w.ownsRow base 45 3 v T.length (flat (edC T) T.length 3)
theorem OwnE.nil (base : Nat) (w : World) : OwnE base (.slice none 0 0) [] w := World.ownsRow_nil _ _ _ _
theorem OwnE.snoc {base g cp : Nat} {T : List Ed} {x : Ed} {w : World} (h : w.ownsRow base 45 3 (.slice (some ⟨g, 0, none⟩) (T.length + 1 : Nat) cp) (T.length + 1) (flat (edC T) T.length 3 ++ #[Value.int .i64 x.u, .int .i64 x.v, .int .i64 x.w].toList)) :
    OwnE base (.slice (some ⟨g, 0, none⟩) (T.length + 1 : Nat) cp) (T ++ [x]) w := by
  rw [OwnE, flat_snoc, List.length_append, List.length_singleton]; exact h
theorem OwnE.rd {base : Nat} {v : Value} {T : List Ed} {w : World} (h : OwnE base v T w) : ∃ a cap A, v = .slice a T.length cap ∧ ES w w.heap.size (.slice a T.length cap) T A := by
  obtain ⟨a, cap, A, rfl, h2⟩ := Rd.own etE h
  exact ⟨a, cap, A, rfl, h2⟩
theorem OwnE.below {base : Nat} {v : Value} {T : List Ed} {w w' : World} (h : OwnE base v T w) (hb : Below w.heap.size w w') : OwnE base v T w' := ownsRow_below h hb
theorem OwnE.lower {base base' : Nat} {v : Value} {T : List Ed} {w : World} (h : OwnE base v T w) (hb : base' ≤ base) : OwnE base' v T w :=
  ⟨h.1, h.2.imp id (by rintro ⟨g, cap, cur, e1, e2, e3⟩; exact ⟨g, cap, cur, e1, by omega, e3⟩)⟩
theorem OwnI.lower {base base' : Nat} {v : Value} {l : List Nat} {w : World} (h : OwnI base v l w) (hb : base' ≤ base) : OwnI base' v l w :=
  ⟨h.1, h.2.imp id (by rintro ⟨g, cap, cur, e1, e2, e3⟩; exact ⟨g, cap, cur, e1, by omega, e3⟩)⟩
/-- nothing is appended to nil -/
theorem run_append_nil_nothing {t e : TypeId} {size bytes : Nat} (E : ET t e size bytes) (ty : TypeId) (ax : Option Addr) (c : Nat) (w : World) :
    (Builtin.append_ #[t, t] ty #[.slice none 0 0, .slice ax 0 c]).run Tryz.prog w = .ok (.slice none 0 0) w := by
  obtain ⟨i, z, hi, hz, h2, h3, h4⟩ := E.info
  cases ax with
  | none => simp [Builtin.append_, run_underlying E.ht, sizeOf, typeInfo, hi, Builtin.lenOf, Builtin.firstCells]
  | some a => simp [Builtin.append_, run_underlying E.ht, sizeOf, typeInfo, hi, Builtin.lenOf, Builtin.firstCells, loadCells, loadCellsFrom]
/-- a copy of any slice: the elements, appended to nil -/
theorem copiedNil {ops : Array Oper} {rest : List Oper} {o : Oper} {a : Act} {Q : Exit → Act → World → Prop} {w0 : World} {t e : TypeId} {size bytes : Nat} {f : Nat → Nat → Value} (E : ET t e size bytes) (hgd : o.guard = none) (s x : Operand)
    (ho : o.op = .call { callee := .builtin .append, args := #[s, x], argTypes := #[t, t] }) {ax : Option Addr} {m c B : Nat} {A : Nat → Addr} (hS : Rd t size w0 B (.slice ax m c) m f A) (hf : ∀ i, i < m → ∀ j, j < size → (f i j).oneCell' = true)
    (hs : a.eval s = .slice none 0 0) (hx : a.eval x = .slice ax m c) (h63 : m ≤ 9223372036854775807) (hbytes : m * bytes ≤ 140737488355328)
    (h : ∀ (v : Value) (w1 : World), w1.ownsRow w0.heap.size e size v m (flat f m size) → Below w0.heap.size w0 w1 →
      wpList Tryz.prog ops Q rest (a.put o.dst v) w1) : wpList Tryz.prog ops Q (o :: rest) a w0 := by
  have hown : w0.ownsRow w0.heap.size e size (.slice none 0 0) 0 [] := World.ownsRow_nil _ _ _ _
  by_cases hm : m = 0
  · subst hm
    refine wpList_plain hgd fun K hK => ?_
    have hr := run_append_nil_nothing E o.type ax c w0
    unfold Oper.wp execOp
    simp only [ho, resolve, invoke, builtin, Sem.run_bind, Sem.run_pure, Result.andThen_ok, List.map_toArray, List.map_cons, List.map_nil, hs, hx, hr]
    exact hK _ _ (h (.slice none 0 0) _ hown (Below.refl _ _))
  · obtain ⟨i, z, hi, hz, h2, h3, h4⟩ := E.info
    obtain ⟨ad, rfl, hlt, _, hce⟩ := hS.view E (by omega)
    refine wpList_append_own_at _ hgd s x t ho w0.heap.size e i z size bytes E.ht hi hz h2 h3 h4 E.pos _ 0 _ hs hown ad m c (flat f m size) hx (flat_len _ _ _) ?_ ?_ (by unfold maxLen; omega) (by rw [Nat.zero_add]; exact hbytes) (Nat.le_refl _) ?_
    · intro q u hu
      have hq := (List.getElem?_eq_some_iff.1 hu).1
      rw [flat_len] at hq
      obtain ⟨x, y, hx, hy, rfl⟩ := div_mod_of hq
      rw [flat_at hx hy] at hu
      cases hu
      exact hce x hx y hy
    · intro u hu
      obtain ⟨q, hq, rfl⟩ := List.mem_iff_getElem.1 hu
      rw [flat_len] at hq
      obtain ⟨x, y, hx, hy, rfl⟩ := div_mod_of hq
      have := flat_at (f := f) hx hy
      rw [List.getElem?_eq_getElem (by rw [flat_len]; exact hq)] at this
      rw [Option.some.inj this]; exact hf x hx y hy
    · intro v' w1 hown' hg _ _
      simp only [Nat.zero_add, List.nil_append] at hown'
      exact h v' w1 hown' ((Below.refl w0.heap.size w0).grown hg (Nat.le_refl _) (fun j hj => by cases hj))
end Go.Proofs.YtpbgophogneecaaGreat
