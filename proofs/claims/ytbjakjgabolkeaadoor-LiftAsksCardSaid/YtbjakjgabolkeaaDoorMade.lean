/- The walks of grown and made of the law: a forest out of a list of bytes, and its table. Conditions: the bytes are given as cells; the library's table of de Bruijn is as its initialiser lays it. -/
import Derived.Test.YtbjakjgabolkeaaDoorWorks
namespace Go.Proofs.YtbjakjgabolkeaaDoor
open Go.RowKit Go.Shelf

theorem add_block (a : Addr) (i : Nat) : (a.add i).block = a.block := by unfold Addr.add; split <;> rfl
theorem Tryd.info5 : (Tryd.prog.info? 5).map (fun i => (i.zero, i.size, i.bytes)) = some (some (.int .u8 0), 1, 1) := by kernel_rfl
theorem Tryd.info2 : (Tryd.prog.info? 2).map (fun i => (i.zero, i.size, i.bytes)) = some (some (.int .i64 0), 1, 8) := by kernel_rfl
theorem et22 : ET 22 5 1 1 := ET.of Tryd.underlying22 Tryd.info5 rfl (by decide)
theorem et40 : ET 40 2 1 8 := ET.of Tryd.underlying40 Tryd.info2 rfl (by decide)
theorem ET.size {t e : TypeId} {size bytes : Nat} (E : ET t e size bytes) (w : World) : (sizeOf e).run Tryd.prog w = .ok size w := by
  obtain ⟨i, z, hi, _, h2, _⟩ := E.info
  simp [sizeOf, typeInfo, hi, h2]
theorem Sl.addr {t e : TypeId} {by' : Nat} {k : IntKind} {w : World} {B cap n : Nat} {a : Addr} {l : List Int} (E : ET t e 1 by') (hn : l.length = n) (hb : a.block < B) (hc : ∀ i, i < l.length → w.cell? (a.add i) = .some (.int k (nth l i))) :
    Sl t k w B (.slice (.some a) n cap) l (fun i => a.add i) where
  ix := fun i hi w' => by
    have h1 : (0 : Int) ≤ (i : Int) ∧ (i : Int) < (n : Int) := by omega
    have he : Tryd.prog.elem t = e := by simp [Program.elem, E.ht]
    rw [run_indexAt_slice w' t a n cap .i64 i (by rw [E.ht, he]), if_pos h1, he, E.size]
    simp [Result.andThen]
  lt := fun i _ => by rw [add_block]; exact hb
  cell := hc
theorem Sl.nil {t : TypeId} {k : IntKind} {w : World} {B : Nat} {v : Value} (A : Nat → Addr) : Sl t k w B v [] A where
  ix := fun i hi => absurd hi (by simp)
  lt := fun i hi => absurd hi (by simp)
  cell := fun i hi => absurd hi (by simp)
/-- a row that the call owns, as a slice that is read -/
theorem Sl.own {t e : TypeId} {by' : Nat} {k : IntKind} {w : World} {base n : Nat} {v : Value} {l : List Int} (E : ET t e 1 by') (h : w.ownsRow base e 1 v n (l.map (Value.int k))) :
    l.length = n ∧ ∃ a cap A, v = .slice a n cap ∧ Sl t k w w.heap.size v l A := by
  have hl : l.length = n := by simpa using h.1
  refine ⟨hl, ?_⟩
  rcases h.2 with ⟨rfl, h0⟩ | ⟨g, cap, cur, rfl, hb, hg, hn, hm, hs, ht⟩
  · subst h0
    have : l = [] := List.eq_nil_of_length_eq_zero hl
    subst this
    exact ⟨_, _, fun _ => ⟨0, 0, none⟩, rfl, Sl.nil _⟩
  · refine ⟨_, _, _, rfl, Sl.addr E hl (Array.getElem?_eq_some_iff.1 hg).1 (fun i hi => ?_)⟩
    have := h.cells (g := g) rfl i (.int k (nth l i)) (by simp [nth, hi])
    exact this
/-- the first m elements of a slice -/
theorem run_slice_to {t e : TypeId} {size bytes : Nat} (E : ET t e size bytes) (a : Option Addr) (n cap m : Nat) (k : IntKind) (hm : m ≤ cap) (w : World) :
    (Instr.slice t (.slice a n cap) none (some (.int k (m : Int))) none).run Tryd.prog w = .ok (.slice a m cap) w := by
  simp [Instr.slice, run_underlying E.ht, Instr.sliceBounds, Instr.sliceBound, asIntOf, E.size, go_sem]
  omega

/-- the parents that grown makes out of bytes -/
def grownL (L : List Int) : List Int := (List.range L.length).map fun i => nth L i % ((i : Int) + 1) - 1
def grownTo (L : List Int) (k : Nat) : List Int := (List.range k).map fun i => nth L i % ((i : Int) + 1) - 1
theorem grownTo_succ (L : List Int) (k : Nat) : grownTo L (k + 1) = grownTo L k ++ [nth L k % ((k : Int) + 1) - 1] := by
  simp [grownTo, List.range_succ]
theorem grownTo_len (L : List Int) (k : Nat) : (grownTo L k).length = k := by simp [grownTo]

/-- a slice that the call owns, and what it holds -/
def OwnPost (base : Nat) (l : List Int) (w : World) (e : Ending) (w' : World) : Prop := ∃ v, e = .returned v ∧ w'.ownsRow base 3 1 v l.length (l.map (Value.int .i64)) ∧ Below w.heap.size w w'

set_option maxHeartbeats 1000000 in
theorem grown_any (B : Nat) (a : Option Addr) (cap : Nat) (A : Nat → Addr) (L : List Int) (w : World) (hS : Sl 22 .u8 w B (.slice a L.length cap) L A) (hB : B ≤ w.heap.size) (hl : L.length ≤ 1000000) (hb : ∀ i, i < L.length → 0 ≤ nth L i ∧ nth L i ≤ 255) :
    Calls Tryd.prog 23 #[.slice a L.length cap] w (OwnPost w.heap.size (grownL L) w) := by
  go_enter Tryd.func23, Tryd.ntmps23
  go_wp2
  go_loopw [3, 4] (fun v i wr => ∃ k : Nat, k ≤ L.length ∧ i = .int .i64 k ∧ wr.ownsRow w.heap.size 3 1 v k ((grownTo L k).map (Value.int .i64)) ∧ Below w.heap.size w wr) (fun _ i _ => L.length - (intOf i).toNat)
  case atStart => exact ⟨0, Nat.zero_le _, rfl, World.ownsRow_nil _ _ _ _, Below.refl _ _⟩
  case round =>
    obtain ⟨k, hk, rfl, hown, hBr⟩ := hrel
    by_cases hlt : k < L.length
    · have hix := hS.ix k hlt
      have hc := (hS.below (hBr.mono hB)).cell k hlt
      obtain ⟨hb1, hb2⟩ := hb k hlt
      have HG := Lib.hid (grownTo_succ L k)
      have hr1 : 0 ≤ nth L k % ((k : Int) + 1) := Int.emod_nonneg _ (by omega)
      have hr2 : nth L k % ((k : Int) + 1) ≤ 255 := by
        by_cases h : nth L k < (k : Int) + 1
        · rw [Int.emod_eq_of_lt hb1 h]; exact hb2
        · have := Int.emod_lt_of_pos (nth L k) (show (0 : Int) < (k : Int) + 1 by omega); omega
      go_wp2_with (at_builtin; refine push et25 rfl _ _ rfl w.heap.size _ _ _ hown rfl #[.int .i64 (nth L k % ((k : Int) + 1) - 1)] _ rfl rfl rfl (by simp [Value.oneCell']) (by omega) (by omega) (by have := hBr.size; omega) ?_; intro g cp w1 hown1 hg1 hv1)
      go_roundw
      case rel =>
        refine ⟨k + 1, by omega, by go_num, ?_, hBr.grown hg1 hBr.size (fun j e => (hown.lt j e).1)⟩
        rw [HG.out, List.map_append]; exact hown1
      case measure => simp [intOf]; omega
    · obtain rfl : k = L.length := by omega
      go_wp2
      go_ret
      exact ⟨_, rfl, by rw [show (grownL L).length = L.length from by simp [grownL]]; exact hown, hBr⟩
end Go.Proofs.YtbjakjgabolkeaaDoor
