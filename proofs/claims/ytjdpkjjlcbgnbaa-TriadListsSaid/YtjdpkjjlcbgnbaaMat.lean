/- The document's Matrix: the state of its rows. No conditions. -/
import Derived.Test.YtjdpkjjlcbgnbaaRef3
namespace Go.Proofs.Ytjdpkjjlcbgnbaa
open Go.RowKit Go.Shelf

theorem Try.infoB : (Try.prog.info? 4).map (fun i => (i.zero, i.size, i.bytes)) = some (some (.bool false), 1, 1) := by kernel_rfl
theorem etB : ET 88 4 1 1 := ET.of Try.underlying88 Try.infoB rfl (by decide)
theorem Try.infoSB : (Try.prog.info? 88).map (fun i => (i.zero, i.size, i.bytes)) = some (some (.slice none 0 0), 1, 24) := by kernel_rfl
theorem etSB : ET 86 88 1 24 := ET.of Try.underlying86 Try.infoSB rfl (by decide)
/-- the slices of the rows -/
def rowsV (n : Nat) (rb : Nat → Nat) (k : Nat) : List Value := (List.range k).map fun i => .slice (some ⟨rb i, 0, none⟩) n n
theorem rowsV_len (n : Nat) (rb : Nat → Nat) (k : Nat) : (rowsV n rb k).length = k := by simp [rowsV]
theorem rowsV_succ (n : Nat) (rb : Nat → Nat) (k : Nat) : rowsV n rb (k + 1) = rowsV n rb k ++ [.slice (some ⟨rb k, 0, none⟩) n n] := by simp [rowsV, List.range_succ]
theorem rowsV_congr {n : Nat} {rb rb' : Nat → Nat} {k : Nat} (h : ∀ i, i < k → rb i = rb' i) : rowsV n rb k = rowsV n rb' k :=
  List.map_congr_left fun i hi => by rw [h i (List.mem_range.1 hi)]
/-- the rows of a matrix -/
structure MatR (w : World) (base : Nat) (v : Value) (n k : Nat) (rb : Nat → Nat) (f : Nat → Nat → Bool) : Prop where
  lo : ∀ i, i < k → base ≤ rb i
  row : ∀ i, i < k → w.rowIs (rb i) 4 n (fun j => .bool (f i j))
  inj : ∀ i j, i < k → j < k → rb i = rb j → i = j
  own : w.ownsRow base 88 1 v k (rowsV n rb k)
theorem MatR.start (w : World) (base n : Nat) (rb : Nat → Nat) (f : Nat → Nat → Bool) : MatR w base (.slice none 0 0) n 0 rb f :=
  ⟨fun _ h => absurd h (by omega), fun _ h => absurd h (by omega), fun _ _ h => absurd h (by omega), World.ownsRow_nil _ _ _ _⟩
section
variable {w w' : World} {base n k : Nat} {v : Value} {rb : Nat → Nat} {f g : Nat → Nat → Bool}
theorem MatR.ne (h : MatR w base v n k rb f) {i : Nat} (hi : i < k) : v.ownBlock ≠ some (rb i) := by
  intro e
  obtain ⟨c, hc, _⟩ := h.row i hi
  rcases h.own.2 with ⟨rfl, _⟩ | ⟨b, cap, cur, rfl, _, hb, _⟩
  · cases e
  · have : b = rb i := by simpa [Value.ownBlock] using e
    subst this
    rw [hc] at hb
    simp at hb
theorem MatR.below (h : MatR w base v n k rb f) (hb : Below w.heap.size w w') : MatR w' base v n k rb f :=
  ⟨h.lo, fun i hi => (h.row i hi).of_block (hb.block _ (h.row i hi).lt), h.inj, ownsRow_below h.own hb⟩
theorem MatR.congr (h : MatR w base v n k rb f) (e : ∀ i, i < k → ∀ j, j < n → f i j = g i j) : MatR w base v n k rb g :=
  ⟨h.lo, fun i hi => (h.row i hi).congr fun j hj => by rw [e i hi j hj], h.inj, h.own⟩
/-- a new row is appended -/
theorem MatR.push {v' : Value} {w1 : World} (h : MatR w base v n k rb f) (hB : base ≤ w.heap.size) (hr : w1.rowIs w.heap.size 4 n (fun _ => .bool false)) (hb : Below w.heap.size w w1)
    (hg : w1.grownBy w' v.ownBlock) (hn : w'.ownsRow base 88 1 v' (k + 1) (rowsV n rb k ++ [.slice (some ⟨w.heap.size, 0, none⟩) n n])) :
    MatR w' base v' n (k + 1) (fun i => if i = k then w.heap.size else rb i) (fun i j => if i = k then false else f i j) := by
  have hne : v.ownBlock ≠ some w.heap.size := by
    intro e
    have := (h.own.lt _ e).2
    omega
  refine ⟨fun i hi => ?_, fun i hi => ?_, fun i j hi hj e => ?_, ?_⟩
  · by_cases e : i = k
    · rw [if_pos e]; exact hB
    · rw [if_neg e]; exact h.lo i (by omega)
  · by_cases e : i = k
    · rw [if_pos e]
      refine (hr.congr fun j _ => by rw [if_pos e]).of_block (hg.block _ hr.lt fun e' => hne e'.symm)
    · rw [if_neg e]
      have hri := h.row i (by omega)
      have h1 := hri.of_block (hb.block _ hri.lt)
      exact (h1.congr fun j _ => by rw [if_neg e]).of_block (hg.block _ h1.lt fun e' => h.ne (show i < k by omega) e'.symm)
  · by_cases ei : i = k
    · by_cases ej : j = k
      · omega
      · rw [if_pos ei, if_neg ej] at e
        have := (h.row j (by omega)).lt
        omega
    · by_cases ej : j = k
      · rw [if_neg ei, if_pos ej] at e
        have := (h.row i (by omega)).lt
        omega
      · rw [if_neg ei, if_neg ej] at e
        exact h.inj i j (by omega) (by omega) e
  · rw [rowsV_succ, if_pos rfl, rowsV_congr (rb' := rb) fun i hi => if_neg (by omega)]
    exact hn
/-- one cell is set -/
theorem MatR.set (h : MatR w base v n k rb f) {i : Nat} (hi : i < k) (j : Nat) (x : Bool) :
    MatR (w.setCell ⟨rb i, j, none⟩ (.bool x)) base v n k rb (fun a b => if a = i ∧ b = j then x else f a b) := by
  refine ⟨h.lo, fun a ha => ?_, h.inj, ?_⟩
  · by_cases e : a = i
    · subst e
      exact ((h.row a ha).set j (.bool x)).congr fun b _ => by by_cases eb : b = j <;> simp [eb]
    · exact ((h.row a ha).setOther (a := ⟨rb i, j, none⟩) (fun e2 => e (h.inj a i ha hi e2)) _).congr fun b _ => by simp [e]
  · refine ⟨h.own.1, ?_⟩
    rcases h.own.2 with h1 | ⟨b, cap, cur, rfl, h2, h3, h4⟩
    · exact .inl h1
    · exact .inr ⟨b, cap, cur, rfl, h2, by rw [Below.heap_setCell _ _ _ _ (fun e => h.ne hi (by simp [Value.ownBlock, e]))]; exact h3, h4⟩
end
end Go.Proofs.Ytjdpkjjlcbgnbaa
