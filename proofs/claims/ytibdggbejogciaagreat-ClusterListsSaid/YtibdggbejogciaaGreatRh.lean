/- The document's graph, as New makes it, lies in new blocks alone. No conditions. -/
import Derived.Test.YtibdggbejogciaaGreatRw
import Derived.Test.YtibdggbejogciaaGreatCm
import Derived.Test.YtibdggbejogciaaGreatRu
import Derived.Test.YtibdggbejogciaaGreatCvZ
import Derived.Test.YtibdggbejogciaaGreatMe
namespace Go.Proofs.YtibdggbejogciaaGreat
open Go.RowKit

/-- a slice that lies in the blocks from lo on -/
theorem Rd.held {t : TypeId} {size lo B n : Nat} {v : Value} {f : Nat → Nat → Value} {A : Nat → Addr} {w1 : World} (h : Rd t size w1 B v n f A) (hlo : ∀ i, i < n → lo ≤ (A i).block) (hB : B ≤ w1.heap.size) : Held lo w1 fun W => Rd t size W B v n f A := fun W hW =>
  ⟨h.ix, h.lt, fun i hi j hj => by
    rw [World.cell?_of_block (w := w1) (hW _ (by rw [add_block]; exact hlo i hi) (by rw [add_block]; exact Nat.lt_of_lt_of_le (h.lt i hi) hB))]
    exact h.cell i hi j hj⟩
/-- what New answers: the graph lies in new blocks alone -/
def RNewH (n : Int) (E : List Ed) (w : World) (e : Ending) (w' : World) : Prop :=
  Below w.heap.size w w' ∧ ((gErr n E ≠ 0 ∧ e = .returned (.tuple #[.pointer none, .int .i64 (gErr n E)])) ∨
    (∃ k b : Nat, n = k ∧ GOk k E ∧ e = .returned (.tuple #[.pointer (some ⟨b, 0, none⟩), .int .i64 0]) ∧ Held w.heap.size w' fun W => RAt W w'.heap.size b k E))
theorem RNewH.bad {n : Int} {E : List Ed} {w w' : World} {x : Int} (h : gErr n E = x) (hx : x ≠ 0) (hb : Below w.heap.size w w') : RNewH n E w (.returned (.tuple #[.pointer none, .int .i64 x])) w' :=
  ⟨hb, .inl ⟨by rw [h]; exact hx, by rw [h]⟩⟩

set_option maxRecDepth 100000 in
set_option maxHeartbeats 2000000 in
theorem rnew_held (B : Nat) (a : Option Addr) (cap : Nat) (A : Nat → Addr) (n : Int) (E : List Ed) (w : World) (hS : ES w B (.slice a E.length cap) E A) (hB : B ≤ w.heap.size) (hm : E.length ≤ 9223372036854775807) :
    Calls Tryz.prog 49 #[.int .i64 n, .slice a E.length cap] w (RNewH n E w) := by
  by_cases h1 : n < 0
  · have he := Lib.hid (gErr_two (n := n) (E := E) (.inl h1))
    go_enter Tryz.func49, Tryz.ntmps49
    go_wp2_with fail
    go_ret2
    exact RNewH.bad he.out (by decide) (Below.refl _ _)
  by_cases h2 : 4096 < n
  · have he := Lib.hid (gErr_two (n := n) (E := E) (.inr (.inl h2)))
    go_enter Tryz.func49, Tryz.ntmps49
    go_wp2_with fail
    go_ret2
    exact RNewH.bad he.out (by decide) (Below.refl _ _)
  by_cases h3 : 16384 < E.length
  · have he := Lib.hid (gErr_two (n := n) (E := E) (.inr (.inr h3)))
    go_enter Tryz.func49, Tryz.ntmps49
    go_wp2_with fail
    go_ret2
    exact RNewH.bad he.out (by decide) (Below.refl _ _)
  have he := Lib.hid (show gErr n E = scanE n E by rw [gErr, if_neg (by omega)])
  go_enter Tryz.func49, Tryz.ntmps49
  go_wp2_with fail
  go_loopw [6] (fun i wr => ∃ k : Nat, k ≤ E.length ∧ i = .int .i64 k ∧ Hid (scanE n E = scanE n (E.drop k)) ∧ Below w.heap.size w wr) (fun i _ => E.length - (intOf i).toNat)
  case atStart => exact ⟨0, Nat.zero_le _, rfl, Lib.hid rfl, Below.refl _ _⟩
  case round =>
    obtain ⟨k, hk, rfl, hs, bel⟩ := hrel
    by_cases hlt : k < E.length
    · have hEr := hS.below (bel.mono hB)
      have e0 := ES.u hEr hlt
      have e1 := ES.v hEr hlt
      have ix := hEr.ix k hlt
      clear hEr
      by_cases c1 : (eAt E k).u < 0
      · have hf := Lib.hid (hs.out.trans (scanE_bad hlt (badE_true (.inl c1))))
        go_wp2_with fail
        go_ret2
        exact RNewH.bad (he.out.trans hf.out) (by decide) bel
      by_cases c2 : n ≤ (eAt E k).u
      · have hf := Lib.hid (hs.out.trans (scanE_bad hlt (badE_true (.inr (.inl c2)))))
        go_wp2_with fail
        go_ret2
        exact RNewH.bad (he.out.trans hf.out) (by decide) bel
      by_cases c3 : (eAt E k).v < 0
      · have hf := Lib.hid (hs.out.trans (scanE_bad hlt (badE_true (.inr (.inr (.inl c3))))))
        go_wp2_with fail
        go_ret2
        exact RNewH.bad (he.out.trans hf.out) (by decide) bel
      by_cases c4 : n ≤ (eAt E k).v
      · have hf := Lib.hid (hs.out.trans (scanE_bad hlt (badE_true (.inr (.inr (.inr c4))))))
        go_wp2_with fail
        go_ret2
        exact RNewH.bad (he.out.trans hf.out) (by decide) bel
      have hb : badE n (eAt E k) = false := badE_iff.2 ⟨by omega, by omega, by omega, by omega⟩
      by_cases c5 : (eAt E k).u = (eAt E k).v
      · have hf := Lib.hid (hs.out.trans (scanE_loop hlt hb c5))
        have hq : ((eAt E k).u == (eAt E k).v) = true := beq_iff_eq.2 c5
        clear c5 hb
        go_wp2_with fail
        go_quiet (fail)
        go_wp2_with fail
        go_ret2
        exact RNewH.bad (he.out.trans hf.out) (by decide) (below_drewN bel _)
      · have hf := Lib.hid (hs.out.trans (scanE_next hlt hb c5))
        have hq : ((eAt E k).u == (eAt E k).v) = false := beq_eq_false_iff_ne.2 c5
        clear c5 hb
        go_wp2_with fail
        go_quiet (fail)
        go_wp2_with fail
        go_roundw
        case rel => exact ⟨k + 1, by omega, by go_num, hf, below_drewN bel _⟩
        case measure => simp only [intOf]; omega
    · obtain rfl : k = E.length := by omega
      have hz : gErr n E = 0 := he.out.trans (hs.out.trans scanE_end)
      obtain ⟨m, rfl, G⟩ := gErr_zero hz
      have HS := Lib.hid (hS.below (bel.mono hB))
      have hsz := bel.size
      clear hS hz he hs
      go_wp2_with (at_builtin; refine copiedAny etE rfl _ _ rfl HS.out (by omega) (fun i _ j _ => edC_one E i j) _ rfl (by simp) rfl (by omega) (by omega) ?_; intro g cp w2 hg2 R2 D2)
      go_ret2
      obtain ⟨a', c', A', e1, e2⟩ := Rd.own etE R2
      cases e1
      have hb3 : Below w2.heap.size w2 (w2.alloc (.cells #[.bool true, .int .i64 m, .slice (some ⟨g, 0, none⟩) E.length cp] 65)) := (Below.refl _ _).alloc (Nat.le_refl _) _
      have r : Row (w2.alloc (.cells #[.bool true, .int .i64 m, .slice (some ⟨g, 0, none⟩) E.length cp] 65)) w2.heap.size 3 (fun i => (#[Value.bool true, .int .i64 m, .slice (some ⟨g, 0, none⟩) E.length cp] : Array Value).getD i undef) := Row.lit w2 _ _ (by simp) fun i hi => by
        match i, hi with
        | 0, _ => rfl
        | 1, _ => rfl
        | 2, _ => rfl
        | n + 3, h => omega
      have hs2 := D2.size
      have hA : ∀ i, i < E.length → w.heap.size ≤ (A' i).block := fun i hi => by
        obtain ⟨ad, had, _, hA, _⟩ := Rd.view etE e2 (by omega)
        cases had
        rw [hA i hi, add_block]
        show w.heap.size ≤ g
        omega
      have hH := (Rd.held e2 hA (Nat.le_refl _)).on hb3
      refine ⟨bel.trans ((D2.trans (hb3.mono D2.size)).mono hsz), .inr ⟨m, w2.heap.size, rfl, G, rfl, fun W hW => ?_⟩⟩
      have rW := r.of_block (hW w2.heap.size (by omega) (by simp))
      exact ⟨G, by simp, rW.cell (i := 0) (by omega), rW.cell (i := 1) (by omega), _, _, A', rW.cell (i := 2) (by omega), (hH W hW).mono (by simp)⟩

end Go.Proofs.YtibdggbejogciaaGreat

/- The document's view, as New makes it, lies in new blocks alone. No conditions. -/
namespace Go.Proofs.YtibdggbejogciaaGreat
open Go.RowKit

/-- what New answers: the view lies in new blocks alone -/
def RwResH (n : Int) (E : List Ed) (w : World) (e : Ending) (w' : World) : Prop :=
  Below w.heap.size w w' ∧ ((gErr n E ≠ 0 ∧ e = .returned (.tuple #[.pointer none, .int .i64 (gErr n E)])) ∨
    (∃ k vb : Nat, n = k ∧ GOk k E ∧ e = .returned (.tuple #[.pointer (some ⟨vb, 0, none⟩), .int .i64 0]) ∧ Held w.heap.size w' fun W => RwAt W w'.heap.size vb k E))
set_option maxRecDepth 100000 in
set_option maxHeartbeats 1000000 in
theorem rwnew_held (B : Nat) (a : Option Addr) (cap : Nat) (A : Nat → Addr) (n : Int) (E : List Ed) (w : World) (hS : ES w B (.slice a E.length cap) E A) (hB : B ≤ w.heap.size) (hm : E.length ≤ 9223372036854775807) :
    Calls Tryz.prog 28 #[.int .i64 n, .slice a E.length cap] w (RwResH n E w) := by
  have HM := Lib.hid (rnew_held B a cap A n E w hS hB hm)
  clear hS hm
  go_enter Tryz.func28, Tryz.ntmps28
  go_wp2_with fail
  refine HM.out.mono ?_
  rintro e w1 ⟨b1, ⟨h0, rfl⟩ | ⟨k, gb, rfl, G, rfl, hg⟩⟩
  · clear HM
    have k1 : ((gErr n E) != 0) = true := by simpa using h0
    obtain ⟨x, hx⟩ : ∃ x, gErr n E = x := ⟨_, rfl⟩
    have HX := Lib.hid hx; have H0 := Lib.hid h0; have B1 := Lib.hid b1
    rw [hx] at k1 ⊢
    clear hx h0 b1
    go_wp2_with fail
    go_ret2
    exact ⟨B1.out, .inl ⟨H0.out, by rw [HX.out]; rfl⟩⟩
  · clear HM
    have HG := Lib.hid hg; have B1 := Lib.hid b1; have H2 := Lib.hid G
    clear hg b1 G
    go_wp2_with fail
    go_ret2
    have hA : Below w1.heap.size w1 (w1.alloc (.cells #[.bool true, .pointer (some ⟨gb, 0, none⟩)] 68)) := (Below.refl _ _).alloc (Nat.le_refl _) _
    have r : Row (w1.alloc (.cells #[.bool true, .pointer (some ⟨gb, 0, none⟩)] 68)) w1.heap.size 2 (fun i => (#[Value.bool true, .pointer (some ⟨gb, 0, none⟩)] : Array Value).getD i undef) := Row.lit w1 _ _ (by simp) fun i hi => by
      match i, hi with
      | 0, _ => rfl
      | 1, _ => rfl
      | n + 2, h => omega
    have hs1 := B1.out.size
    refine ⟨B1.out.trans (hA.mono B1.out.size), .inr ⟨k, w1.heap.size, rfl, H2.out, rfl, fun W hW => ?_⟩⟩
    have rW := r.of_block (hW w1.heap.size hs1 (by simp))
    exact ⟨by simp, gb, rW.cell (i := 0) (by omega), rW.cell (i := 1) (by omega), ((HG.out.on hA) W hW).mono hA.size⟩
end Go.Proofs.YtibdggbejogciaaGreat

/- Edges that a loop overwrites, from the first on; the comparison of edges; Small. No conditions. -/
namespace Go.Proofs.YtibdggbejogciaaGreat
open Go.RowKit

/-- further edges in memory: those from the k-th on are as they were -/
def MoreAt (w : World) (g : Nat) (M : List Ed) (k : Nat) : Prop := ∃ f, Row w g (3 * M.length) f ∧ ∀ i, k ≤ i → i < M.length → ∀ j, j < 3 → f (i * 3 + j) = edC M i j
theorem MoreAt.of {base : Nat} {v : Value} {M : List Ed} {w : World} (h : OwnE base v M w) : ∃ (a : Option Addr) (cap g : Nat), v = .slice a M.length cap ∧ (0 < M.length → a = some ⟨g, 0, none⟩ ∧ base ≤ g ∧ g < w.heap.size ∧ MoreAt w g M 0) := by
  rcases h.2 with ⟨h0, h1⟩ | ⟨g, cap, cur, h1, hb, hg, _, _, _, ht⟩
  · exact ⟨none, 0, 0, by rw [h0, h1], fun c => by omega⟩
  · refine ⟨_, cap, g, h1, fun _ => ⟨rfl, hb, (Array.getElem?_eq_some_iff.1 hg).1, fun q => edC M (q / 3) (q % 3), ⟨cur, _, hg, fun q hq => ?_⟩, fun i _ hi j hj => ?_⟩⟩
    · have h2 := flat_at (f := edC M) (n := M.length) (size := 3) (i := q / 3) (j := q % 3) (by omega) (by omega)
      rw [show q / 3 * 3 + q % 3 = q by omega, ← ht, List.getElem?_take, if_pos (by omega), Array.getElem?_toList] at h2
      exact h2
    · dsimp only
      rw [show (i * 3 + j) / 3 = i by omega, show (i * 3 + j) % 3 = j by omega]
section
variable {w w' : World} {g k : Nat} {M : List Ed}
theorem MoreAt.cell (h : MoreAt w g M k) (hk : k < M.length) {j : Nat} (hj : j < 3) : w.cell? ⟨g, k * 3 + j, none⟩ = some (edC M k j) := by
  obtain ⟨f, h1, h2⟩ := h
  rw [h1.cell (by omega), h2 k (Nat.le_refl _) hk j hj]
theorem MoreAt.frozen (h : MoreAt w g M k) (q : Nat) : w.frozen? ⟨g, q, none⟩ = false := by
  obtain ⟨f, h1, _⟩ := h
  exact h1.frozen q
theorem MoreAt.of_block (h : MoreAt w g M k) (e : w'.heap[g]? = w.heap[g]?) : MoreAt w' g M k := by
  obtain ⟨f, h1, h2⟩ := h
  exact ⟨f, h1.of_block e, h2⟩
theorem MoreAt.next (h : MoreAt w g M k) : MoreAt w g M (k + 1) := by
  obtain ⟨f, h1, h2⟩ := h
  exact ⟨f, h1, fun i hi => h2 i (by omega)⟩
theorem MoreAt.set (h : MoreAt w g M k) (v : Value) : MoreAt (w.setCell ⟨g, k * 3 + 2, none⟩ v) g M (k + 1) := by
  obtain ⟨f, h1, h2⟩ := h
  refine ⟨_, h1.set (k * 3 + 2) v, fun i hi hl j hj => ?_⟩
  rw [if_neg (by omega), h2 i (by omega) hl j hj]
theorem MoreAt.lt (h : MoreAt w g M k) : g < w.heap.size := by
  obtain ⟨f, h1, _⟩ := h
  exact h1.lt
end
theorem grown_set (w : World) (g q : Nat) (v : Value) : w.grownBy (w.setCell ⟨g, q, none⟩ v) (some g) :=
  ⟨rfl, rfl, rfl, by simp, fun k _ hne => Below.heap_setCell _ _ _ _ (fun e => hne (by rw [e]))⟩
theorem moreIx {cap g n k : Nat} (hk : k < n) (w : World) : (Instr.indexAt 22 (.slice (some ⟨g, 0, none⟩) n cap) (.int .i64 (k : Nat))).run Tryz.prog w = .ok (.pointer (some ⟨g, k * 3, none⟩)) w := by
  have h1 : (0 : Int) ≤ (k : Int) ∧ (k : Int) < (n : Int) := by omega
  have he : Tryz.prog.elem 22 = 57 := by simp [Program.elem, etE.ht]
  rw [run_indexAt_slice w 22 ⟨g, 0, none⟩ n cap .i64 k (by rw [etE.ht, he]), if_pos h1, he, etE.size]
  simp [Result.andThen, add_mk]
theorem edge_neq (a b c a' b' c' : Int) (w : World) : (binOp .neq 57 (.agg #[.int .i64 a, .int .i64 b, .int .i64 c]) (.agg #[.int .i64 a', .int .i64 b', .int .i64 c'])).run Tryz.prog w = .ok (.bool (!(decide (a = a') && decide (b = b') && decide (c = c')))) w := by
  have u2 := Tryz.underlying2
  have a2 := Tryz.isAgg2
  have z2 := Tryz.sizeOf2
  have u3 := Tryz.underlying3
  have a3 := Tryz.isAgg3
  have z3 := Tryz.sizeOf3
  have hS : Tryz.prog.underlying 57 = some (.struct (Tryz.prog.fieldsOf 57)) := by kernel_rfl
  have hp : Tryz.prog.stoodInHeld 57 = false := by kernel_rfl
  rw [run_neq_struct, show (10000 : Nat) = 9999 + 1 from rfl, run_equalIn_agg w 9999 57 _ _ hS hp]
  simp only [Program.fieldsOf, Tryz.underlying57]
  go_simp
  by_cases h1 : a = a' <;> by_cases h2 : b = b' <;> by_cases h3 : c = c' <;> simp [h1, h2, h3]
set_option maxRecDepth 100000 in
theorem small_any (n : Int) (a : Option Addr) (cap m : Nat) (w : World) (hm : m ≤ 9223372036854775807) :
    Calls Tryz.prog 6 #[.int .i64 n, .slice a m cap] w fun e w' => e = .returned (.bool (decide ((n ≤ 60 ∨ 4096 < n) ∧ m ≤ 150))) ∧ w' = w := by
  by_cases h1 : n ≤ 60
  · by_cases h2 : m ≤ 150
    · have d1 : decide (n ≤ 60) = true := decide_eq_true h1
      have d2 : decide ((m : Int) ≤ 150) = true := decide_eq_true (by omega)
      have d3 : decide (m ≤ 150) = true := decide_eq_true h2
      have HR := Lib.hid (show decide ((n ≤ 60 ∨ 4096 < n) ∧ m ≤ 150) = true from decide_eq_true ⟨.inl h1, h2⟩)
      rw [HR.out]
      clear h1 h2
      go_enter Tryz.func6, Tryz.ntmps6
      go_wp2_with fail
      go_ret
      exact ⟨rfl, rfl⟩
    · have d1 : decide (n ≤ 60) = true := decide_eq_true h1
      have d2 : decide ((m : Int) ≤ 150) = false := decide_eq_false (by omega)
      have d3 : decide (m ≤ 150) = false := decide_eq_false h2
      have HR := Lib.hid (show decide ((n ≤ 60 ∨ 4096 < n) ∧ m ≤ 150) = false from decide_eq_false (fun h => h2 h.2))
      rw [HR.out]
      clear h1 h2
      go_enter Tryz.func6, Tryz.ntmps6
      go_wp2_with fail
      go_ret
      exact ⟨rfl, rfl⟩
  · have d1 : decide (n ≤ 60) = false := decide_eq_false h1
    by_cases h3 : 4096 < n
    · have d4 : decide (n > 4096) = true := decide_eq_true h3
      by_cases h2 : m ≤ 150
      · have d2 : decide ((m : Int) ≤ 150) = true := decide_eq_true (by omega)
        have d3 : decide (m ≤ 150) = true := decide_eq_true h2
        have HR := Lib.hid (show decide ((n ≤ 60 ∨ 4096 < n) ∧ m ≤ 150) = true from decide_eq_true ⟨.inr h3, h2⟩)
        rw [HR.out]
        clear h1 h2 h3
        go_enter Tryz.func6, Tryz.ntmps6
        go_wp2_with fail
        go_ret
        exact ⟨rfl, rfl⟩
      · have d2 : decide ((m : Int) ≤ 150) = false := decide_eq_false (by omega)
        have d3 : decide (m ≤ 150) = false := decide_eq_false h2
        have HR := Lib.hid (show decide ((n ≤ 60 ∨ 4096 < n) ∧ m ≤ 150) = false from decide_eq_false (fun h => h2 h.2))
        rw [HR.out]
        clear h1 h2 h3
        go_enter Tryz.func6, Tryz.ntmps6
        go_wp2_with fail
        go_ret
        exact ⟨rfl, rfl⟩
    · have d4 : decide (n > 4096) = false := decide_eq_false h3
      have HR := Lib.hid (show decide ((n ≤ 60 ∨ 4096 < n) ∧ m ≤ 150) = false from decide_eq_false (fun h => h.1.elim h1 h3))
      rw [HR.out]
      clear h1 h3
      go_enter Tryz.func6, Tryz.ntmps6
      go_wp2_with fail
      go_ret
      exact ⟨rfl, rfl⟩
end Go.Proofs.YtibdggbejogciaaGreat

/- The walk of both of package seepagelaw21: the program's view and the document's, and the edges overwritten behind New. No conditions. -/
namespace Go.Proofs.YtibdggbejogciaaGreat
open Go.RowKit

/-- what both answers -/
def BothV (n : Int) (E : List Ed) (w : World) (e : Ending) (w' : World) : Prop :=
  Below w.heap.size w w' ∧ ((gErr n E ≠ 0 ∧ e = .returned (.tuple #[.pointer none, .pointer none, .bool true])) ∨
    (∃ k vb rb : Nat, n = k ∧ GOk k E ∧ e = .returned (.tuple #[.pointer (some ⟨vb, 0, none⟩), .pointer (some ⟨rb, 0, none⟩), .bool true]) ∧ VwAt w' w'.heap.size vb k E ∧ RwAt w' w'.heap.size rb k E))
/-- a world whose block g alone may differ -/
structure ButG (g : Nat) (w w' : World) : Prop where
  os : w'.os = w.os
  size : w'.heap.size = w.heap.size
  block : ∀ j, j ≠ g → w'.heap[j]? = w.heap[j]?
theorem MoreAt.set3 {w : World} {g k : Nat} {M : List Ed} (h : MoreAt w g M k) (x y z : Value) : MoreAt (((w.setCell ⟨g, k * 3, none⟩ x).setCell ⟨g, k * 3 + 1, none⟩ y).setCell ⟨g, k * 3 + 2, none⟩ z) g M (k + 1) := by
  obtain ⟨f, h1, h2⟩ := h
  refine ⟨_, ((h1.set (k * 3) x).set (k * 3 + 1) y).set (k * 3 + 2) z, fun i hi hl j hj => ?_⟩
  rw [if_neg (by omega), if_neg (by omega), if_neg (by omega), h2 i (by omega) hl j hj]
theorem ownG {base g n cp : Nat} {M : List Ed} {w : World} (h : OwnE base (.slice (some ⟨g, 0, none⟩) n cp) M w) (hn : 0 < M.length) : MoreAt w g M 0 := by
  obtain ⟨a, cap, g', e1, h1⟩ := MoreAt.of h
  obtain ⟨e2, _, _, h2⟩ := h1 hn
  cases e1
  cases e2
  exact h2
set_option maxRecDepth 100000 in
set_option maxHeartbeats 2000000 in
theorem both_any (B : Nat) (a : Option Addr) (cap : Nat) (A : Nat → Addr) (n : Int) (E : List Ed) (w : World) (hS : ES w B (.slice a E.length cap) E A) (hB : B ≤ w.heap.size) (hm : E.length ≤ 150) :
    Calls Tryz.prog 8 #[.int .i64 n, .slice a E.length cap] w (BothV n E w) := by
  have HS := Lib.hid hS
  clear hS
  go_enter Tryz.func8, Tryz.ntmps8
  go_wp2_with (at_builtin; refine copiedAny etE rfl _ _ rfl HS.out hB (fun i _ j _ => edC_one E i j) _ rfl (by simp) rfl (by omega) (by omega) ?_; intro g cp w1 hg R1 D1; refine Hid.out ?_)
  obtain ⟨a1, c1, A1, e1, hI⟩ := Rd.own etE R1
  cases e1
  have hgl1 : g < w1.heap.size := (R1.lt g rfl).2
  have HI := Lib.hid hI; have HB1 := Lib.hid D1; have HR1 := Lib.hid (show OwnE w.heap.size (.slice (some ⟨g, 0, none⟩) E.length cp) E w1 from R1)
  refine Lib.hid ?_
  clear hI D1 R1
  go_wp2_with fail
  refine (cnew_held w1.heap.size _ cp A1 n E w1 HI.out (Nat.le_refl _) (by omega)).mono ?_
  rintro e w2 ⟨b2, hv⟩
  have HS2 := Lib.hid (HS.out.below ((HB1.out.mono hB).trans (b2.mono (Nat.le_trans hB HB1.out.size))))
  have hB2 : B ≤ w2.heap.size := Nat.le_trans hB (Nat.le_trans HB1.out.size b2.size)
  have HRw := Lib.hid (rwnew_held B a cap A n E w2 HS2.out hB2 (by omega))
  have HB2 := Lib.hid b2
  have hgl : w.heap.size ≤ g := hg
  have hBg : B ≤ g := Nat.le_trans hB hg
  have HM0 := Lib.hid (fun h0 : 0 < E.length => ownG HR1.out h0)
  have HGl := Lib.hid hgl1
  clear b2 HS HI hB HR1 hg hgl1
  rcases hv with ⟨h0, rfl⟩ | ⟨k, vb, rfl, G, rfl, hv⟩
  · obtain ⟨x, hx⟩ : ∃ x, gErr n E = x := ⟨_, rfl⟩
    rw [hx] at h0 ⊢
    have HX := Lib.hid hx; have H0 := Lib.hid h0
    clear hx h0
    go_wp2_with fail
    refine HRw.out.mono ?_
    rintro e w3 ⟨b3, ⟨_, rfl⟩ | ⟨k, vb, rfl, G, rfl, _⟩⟩
    · rw [HX.out]
      have HB3 := Lib.hid b3
      have HS3 := Lib.hid (HS2.out.below (b3.mono hB2))
      have HM3 := Lib.hid (fun h0 : 0 < E.length => (HM0.out h0).of_block (((b3.block g (Nat.lt_of_lt_of_le HGl.out HB2.out.size))).trans (HB2.out.block g HGl.out)))
      clear b3 HRw HS2
      have k1 : (x == x) = true := by simp
      go_wp2_with fail
      go_loopw [13] (fun iv wr => ∃ k : Nat, k ≤ E.length ∧ iv = .int .i64 (k : Nat) ∧ Hid (0 < E.length → MoreAt wr g E k) ∧ Hid (Below g w3 wr) ∧ Hid (∀ j, j ≠ g → wr.heap[j]? = w3.heap[j]?) ∧ Hid (wr.heap.size = w3.heap.size)) (fun iv _ => E.length - (intOf iv).toNat)
      case atStart => exact ⟨0, Nat.zero_le _, rfl, HM3, Lib.hid (Below.refl _ _), Lib.hid (fun _ _ => rfl), Lib.hid rfl⟩
      case round =>
        obtain ⟨k, hk, rfl, HM, BW, HJ, HZ⟩ := hrel
        by_cases hlt : k < E.length
        · have hM := HM.out (by omega)
          have ixg := fun w => moreIx (cap := cp) (g := g) hlt w
          have c0 := hM.cell hlt (j := 0) (by omega)
          have c1 := hM.cell hlt (j := 1) (by omega)
          have c2 := hM.cell hlt (j := 2) (by omega)
          have f0 := hM.frozen (k * 3)
          have f1 := hM.frozen (k * 3 + 1)
          have f2 := hM.frozen (k * 3 + 2)
          rw [Nat.add_zero] at c0
          unfold edC at c0 c1 c2
          have hR := HS3.out.below (BW.out.mono hBg)
          have ix := hR.ix k hlt
          have e0 := ES.u hR hlt
          have e1 := ES.v hR hlt
          have e2 := ES.w hR hlt
          have HMA := Lib.hid hM
          clear hR hM
          obtain ⟨u, hu⟩ : ∃ x, (eAt E k).u = x := ⟨_, rfl⟩
          obtain ⟨v, hv⟩ : ∃ x, (eAt E k).v = x := ⟨_, rfl⟩
          obtain ⟨y, hy⟩ : ∃ x, (eAt E k).w = x := ⟨_, rfl⟩
          rw [hu] at c0 e0; rw [hv] at c1 e1; rw [hy] at c2 e2
          clear hu hv hy
          have he := fun w => edge_neq u v y u v y w
          simp only [decide_true, Bool.and_self, Bool.not_true] at he
          go_wp2_with fail
          go_quiet (fail)
          go_wp2_with fail
          go_roundw
          case rel =>
            exact ⟨k + 1, by omega, by go_num, Lib.hid fun _ => (HMA.out.of_block (by simp)).set3 _ _ _,
              Lib.hid ((((below_drewN BW.out _).setCell (p := ⟨g, k * 3, none⟩) (Nat.le_refl g) _).setCell (p := ⟨g, k * 3 + 1, none⟩) (Nat.le_refl g) _).setCell (p := ⟨g, k * 3 + 2, none⟩) (Nat.le_refl g) _),
              Lib.hid fun j hj => by rw [Below.heap_setCell _ _ _ _ hj, Below.heap_setCell _ _ _ _ hj, Below.heap_setCell _ _ _ _ hj]; simpa using HJ.out j hj,
              Lib.hid (by simpa [World.setCell] using HZ.out)⟩
          case measure => simp only [intOf]; omega
        · have hkn : k = E.length := by omega
          subst hkn
          go_wp2_with fail
          go_ret3
          exact ⟨HB1.out.trans ((HB2.out.mono HB1.out.size).trans ((HB3.out.mono (Nat.le_trans HB1.out.size HB2.out.size)).trans (BW.out.mono hgl))), .inl ⟨by rw [HX.out]; exact H0.out, rfl⟩⟩
    · exact absurd (HX.out.symm.trans (gErr_ok G)) H0.out
  · have HG := Lib.hid G
    clear G
    go_wp2_with fail
    refine HRw.out.mono ?_
    rintro e w3 ⟨b3, ⟨h0, rfl⟩ | ⟨k', rb, hkk, _, rfl, hr⟩⟩
    · exact absurd (gErr_ok HG.out) h0
    · obtain rfl : k = k' := by omega
      have HB3 := Lib.hid b3
      have HS3 := Lib.hid (HS2.out.below (b3.mono hB2))
      have HM3 := Lib.hid (fun h0 : 0 < E.length => (HM0.out h0).of_block (((b3.block g (Nat.lt_of_lt_of_le HGl.out HB2.out.size))).trans (HB2.out.block g HGl.out)))
      have HV := Lib.hid (hv.on b3)
      have HR := Lib.hid hr
      clear b3 HRw HS2 hv hr hkk
      go_wp2_with fail
      go_loopw [13] (fun iv wr => ∃ k : Nat, k ≤ E.length ∧ iv = .int .i64 (k : Nat) ∧ Hid (0 < E.length → MoreAt wr g E k) ∧ Hid (Below g w3 wr) ∧ Hid (∀ j, j ≠ g → wr.heap[j]? = w3.heap[j]?) ∧ Hid (wr.heap.size = w3.heap.size)) (fun iv _ => E.length - (intOf iv).toNat)
      case atStart => exact ⟨0, Nat.zero_le _, rfl, HM3, Lib.hid (Below.refl _ _), Lib.hid (fun _ _ => rfl), Lib.hid rfl⟩
      case round =>
        obtain ⟨k, hk, rfl, HM, BW, HJ, HZ⟩ := hrel
        by_cases hlt : k < E.length
        · have hM := HM.out (by omega)
          have ixg := fun w => moreIx (cap := cp) (g := g) hlt w
          have c0 := hM.cell hlt (j := 0) (by omega)
          have c1 := hM.cell hlt (j := 1) (by omega)
          have c2 := hM.cell hlt (j := 2) (by omega)
          have f0 := hM.frozen (k * 3)
          have f1 := hM.frozen (k * 3 + 1)
          have f2 := hM.frozen (k * 3 + 2)
          rw [Nat.add_zero] at c0
          unfold edC at c0 c1 c2
          have hR := HS3.out.below (BW.out.mono hBg)
          have ix := hR.ix k hlt
          have e0 := ES.u hR hlt
          have e1 := ES.v hR hlt
          have e2 := ES.w hR hlt
          have HMA := Lib.hid hM
          clear hR hM
          obtain ⟨u, hu⟩ : ∃ x, (eAt E k).u = x := ⟨_, rfl⟩
          obtain ⟨v, hv⟩ : ∃ x, (eAt E k).v = x := ⟨_, rfl⟩
          obtain ⟨y, hy⟩ : ∃ x, (eAt E k).w = x := ⟨_, rfl⟩
          rw [hu] at c0 e0; rw [hv] at c1 e1; rw [hy] at c2 e2
          clear hu hv hy
          have he := fun w => edge_neq u v y u v y w
          simp only [decide_true, Bool.and_self, Bool.not_true] at he
          go_wp2_with fail
          go_quiet (fail)
          go_wp2_with fail
          go_roundw
          case rel =>
            exact ⟨k + 1, by omega, by go_num, Lib.hid fun _ => (HMA.out.of_block (by simp)).set3 _ _ _,
              Lib.hid ((((below_drewN BW.out _).setCell (p := ⟨g, k * 3, none⟩) (Nat.le_refl g) _).setCell (p := ⟨g, k * 3 + 1, none⟩) (Nat.le_refl g) _).setCell (p := ⟨g, k * 3 + 2, none⟩) (Nat.le_refl g) _),
              Lib.hid fun j hj => by rw [Below.heap_setCell _ _ _ _ hj, Below.heap_setCell _ _ _ _ hj, Below.heap_setCell _ _ _ _ hj]; simpa using HJ.out j hj,
              Lib.hid (by simpa [World.setCell] using HZ.out)⟩
          case measure => simp only [intOf]; omega
        · have hkn : k = E.length := by omega
          subst hkn
          go_wp2_with fail
          go_ret3
          have hz := HZ.out
          have hv9 := HV.out wr fun j h1 h2 => HJ.out j (by have := HGl.out; omega)
          have hr9 := HR.out wr fun j h1 h2 => HJ.out j (by have := HGl.out; have := HB2.out.size; omega)
          exact ⟨HB1.out.trans ((HB2.out.mono HB1.out.size).trans ((HB3.out.mono (Nat.le_trans HB1.out.size HB2.out.size)).trans (BW.out.mono hgl))), .inr ⟨k, vb, rb, rfl, HG.out, rfl, hv9.mono (by have := HB3.out.size; omega), hr9.mono (by omega)⟩⟩
end Go.Proofs.YtibdggbejogciaaGreat
