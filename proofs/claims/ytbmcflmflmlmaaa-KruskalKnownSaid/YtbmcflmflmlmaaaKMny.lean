/- Literal slices of numbers; a row of edges that make lays, and edges that are stored into it. No conditions. -/
import Derived.Test.YtbmcflmflmlmaaaKKnD
import Derived.Deep.MidRow
namespace Go.Proofs.Ytbmcflmflmlmaaa
open Go.RowKit

theorem lit_rd (w : World) (L : List Int) (c : Array Value) (hc : c = (L.map (Value.int .i64)).toArray) (cap : Nat) : Sl 24 .i64 (w.alloc (.cells c 3)) (w.heap.size + 1) (.slice (some ⟨w.heap.size, 0, none⟩) L.length cap) L (fun i => (⟨w.heap.size, 0, none⟩ : Addr).add (i * 1)) := by
  subst hc
  have hR := Row.lit (n := L.length) (f := fun i => nums .i64 L i 0) w (L.map (Value.int .i64)).toArray 3 (by simp) (fun i hi => by
    simp only [List.getElem_toArray, List.getElem_map]
    unfold nums
    rw [nth_eq hi])
  refine Rd.addr etI (fun _ => Nat.lt_succ_self _) fun i hi j hj => ?_
  have h0 : j = 0 := by omega
  subst h0
  rw [add_mk, Nat.zero_add, hR.cell (by omega)]
  simp
/-- literal edges -/
theorem lit_es (w : World) (E : List Ed) (c : Array Value) (hn : E.length * 3 ≤ c.size) (hc : ∀ q, q < E.length * 3 → c[q]? = some (edC E (q / 3) (q % 3))) (cap : Nat) : ES (w.alloc (.cells c 36)) (w.heap.size + 1) (.slice (some ⟨w.heap.size, 0, none⟩) E.length cap) E (fun i => (⟨w.heap.size, 0, none⟩ : Addr).add (i * 3)) := by
  have hR := Row.lit (n := E.length * 3) (f := fun q => edC E (q / 3) (q % 3)) w c 36 hn (fun i hi => by
    have := hc i hi
    rw [Array.getElem?_eq_getElem (by omega)] at this
    simpa using this)
  refine Rd.addr etE (fun _ => Nat.lt_succ_self _) fun i hi j hj => ?_
  rw [add_mk, Nat.zero_add, hR.cell (by omega)]
  congr 2 <;> omega
theorem Try.infoEd : (Try.prog.info? 36).map (fun i => (i.zero, i.size, i.bytes)) = some (some (.agg #[.int .i64 0, .int .i64 0, .int .i64 0]), 3, 24) := by kernel_rfl
theorem run_make_edges (n : Nat) (hn : n ≤ 16384) (w : World) : (Instr.makeSlice 22 (.int .i64 (n : Int)) (.int .i64 (n : Int))).run Try.prog w = .ok (.slice (some ⟨w.heap.size, 0, none⟩) n n) (w.alloc (.cells (madeCells #[.int .i64 0, .int .i64 0, .int .i64 0] (n * 3)) 36)) := by
  obtain ⟨i, hi, hzz⟩ := Option.map_eq_some_iff.1 Try.infoEd
  simp only [Prod.mk.injEq] at hzz
  obtain ⟨hz, hs, hb⟩ := hzz
  have hr := run_make (P := Try.prog) w 22 36 i _ Try.underlying22 hi hz .i64 .i64 n n (by omega) (Int.le_refl _) (by rw [hb]; omega) (by omega)
  simp only [Int.toNat_natCast, hs] at hr
  exact hr
/-- the cells of the edges that were stored so far -/
def mC (n k q : Nat) : Value := if q / 3 < k then edC (parE n) (q / 3) (q % 3) else .int .i64 0
theorem made_edges (w : World) (n : Nat) : Row (w.alloc (.cells (madeCells #[.int .i64 0, .int .i64 0, .int .i64 0] (n * 3)) 36)) w.heap.size (n * 3) (mC n 0) :=
  ⟨_, _, heap_alloc_new _ _, fun i hi => by
    have h3 : i % 3 = 0 ∨ i % 3 = 1 ∨ i % 3 = 2 := by omega
    rw [mC, if_neg (by omega)]
    simp only [madeCells, Array.getElem?_map]
    rw [Array.getElem?_eq_getElem (by simpa using hi)]
    simp only [Array.getElem_range, Option.map_some]
    show some (#[Value.int .i64 0, .int .i64 0, .int .i64 0][i % 3]!) = _
    rcases h3 with h | h | h <;> rw [h] <;> rfl⟩
theorem store_edge {w : World} {b n k : Nat} (h : Row w b (n * 3) (mC n k)) (hk : k < n) : Row (((w.setCell ⟨b, k * 3, none⟩ (.int .i64 0)).setCell ⟨b, k * 3 + 1, none⟩ (.int .i64 1)).setCell ⟨b, k * 3 + 2, none⟩ (.int .i64 ((k : Int) + 5))) b (n * 3) (mC n (k + 1)) := by
  refine (((h.set (k * 3) _).set (k * 3 + 1) _).set (k * 3 + 2) _).congr fun q hq => ?_
  unfold mC
  by_cases c : q / 3 = k
  · have h3 : q = k * 3 ∨ q = k * 3 + 1 ∨ q = k * 3 + 2 := by omega
    rw [if_pos (by omega : q / 3 < k + 1), c]
    rcases h3 with h | h | h
    · rw [if_neg (by omega), if_neg (by omega), if_pos h, show q % 3 = 0 by omega]
      unfold edC; simp only; rw [parE_at hk]
    · rw [if_neg (by omega), if_pos h, show q % 3 = 1 by omega]
      unfold edC; simp only; rw [parE_at hk]
    · rw [if_pos h, show q % 3 = 2 by omega]
      unfold edC; simp only; rw [parE_at hk]
  · rw [if_neg (by omega), if_neg (by omega), if_neg (by omega)]
    by_cases d : q / 3 < k
    · rw [if_pos d, if_pos (by omega)]
    · rw [if_neg d, if_neg (by omega)]
theorem par_es {w : World} {b n : Nat} (h : Row w b (n * 3) (mC n n)) (cap : Nat) : ES w w.heap.size (.slice (some ⟨b, 0, none⟩) (parE n).length cap) (parE n) (fun i => (⟨b, 0, none⟩ : Addr).add (i * 3)) := by
  refine Rd.addr etE (fun _ => h.lt) fun i hi j hj => ?_
  rw [parE_len] at hi
  rw [add_mk, Nat.zero_add, h.cell (by omega), mC, if_pos (by omega)]
  congr 2 <;> omega
theorem many_swap {w : World} {b n : Nat} (hn : 1 ≤ n) (hm : n ≤ 16384) (h : Row w b (n * 3) (mC n n)) (cap : Nat) : Calls Try.prog 22 #[.int .i64 2, .slice (some ⟨b, 0, none⟩) n cap, .agg #[.int .i64 1, .int .i64 0, .int .i64 4]] w fun e w' => e = .returned (.tuple #[.int .i64 0, .int .i64 0]) ∧ Below w.heap.size w w' := by
  have h1 := swap_any w.heap.size _ cap _ 2 (parE n) 1 0 4 w (par_es h cap) (Nat.le_refl _) (by rw [parE_len]; omega)
  rw [parE_len] at h1
  refine h1.mono ?_
  rintro e w' ⟨hb, ⟨h0, _⟩ | ⟨_, ⟨h2, _⟩ | ⟨_, ⟨h2, _⟩ | ⟨_, o, x, ho, hx, rfl⟩⟩⟩⟩
  · exact absurd (parE_err hm) h0
  · exact absurd (by decide) h2
  · exact absurd h2 (by decide)
  obtain rfl := parE_swap hn ho hx
  exact ⟨rfl, hb⟩
theorem mny_ix {w : World} {b n k q : Nat} (h : Row w b (n * 3) (mC n q)) (hk : k < n) (cap : Nat) (w' : World) : (Instr.indexAt 22 (.slice (some ⟨b, 0, none⟩) n cap) (.int .i64 (k : Nat))).run Try.prog w' = .ok (.pointer (some ⟨b, k * 3, none⟩)) w' := by
  have := (Rd.addr (w := w) (B := b + 1) (n := n) (cap := cap) (f := fun i j => mC n q (i * 3 + j)) (a := ⟨b, 0, none⟩) etE (fun _ => Nat.lt_succ_self _) (fun i hi j hj => by rw [add_mk, Nat.zero_add, h.cell (by omega)])).ix k hk w'
  rw [add_mk, Nat.zero_add] at this
  exact this
theorem mny_store {w : World} {b n k q : Nat} (h : Row w b (n * 3) (mC n q)) (hk : k < n) (x y z : Int) : (Instr.storeAt 36 (.pointer (some ⟨b, k * 3, none⟩)) (.agg #[.int .i64 x, .int .i64 y, .int .i64 z])).run Try.prog w = .ok () (((w.setCell ⟨b, k * 3, none⟩ (.int .i64 x)).setCell ⟨b, k * 3 + 1, none⟩ (.int .i64 y)).setCell ⟨b, k * 3 + 2, none⟩ (.int .i64 z)) := by
  have hi : (Try.prog.info? 36).map (·.size) = some 3 := by
    obtain ⟨i, hi, hzz⟩ := Option.map_eq_some_iff.1 Try.infoEd
    simp only [Prod.mk.injEq] at hzz
    rw [hi]; simp [hzz.2.1]
  exact run_storeAt_mid w b (k * 3) 36 #[.int .i64 x, .int .i64 y, .int .i64 z] (fun j hj => by
    have hj : j < 3 := hj
    rw [h.cell (by omega)]; exact ⟨rfl, h.frozen _⟩) hi (by simp [Value.oneCell'])
end Go.Proofs.Ytbmcflmflmlmaaa
