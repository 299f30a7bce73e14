/- The plain law of TriadOrder: the list of the triangles. No conditions. -/
import Derived.Test.YtjdpkjjlcbgnbaaAddsW
namespace Go.Proofs.Ytjdpkjjlcbgnbaa
open Go.RowKit Go.Shelf

def lexL (p t : Int × Int × Int) : Prop := p.1 < t.1 ∨ (p.1 = t.1 ∧ (p.2.1 < t.2.1 ∨ (p.2.1 = t.2.1 ∧ p.2.2 < t.2.2)))
theorem triW_mem {o : Option (Nat × List Ed)} {u v : Int} {t : Int × Int × Int} (h : t ∈ triW o u v) : t.1 = u ∧ t.2.1 = v ∧ t.2.2 ∈ inter (lat o u) (lat o v) := by
  obtain ⟨w, hw, rfl⟩ := List.mem_map.1 h
  exact ⟨rfl, rfl, hw⟩
theorem triV_mem {o : Option (Nat × List Ed)} {u : Int} {j : Nat} {t : Int × Int × Int} (h : t ∈ triV o u j) : t.1 = u ∧ t.2.1 ∈ lat o u ∧ t.2.2 ∈ inter (lat o u) (lat o t.2.1) := by
  obtain ⟨v, hv, hw⟩ := List.mem_flatMap.1 h
  obtain ⟨h1, rfl, h3⟩ := triW_mem hw
  exact ⟨h1, List.mem_of_mem_take hv, h3⟩
theorem mem_tri {o : Option (Nat × List Ed)} (h : GoG o) {t : Int × Int × Int} (ht : t ∈ tri o) :
    0 ≤ t.1 ∧ t.1 < t.2.1 ∧ t.2.1 < t.2.2 ∧ t.2.2 < gN o ∧ nearB (gE o) t.1 t.2.1 = true ∧ nearB (gE o) t.1 t.2.2 = true ∧ nearB (gE o) t.2.1 t.2.2 = true := by
  obtain ⟨u, _, hv⟩ := List.mem_flatMap.1 ht
  obtain ⟨h1, h2, h3⟩ := triV_mem hv
  rw [mem_inter] at h3
  have a := (mem_lat h).1 h2
  have b := (mem_lat h).1 h3.1
  have c := (mem_lat h).1 h3.2
  exact ⟨by omega, by omega, by omega, by omega, by rw [h1]; exact a.2.2, by rw [h1]; exact b.2.2, c.2.2⟩
theorem tri_lex (o : Option (Nat × List Ed)) : (tri o).Pairwise lexL := by
  unfold tri triU
  rw [List.pairwise_flatMap]
  refine ⟨fun u _ => ?_, (range_lt _).imp fun {a b} hab x hx y hy => ?_⟩
  · unfold triV
    rw [List.pairwise_flatMap]
    refine ⟨fun v _ => ?_, ((lat_sorted o u).sublist (List.take_sublist _ _)).imp fun {a b} hab x hx y hy => ?_⟩
    · unfold triW
      rw [List.pairwise_map]
      exact (inter_sorted (lat_sorted o u)).imp fun hab => .inr ⟨rfl, .inr ⟨rfl, hab⟩⟩
    · have h1 := triW_mem hx; have h2 := triW_mem hy
      exact .inr ⟨by rw [h1.1, h2.1], .inl (by rw [h1.2.1, h2.2.1]; exact hab)⟩
  · have h1 := triV_mem hx; have h2 := triV_mem hy
    exact .inl (by rw [h1.1, h2.1]; omega)
def tAt (l : List (Int × Int × Int)) (i : Nat) : Int × Int × Int := l.getD i t0
theorem tAt_mem {l : List (Int × Int × Int)} {i : Nat} (h : i < l.length) : tAt l i ∈ l := by
  unfold tAt; rw [List.getD_eq_getElem?_getD, List.getElem?_eq_getElem h]; exact List.getElem_mem h
theorem tAt_take {l : List (Int × Int × Int)} {i m : Nat} (h : i < (l.take m).length) : tAt (l.take m) i = tAt l i := by
  unfold tAt
  rw [List.getD_eq_getElem?_getD, List.getD_eq_getElem?_getD, List.getElem?_take, if_pos (by rw [List.length_take] at h; omega)]
theorem tAt_lex {o : Option (Nat × List Ed)} {i : Nat} (h : i + 1 < (tri o).length) : lexL (tAt (tri o) i) (tAt (tri o) (i + 1)) := by
  have := List.pairwise_iff_getElem.1 (tri_lex o) i (i + 1) (by omega) h (by omega)
  unfold tAt
  rw [List.getD_eq_getElem?_getD, List.getD_eq_getElem?_getD, List.getElem?_eq_getElem h, List.getElem?_eq_getElem (by omega)]
  exact this
theorem nearTo_mm {E : List Ed} {k : Nat} {a b x y : Int} (hk : k < E.length) (hab : a < b) (h : ((eAt E k).u ≤ (eAt E k).v ∧ x = (eAt E k).u ∧ y = (eAt E k).v) ∨ ((eAt E k).v < (eAt E k).u ∧ x = (eAt E k).v ∧ y = (eAt E k).u)) :
    nearTo E a b (k + 1) = (nearTo E a b k || (x == a && y == b)) := by
  rw [nearTo_succ a b hk]
  congr 1
  rw [Bool.eq_iff_iff]
  simp only [decide_eq_true_eq, Bool.and_eq_true, beq_iff_eq]
  omega
theorem arr_neq (a b c a' b' c' : Int) (w : World) : (binOp .neq 56 (.agg #[.int .i64 a, .int .i64 b, .int .i64 c]) (.agg #[.int .i64 a', .int .i64 b', .int .i64 c'])).run Try.prog w = .ok (.bool (!(decide (a = a') && decide (b = b') && decide (c = c')))) w := by
  have u2 := Try.underlying3
  have a2 := Try.isAgg3
  have z2 := Try.sizeOf3
  obtain ⟨i, hi⟩ := Option.isSome_iff_exists.1 (show (Try.prog.info? 3).isSome = true by kernel_rfl)
  rw [run_neq_struct, show (10000 : Nat) = 9999 + 1 from rfl, run_equalIn_array w 9999 _ _ Try.underlying56 hi]
  have hc : Try.prog.cellsOf 3 = 1 := by kernel_rfl
  rw [hc, show List.range 3 = [0, 1, 2] from rfl]
  simp only [Op.eqItems]
  go_simp
  by_cases h1 : a = a' <;> by_cases h2 : b = b' <;> by_cases h3 : c = c' <;> simp [h1, h2, h3]
end Go.Proofs.Ytjdpkjjlcbgnbaa
