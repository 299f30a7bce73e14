/- Rows in memory that are written cell by cell; edges in memory. No conditions. -/
import Derived.Test.YtcpikabhcjkkmaaMem
import Derived.Test.YtcpikabhcjkkmaaGm
import Derived.RegionTactic
import Derived.BigRegion
import Derived.Deep.DeepCutAuto
namespace Go.Proofs.Ytcpikabhcjkkmaa
open Go.RowKit

/-- block g: its first n cells hold what f tells; it is not frozen -/
def Row (w : World) (g n : Nat) (f : Nat → Value) : Prop := ∃ c t, w.heap[g]? = some (.cells c t (0, 0)) ∧ ∀ i, i < n → c[i]? = some (f i)
section
variable {w w' : World} {g n : Nat} {f f' : Nat → Value}
theorem Row.cell (h : Row w g n f) {i : Nat} (hi : i < n) : w.cell? ⟨g, i, none⟩ = some (f i) := by
  obtain ⟨c, t, hb, hc⟩ := h
  simp [World.cell?, hb, hc i hi]
theorem Row.frozen (h : Row w g n f) (i : Nat) : w.frozen? ⟨g, i, none⟩ = false := by
  obtain ⟨c, t, hb, _⟩ := h
  simp [World.frozen?, hb]
theorem Row.lt (h : Row w g n f) : g < w.heap.size := by
  obtain ⟨c, t, hb, _⟩ := h
  exact (Array.getElem?_eq_some_iff.1 hb).1
theorem Row.congr (h : Row w g n f) (e : ∀ i, i < n → f i = f' i) : Row w g n f' := by
  obtain ⟨c, t, hb, hc⟩ := h
  exact ⟨c, t, hb, fun i hi => by rw [hc i hi, e i hi]⟩
theorem Row.of_block (h : Row w g n f) (e : w'.heap[g]? = w.heap[g]?) : Row w' g n f := by
  obtain ⟨c, t, hb, hc⟩ := h
  exact ⟨c, t, e.trans hb, hc⟩
theorem Row.set (h : Row w g n f) (i : Nat) (v : Value) : Row (w.setCell ⟨g, i, none⟩ v) g n (fun j => if j = i then v else f j) := by
  obtain ⟨c, t, hb, hc⟩ := h
  refine ⟨c.setIfInBounds i v, t, ?_, fun j hj => ?_⟩
  · simp [World.setCell, Array.getElem?_modify, hb]
  · rw [Array.getElem?_setIfInBounds]
    have := hc j hj
    by_cases e : j = i
    · subst e
      have := (Array.getElem?_eq_some_iff.1 this).1
      simp [this]
    · rw [if_neg (fun h => e h.symm)]; dsimp only; rw [if_neg e]; exact this
theorem Row.setOther (h : Row w g n f) {a : Addr} (ha : g ≠ a.block) (v : Value) : Row (w.setCell a v) g n f := h.of_block (Below.heap_setCell _ _ _ _ ha)
theorem Row.alloc (h : Row w g n f) (o : Obj) : Row (w.alloc o) g n f := h.of_block (Below.heap_alloc _ _ _ h.lt)
theorem Row.drewN (h : Row w g n f) (q : Nat) : Row (w.drewN q) g n f := h
theorem Row.drew (h : Row w g n f) : Row w.drew g n f := h
theorem Row.below {B : Nat} (h : Row w g n f) (hb : Below B w w') (hg : g < B) : Row w' g n f := h.of_block (hb.block g hg)
theorem Row.made (w : World) (z : Value) (n : Nat) (t : TypeId) : Row (w.alloc (.cells (madeCells #[z] n) t)) w.heap.size n (fun _ => z) := by
  obtain ⟨c, h1, _, h2⟩ := World.rowIs_made w z n t
  exact ⟨c, t, h1, h2⟩
theorem Row.lit (w : World) (c : Array Value) (t : TypeId) (hn : n ≤ c.size) (hf : ∀ i, (h : i < n) → c[i]'(by omega) = f i) : Row (w.alloc (.cells c t)) w.heap.size n f :=
  ⟨c, t, heap_alloc_new _ _, fun i hi => by rw [Array.getElem?_eq_getElem (by omega), hf i hi]⟩
theorem Row.owned {base cap : Nat} {e : TypeId} {xs : List Value} (h : w.ownsRow base e 1 (.slice (some ⟨g, 0, none⟩) n cap) n xs) : Row w g n (fun i => xs.getD i (.int .i64 0)) := by
  have hl := h.1
  rcases h.2 with ⟨h0, _⟩ | ⟨g', cap', cur, h1, _, hg, _, _, _, ht⟩
  · cases h0
  · cases h1
    refine ⟨cur, e, hg, fun i hi => ?_⟩
    have h2 : xs[i]? = some (xs[i]'(by omega)) := List.getElem?_eq_getElem (by omega)
    have h3 : (cur.toList.take (n * 1))[i]? = some (xs[i]'(by omega)) := by rw [ht]; exact h2
    rw [List.getElem?_take, if_pos (by omega), Array.getElem?_toList] at h3
    rw [h3]; simp [List.getD, h2]
end

/-- the cells of the i-th edge -/
def edC (E : List Ed) (i : Nat) : Nat → Value
  | 0 => .int .i64 (eAt E i).u
  | 1 => .int .i64 (eAt E i).v
  | _ => .int .i64 (eAt E i).w
theorem edC_one (E : List Ed) (i j : Nat) : (edC E i j).oneCell' = true := by unfold edC; split <;> rfl
/-- edges in memory -/
abbrev ES (w : World) (B : Nat) (v : Value) (E : List Ed) (A : Nat → Addr) : Prop := Rd 22 3 w B v E.length (edC E) A
section
variable {W : World} {B : Nat} {x : Value} {E : List Ed} {A : Nat → Addr}
theorem ES.u (h : ES W B x E A) {i : Nat} (hi : i < E.length) : W.cell? (A i) = some (.int .i64 (eAt E i).u) := by
  have := h.cell i hi 0 (by omega); rwa [add_zero] at this
theorem ES.v (h : ES W B x E A) {i : Nat} (hi : i < E.length) : W.cell? ⟨(A i).block, (A i).off + 1, none⟩ = some (.int .i64 (eAt E i).v) := h.cell i hi 1 (by omega)
theorem ES.w (h : ES W B x E A) {i : Nat} (hi : i < E.length) : W.cell? ⟨(A i).block, (A i).off + 2, none⟩ = some (.int .i64 (eAt E i).w) := h.cell i hi 2 (by omega)
end

/-- a slice of the call's own, new -/
def CopyPost (t e : TypeId) (size : Nat) (m : Nat) (f : Nat → Nat → Value) (w : World) (en : Ending) (w' : World) : Prop :=
  ∃ a cap A, en = .returned (.slice a m cap) ∧ Rd t size w' w'.heap.size (.slice a m cap) m f A ∧ Below w.heap.size w w' ∧ (a = none ∨ ∃ g, a = some ⟨g, 0, none⟩ ∧ w.heap.size ≤ g ∧ w'.ownsRow w.heap.size e size (.slice (some ⟨g, 0, none⟩) m cap) m (flat f m size))
set_option maxHeartbeats 1000000 in
theorem cloneE (B : Nat) (a : Option Addr) (cap m : Nat) (A : Nat → Addr) (f : Nat → Nat → Value) (w : World) (hS : Rd 22 3 w B (.slice a m cap) m f A) (hB : B ≤ w.heap.size) (hf : ∀ i, i < m → ∀ j, j < 3 → (f i j).oneCell' = true) (hm : m ≤ 1000000) :
    Calls Try.prog 61 #[.slice a m cap] w (CopyPost 22 48 3 m f w) := by
  cases a with
  | none =>
    obtain rfl : m = 0 := by
      rcases Nat.eq_zero_or_pos m with h | h
      · exact h
      · obtain ⟨_, h1, _⟩ := hS.view etE h; cases h1
    have he := fun w => Lib.run_eql_slice_nil (P := Try.prog) w 22 48 none 0 cap 0 0 Try.underlying22
    go_enter Try.func61, Try.ntmps61
    go_wp2
    go_ret
    exact ⟨none, 0, A, rfl, Rd.nil _, Below.refl _ _, .inl rfl⟩
  | some ad =>
    have he := fun w => Lib.run_eql_slice_nil (P := Try.prog) w 22 48 (some ad) m cap 0 0 Try.underlying22
    go_enter Try.func61, Try.ntmps61
    go_wp2_with (at_builtin; refine copiedAny etE rfl _ _ rfl hS hB hf _ rfl (by simp) rfl (by omega) (by omega) ?_; intro g cp w1 hg R1 D1)
    go_ret
    obtain ⟨a', c', A', h1, h2⟩ := Rd.own etE R1
    cases h1
    exact ⟨_, _, A', rfl, h2, D1, .inr ⟨g, rfl, hg, R1⟩⟩
set_option maxHeartbeats 1000000 in
theorem cloneI (B : Nat) (a : Option Addr) (cap m : Nat) (A : Nat → Addr) (f : Nat → Nat → Value) (w : World) (hS : Rd 29 1 w B (.slice a m cap) m f A) (hB : B ≤ w.heap.size) (hf : ∀ i, i < m → ∀ j, j < 1 → (f i j).oneCell' = true) (hm : m ≤ 1000000) :
    Calls Try.prog 50 #[.slice a m cap] w (CopyPost 29 3 1 m f w) := by
  cases a with
  | none =>
    obtain rfl : m = 0 := by
      rcases Nat.eq_zero_or_pos m with h | h
      · exact h
      · obtain ⟨_, h1, _⟩ := hS.view etI h; cases h1
    have he := fun w => Lib.run_eql_slice_nil (P := Try.prog) w 29 3 none 0 cap 0 0 Try.underlying29
    go_enter Try.func50, Try.ntmps50
    go_wp2
    go_ret
    exact ⟨none, 0, A, rfl, Rd.nil _, Below.refl _ _, .inl rfl⟩
  | some ad =>
    have he := fun w => Lib.run_eql_slice_nil (P := Try.prog) w 29 3 (some ad) m cap 0 0 Try.underlying29
    go_enter Try.func50, Try.ntmps50
    go_wp2_with (at_builtin; refine copiedAny etI rfl _ _ rfl hS hB hf _ rfl (by simp) rfl (by omega) (by omega) ?_; intro g cp w1 hg R1 D1)
    go_ret
    obtain ⟨a', c', A', h1, h2⟩ := Rd.own etI R1
    cases h1
    exact ⟨_, _, A', rfl, h2, D1, .inr ⟨g, rfl, hg, R1⟩⟩
end Go.Proofs.Ytcpikabhcjkkmaa
