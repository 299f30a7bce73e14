/- The walk of slices.Delete at edges, one edge is taken out. Conditions: the edges lie in a row of their own. -/
import Derived.Test.YtcpikabhcjkkmaaMe
import Derived.Shelf.RegionOpenPlain
import Derived.Deep.RegionLaw
import Derived.Lib.SliceRun
namespace Go.Proofs.Ytcpikabhcjkkmaa
open Go.RowKit

/-- the edges without one of them -/
def cutE (E : List Ed) (i : Nat) : List Ed := E.take i ++ E.drop (i + 1)
theorem cutE_len {E : List Ed} {i : Nat} (h : i < E.length) : (cutE E i).length = E.length - 1 := by
  simp [cutE]; omega
theorem cutE_at {E : List Ed} {i j : Nat} (h : i < E.length) : eAt (cutE E i) j = eAt E (if j < i then j else j + 1) := by
  unfold cutE eAt
  rw [List.getD_eq_getElem?_getD, List.getD_eq_getElem?_getD]
  congr 1
  split
  · rw [List.getElem?_append_left (by simp; omega), List.getElem?_take, if_pos (by omega)]
  · rw [List.getElem?_append_right (by simp; omega), List.getElem?_drop]
    congr 1
    simp only [List.length_take]; omega
theorem run_clear_one (w : World) (t e ty : TypeId) (z : Value) (ht : Try.prog.underlying t = some (.slice e)) (hv : ∀ w, (zeroValue e).run Try.prog w = .ok z w) (cs : List Value) (hz : (Builtin.zeroCells z.cells 1).toList = cs) (h1 : ∀ v, v ∈ cs → v.oneCell' = true) (b o c : Nat)
    (hc : ∀ j, j < cs.length → (w.cell? ⟨b, o + j, none⟩).isSome = true) (hf : ∀ j, j < cs.length → w.frozen? ⟨b, o + j, none⟩ = false) :
    (Builtin.clear_ #[t] ty #[.slice (some ⟨b, o, none⟩) 1 c]).run Try.prog w = .ok (.tuple #[]) (w.setCells b o cs) := by
  have hst := run_storeCells_cells (P := Try.prog) b o cs 0 w (by simpa using hc) (by simpa using hf) h1
  simp only [Nat.add_zero] at hst
  simp [Builtin.clear_, run_underlying ht, hv, hz, hst]
theorem zeroEd (w : World) : (zeroValue 48).run Try.prog w = .ok (.agg #[.int .i64 0, .int .i64 0, .int .i64 0]) w := by kernel_rfl
theorem setCells_below {B g : Nat} (hg : B ≤ g) : ∀ (vs : List Value) (o : Nat) (w : World), Below B w (w.setCells g o vs)
  | [], _, w => Below.refl B w
  | v :: r, o, w => ((Below.refl B w).setCell (p := ⟨g, o, none⟩) hg v).trans (setCells_below hg r (o + 1) _)
theorem setCells_size {g : Nat} : ∀ (vs : List Value) (o : Nat) (w : World), (w.setCells g o vs).heap.size = w.heap.size
  | [], _, _ => rfl
  | v :: r, o, w => by
    show ((w.setCell ⟨g, o, none⟩ v).setCells g (o + 1) r).heap.size = _
    rw [setCells_size r]; simp [World.setCell]
theorem edC_cut (E : List Ed) {i x : Nat} (h : i < E.length) (y : Nat) : edC (cutE E i) x y = edC E (if x < i then x else x + 1) y := by
  unfold edC
  rw [cutE_at h]
/-- what Delete answers -/
def DelRes (E : List Ed) (i g cap : Nat) (w : World) (e : Ending) (w' : World) : Prop :=
  ∃ A, e = .returned (.slice (some ⟨g, 0, none⟩) (cutE E i).length cap) ∧ ES w' w'.heap.size (.slice (some ⟨g, 0, none⟩) (cutE E i).length cap) (cutE E i) A ∧ Below g w w' ∧ w'.heap.size = w.heap.size
set_option maxHeartbeats 4000000 in
set_option maxRecDepth 1000000 in
theorem delete_any (base g cap i j : Nat) (E : List Ed) (w : World) (h : OwnE base (.slice (some ⟨g, 0, none⟩) E.length cap) E w) (hi : i < E.length) (hj : j = i + 1) :
    Calls Try.prog 56 #[.slice (some ⟨g, 0, none⟩) E.length cap, .int .i64 (i : Nat), .int .i64 (j : Nat)] w (DelRes E i g cap w) := by
  have hcell : ∀ t, t < E.length * 3 → ∃ u, (flat (edC E) E.length 3)[t]? = some u ∧ w.cell? ⟨g, t, none⟩ = some u ∧ u.oneCell' = true := fun t ht => by
    obtain ⟨x, y, hx, hy, rfl⟩ := div_mod_of ht
    refine ⟨_, flat_at hx hy, ?_, edC_one E x y⟩
    have := h.cells (g := g) rfl (x * 3 + y) (edC E x y) (flat_at hx hy)
    rwa [add_mk, Nat.zero_add] at this
  have hnc : E.length ≤ cap := by
    rcases h.2 with ⟨h0, _⟩ | ⟨g', cap', cur, h1, hb, hg, hn, hm, hs, ht⟩
    · cases h0
    · cases h1; exact hn
  have hlt : g < w.heap.size := by
    rcases h.2 with ⟨h0, _⟩ | ⟨g', cap', cur, h1, hb, hg, hn, hm, hs, ht⟩
    · cases h0
    · cases h1; exact (Array.getElem?_eq_some_iff.1 hg).1
  have hfz : ∀ t, w.frozen? ⟨g, t, none⟩ = false := fun t => by
    rcases h.2 with ⟨h0, _⟩ | ⟨g', cap', cur, h1, hb, hg, hn, hm, hs, ht⟩
    · cases h0
    · cases h1; simp [World.frozen?, hg]
  obtain ⟨n, hn⟩ : ∃ n, E.length = n := ⟨_, rfl⟩
  rw [hn] at hcell hnc hi ⊢
  obtain ⟨news, hnews⟩ : ∃ news, news = (flat (edC E) n 3).drop (j * 3) := ⟨_, rfl⟩
  have hlen : news.length = (n - j) * 3 := by rw [hnews, List.length_drop, flat_len, Nat.sub_mul]
  obtain ⟨A, hA, hsrc⟩ : ∃ A : Addr, (if cap = j then some (⟨g, 0, none⟩ : Addr) else some ⟨g, j * 3, none⟩) = some A ∧ Hid (∀ t u, news[t]? = some u → w.drew.cell? (A.add t) = some u) := by
    by_cases h : cap = j
    · refine ⟨⟨g, 0, none⟩, by simp [h], fun t u hu => ?_⟩
      have h0 : news.length = 0 := by rw [hlen]; omega
      rw [List.length_eq_zero_iff.1 h0] at hu
      simp at hu
    · refine ⟨⟨g, j * 3, none⟩, by simp [h], fun t u hu => ?_⟩
      have ht : t < (n - j) * 3 := by
        have := (List.getElem?_eq_some_iff.1 hu).1
        rwa [hlen] at this
      obtain ⟨u', h1, h2, _⟩ := hcell (j * 3 + t) (by omega)
      rw [hnews, List.getElem?_drop, ← hn, hn, h1] at hu
      cases hu
      rw [Addr.add_lit]
      exact h2
  have s1 : Hid (news.length = (n - j) * 3) := hlen
  have s2 : Hid (∀ u ∈ news, u.oneCell' = true) := fun u hu => by
    rw [hnews] at hu
    obtain ⟨t, ht, rfl⟩ := List.mem_iff_getElem.1 (List.mem_of_mem_drop hu)
    rw [flat_len] at ht
    obtain ⟨u', h1, _, h3⟩ := hcell t ht
    rw [List.getElem?_eq_getElem (by rw [flat_len]; exact ht)] at h1
    rw [Option.some.inj h1]; exact h3
  have s3 : Hid (∀ t, t < news.length → (w.drew.cell? ⟨g, 0 + i * 3 + t, none⟩).isSome = true ∧ w.drew.frozen? ⟨g, 0 + i * 3 + t, none⟩ = false) := fun t ht => by
    rw [hlen] at ht
    obtain ⟨u', _, h2, _⟩ := hcell (i * 3 + t) (by omega)
    rw [Nat.zero_add]
    refine ⟨?_, hfz _⟩
    show (w.cell? _).isSome = true
    rw [h2]; rfl
  obtain ⟨W1, hW1⟩ : ∃ W1, W1 = w.drew.setCells g (0 + i * 3) news := ⟨_, rfl⟩
  have hW : Hid (W1 = w.drew.setCells g (0 + i * 3) news) := hW1
  have hW0 : W1 = w.drew.setCells g (i * 3) news := by rw [hW1, Nat.zero_add]
  have hc1 : ∀ t, t < n * 3 → (W1.cell? ⟨g, t, none⟩).isSome = true := fun t ht => by
    by_cases hin : i * 3 ≤ t ∧ t < i * 3 + news.length
    · rw [hW0]
      have := World.cell?_setCells_in g news (i * 3) w.drew (fun q hq => by
        rw [hlen] at hq
        obtain ⟨u', _, h2, _⟩ := hcell (i * 3 + q) (by omega)
        show (w.cell? _).isSome = true
        rw [h2]; rfl) (t - i * 3) (by omega)
      rw [show i * 3 + (t - i * 3) = t by omega] at this
      rw [this]; rfl
    · rw [hW0, World.cell?_setCells_out g news (i * 3) w.drew _ (fun _ _ => by show t < i * 3 ∨ i * 3 + news.length ≤ t; omega)]
      obtain ⟨u', _, h2, _⟩ := hcell t ht
      show (w.cell? _).isSome = true
      rw [h2]; rfl
  have hf1 : ∀ t, W1.frozen? ⟨g, t, none⟩ = false := fun t => by
    rw [hW0, World.frozen?_setCells]; exact hfz t
  have hcl : ∀ ty, (Builtin.clear_ #[22] ty #[.slice (some ⟨g, (i + (n - j)) * 3, none⟩) (n - (i + (n - j))) (cap - (i + (n - j)))]).run Try.prog W1 = .ok (.tuple #[]) (W1.setCells g ((i + (n - j)) * 3) [.int .i64 0, .int .i64 0, .int .i64 0]) := fun ty => by
    have e : n - (i + (n - j)) = 1 := by omega
    rw [e]
    refine run_clear_one W1 _ _ ty _ Try.underlying22 zeroEd _ (by kernel_rfl) (by simp [Value.oneCell']) g _ _ (fun q hq => hc1 _ ?_) (fun q _ => hf1 _)
    simp only [List.length_cons, List.length_nil] at hq
    omega
  have HF : Hid (DelRes E i g cap w (.returned (.slice (some ⟨g, 0, none⟩) (i + (n - j) : Nat) cap)) (W1.setCells g ((i + (n - j)) * 3) [.int .i64 0, .int .i64 0, .int .i64 0])) := by
    have e : i + (n - j) = (cutE E i).length := by rw [cutE_len (by omega)]; omega
    have bel : Below g w (W1.setCells g ((i + (n - j)) * 3) [.int .i64 0, .int .i64 0, .int .i64 0]) := by
      rw [hW0]
      exact (Below.refl g w).drew.trans ((setCells_below (Nat.le_refl g) _ _ _).trans (setCells_below (Nat.le_refl g) _ _ _))
    have hsz : (W1.setCells g ((i + (n - j)) * 3) [.int .i64 0, .int .i64 0, .int .i64 0]).heap.size = w.heap.size := by
      rw [setCells_size, hW0, setCells_size]; rfl
    refine ⟨fun i => (⟨g, 0, none⟩ : Addr).add (i * 3), by rw [e], ?_, bel, hsz⟩
    refine Rd.addr etE (fun _ => by rw [hsz]; exact hlt) fun x hx y hy => ?_
    rw [← e] at hx
    rw [add_mk, Nat.zero_add, World.cell?_setCells_out g _ _ W1 _ (fun _ _ => by show x * 3 + y < _ ∨ _; omega), hW0, edC_cut E (by omega) y]
    by_cases hxi : x < i
    · rw [World.cell?_setCells_out g _ _ _ _ (fun _ _ => by show x * 3 + y < _ ∨ _; omega), if_pos hxi]
      obtain ⟨u', h1, h2, _⟩ := hcell (x * 3 + y) (by omega)
      rw [flat_at (by omega) hy] at h1
      cases h1
      exact h2
    · rw [if_neg hxi]
      have hlt : x * 3 + y - i * 3 < news.length := by rw [hlen]; omega
      have := World.cell?_setCells_in g news (i * 3) w.drew (fun q hq => by
        rw [hlen] at hq
        obtain ⟨u', _, h2, _⟩ := hcell (i * 3 + q) (by omega)
        show (w.cell? _).isSome = true
        rw [h2]; rfl) (x * 3 + y - i * 3) hlt
      rw [show i * 3 + (x * 3 + y - i * 3) = x * 3 + y by omega] at this
      rw [this]
      have h3 : news[x * 3 + y - i * 3]? = some (edC E (x + 1) y) := by
        rw [hnews, List.getElem?_drop, show j * 3 + (x * 3 + y - i * 3) = (x + 1) * 3 + y by omega, flat_at (by omega) hy]
      rw [List.getElem?_eq_getElem hlt] at h3
      exact h3
  have mixed : Try.prog.follows Departure.mixedOrders = true := by kernel_rfl
  have hij : i ≠ j := by omega
  have hil : i ≤ j := by omega
  have hijd : ((i : Int) == (j : Nat)) = false := by simp; omega
  have hic : i ≤ cap := by omega
  have hjc : j ≤ cap := by omega
  have hjn : j ≤ n := by omega
  obtain ⟨i0, z0, hi0, hz0, hz1, hz2, hz3⟩ := etE.info
  clear hW1 hW0 hnews hlen hcell hfz h hj hc1 hf1 hlt
  go_enter Try.func56, Try.ntmps56
  go_wp2_with fail
  go_region_law_o (refine step_append_room rfl (.tmp 22) (.tmp 25) 22 rfl 48 i0 3 Try.underlying22 hi0 hz1 g 0 i cap (by simp [Act.eval, Act.put]) A (n - j) (cap - j) news (by simp [Act.eval, Act.put]) s1.out hsrc.out s2.out (by omega) s3.out ?_; rw [← hW.out])
  go_wp2
  go_ret
  exact HF.out
end Go.Proofs.Ytcpikabhcjkkmaa
