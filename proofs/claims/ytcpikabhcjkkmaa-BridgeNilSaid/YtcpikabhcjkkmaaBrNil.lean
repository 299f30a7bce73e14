/- The walk of the law BridgeNil. No conditions. -/
import Derived.Test.YtcpikabhcjkkmaaBrWk
namespace Go.Proofs.Ytcpikabhcjkkmaa
open Go.RowKit Go.Shelf

theorem stepB0 {w w1 w2 : World} (h : Below w.heap.size w w1) (k : Below w1.heap.size w1 w2) : Below w.heap.size w w2 := h.trans (k.mono h.size)
set_option maxRecDepth 100000 in
set_option maxHeartbeats 2000000 in
theorem nil_walk (x : Int) (w : World) :
    Calls Try.prog 6 #[.int .i64 x] w fun e w' => e = .returned (.bool true) ∧ Below w.heap.size w w' := by
  have hb0 : Below w.heap.size w ((w.alloc (.cells #[.pointer none, .slice none 0 0, .slice none 0 0, .slice none 0 0] 40)).alloc (.cells #[.pointer none, .pointer (some ⟨w.heap.size, 0, none⟩)] 23)) := ((Below.refl _ w).alloc (Nat.le_refl _) _).alloc (by simp) _
  have z0 : ((w.alloc (.cells #[.pointer none, .slice none 0 0, .slice none 0 0, .slice none 0 0] 40)).alloc (.cells #[.pointer none, .pointer (some ⟨w.heap.size, 0, none⟩)] 23)).cell? ⟨w.heap.size, 0, none⟩ = some (.pointer none) := by go_simp
  have p0 : ((w.alloc (.cells #[.pointer none, .slice none 0 0, .slice none 0 0, .slice none 0 0] 40)).alloc (.cells #[.pointer none, .pointer (some ⟨w.heap.size, 0, none⟩)] 23)).cell? ⟨w.heap.size + 1, 0, none⟩ = some (.pointer none) := by go_simp
  have p1 : ((w.alloc (.cells #[.pointer none, .slice none 0 0, .slice none 0 0, .slice none 0 0] 40)).alloc (.cells #[.pointer none, .pointer (some ⟨w.heap.size, 0, none⟩)] 23)).cell? ⟨w.heap.size + 1, 1, none⟩ = some (.pointer (some ⟨w.heap.size, 0, none⟩)) := by go_simp
  have hs0 : ((w.alloc (.cells #[.pointer none, .slice none 0 0, .slice none 0 0, .slice none 0 0] 40)).alloc (.cells #[.pointer none, .pointer (some ⟨w.heap.size, 0, none⟩)] 23)).heap.size = w.heap.size + 2 := by simp
  go_enter Try.func6, Try.ntmps6
  go_wp2_with fail
  generalize ((w.alloc (.cells #[.pointer none, .slice none 0 0, .slice none 0 0, .slice none 0 0] 40)).alloc (.cells #[.pointer none, .pointer (some ⟨w.heap.size, 0, none⟩)] 23)) = W0 at *
  go_loopw [5] (fun i wr => ∃ k : Nat, k ≤ 2 ∧ i = .int .i64 k ∧ Below W0.heap.size W0 wr) (fun i _ => 2 - (intOf i).toNat)
  case atStart => exact ⟨0, Nat.zero_le _, rfl, Below.refl _ _⟩
  case round =>
    obtain ⟨k, hk, rfl, bel⟩ := hrel
    have hsr := bel.size
    by_cases hlt : k < 2
    · obtain ⟨p, cp, hG⟩ : ∃ p, wr.cell? ⟨w.heap.size + 1, k, none⟩ = some (.pointer p) ∧ GV wr (w.heap.size + 1) (.pointer p) none := by
        rcases (show k = 0 ∨ k = 1 by omega) with rfl | rfl
        · exact ⟨none, (bel.cell (by show w.heap.size + 1 < _; omega)).trans p0, .inl rfl⟩
        · exact ⟨_, (bel.cell (by show w.heap.size + 1 < _; omega)).trans p1, .inr ⟨w.heap.size, rfl, by omega, (bel.cell (by show w.heap.size < _; omega)).trans z0⟩⟩
      have hki : (0 : Int) ≤ k ∧ (k : Int) < 2 := by omega
      have HG := Lib.hid (fun W (hb : Below wr.heap.size wr W) => hG.below (hb.mono (by omega)))
      obtain ⟨w0, rfl⟩ : ∃ w0 : World, w0 = wr := ⟨_, rfl⟩
      have bel0 : Below w0.heap.size w0 w0 := Below.refl _ _
      clear hG
      go_wp2_with fail
      clear cp
      refine (bridges_out (w.heap.size + 1) p 0 [] none (.inr ⟨rfl, rfl, rfl⟩) w0 (HG.out _ bel0) (by have := bel0.size; omega)).mono ?_
      rintro e w1 ⟨v, rfl, hv, b⟩
      have hv : RdI _ _ v [] := hv
      obtain ⟨a0, c0, A0, rfl, _⟩ := hv
      have bel1 := stepB0 bel0 b
      clear b bel0
      simp only [List.length_nil]
      go_wp2_with fail
      refine (cuts_out (w.heap.size + 1) p 0 [] none (.inr ⟨rfl, rfl, rfl⟩) w1 (HG.out _ bel1) (by have := bel1.size; omega)).mono ?_
      rintro e w2 ⟨v, rfl, hv, b⟩
      have hv : RdI _ _ v [] := hv
      obtain ⟨a1, c1, A1, rfl, _⟩ := hv
      have bel2 := stepB0 bel1 b
      clear b bel1
      simp only [List.length_nil]
      go_wp2_with fail
      refine (labels_out (w.heap.size + 1) p 0 [] none (.inr ⟨rfl, rfl, rfl⟩) w2 (HG.out _ bel2) (by have := bel2.size; omega)).mono ?_
      rintro e w3 ⟨v, rfl, hv, b⟩
      have hv : RdI _ _ v [] := hv
      obtain ⟨a2, c2, A2, rfl, _⟩ := hv
      have bel3 := stepB0 bel2 b
      clear b bel2
      simp only [List.length_nil]
      go_wp2_with fail
      refine (blocks_out (w.heap.size + 1) p 0 [] none (.inr ⟨rfl, rfl, rfl⟩) w3 (HG.out _ bel3) (by have := bel3.size; omega)).mono ?_
      rintro e w4 ⟨v, rfl, hv, b⟩
      obtain ⟨a3, c3, A3, RV, rfl, _⟩ := hv
      rw [show (bkL ([] : List Ed)).length = 0 from rfl]
      have bel4 := stepB0 bel3 b
      clear b bel3
      go_wp2_with fail
      refine (cycle_any (w.heap.size + 1) p 0 [] none (.inr ⟨rfl, rfl, rfl⟩) x w4 (HG.out _ bel4) (by have := bel4.size; omega)).mono ?_
      rintro e w5 ⟨v, l, rfl, hc, hv, b⟩
      obtain rfl : l = [] := hc.1 (fun h => by have := h.2; simp at this; omega)
      obtain ⟨a4, c4, A4, rfl, _⟩ := hv
      have bel5 := stepB0 bel4 b
      clear b bel4
      simp only [List.length_nil]
      go_wp2_with fail
      go_roundw
      case rel => exact ⟨k + 1, by omega, by go_num, stepB0 bel bel5⟩
      case measure => simp only [intOf]; omega
    · obtain rfl : k = 2 := by omega
      go_wp2_with fail
      refine (works_any wr).mono ?_
      rintro e w2 ⟨rfl, hb2⟩
      go_wp2_with fail
      go_ret
      exact ⟨rfl, hb0.trans ((stepB0 bel hb2).mono (by omega))⟩
end Go.Proofs.Ytcpikabhcjkkmaa
