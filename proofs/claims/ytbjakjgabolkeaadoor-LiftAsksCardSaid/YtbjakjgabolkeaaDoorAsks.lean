/- The walk of the law LiftAsks. Conditions: the bytes and the keys are given as cells; the library's table of de Bruijn is as its initialiser lays it. -/
import Derived.Test.YtbjakjgabolkeaaDoorNews
namespace Go.Proofs.YtbjakjgabolkeaaDoor
open Go.RowKit Go.Shelf

set_option maxRecDepth 100000 in
set_option maxHeartbeats 1000000 in
theorem asks_walk (B : Nat) (al : Option Addr) (cl : Nat) (Al : Nat → Addr) (L : List Int) (qa qb qk qm : Int) (a : Option Addr) (cap : Nat) (K : List Int) (A : Nat → Addr) (w : World) (hT : DeB w) (hSl : Sl 22 .u8 w B (.slice al L.length cl) L Al) (hSk : Sl 40 .i64 w B (.slice a K.length cap) K A) (hB : B ≤ w.heap.size) (hb : ∀ i, i < L.length → 0 ≤ nth L i ∧ nth L i ≤ 255) (hm1 : L.length ≤ 9223372036854775807) (hm2 : K.length ≤ 9223372036854775807) :
    Calls Tryd.prog 8 #[.slice al L.length cl, .agg #[.int .i64 qa, .int .i64 qb, .int .i64 qk, .slice a K.length cap, .int .i64 qm]] w fun e w' => e = .returned (.bool true) ∧ Below w.heap.size w w' := by
  have hW0 : Below w.heap.size w (w.alloc (.cells #[.int .i64 qa, .int .i64 qb, .int .i64 qk, .slice a K.length cap, .int .i64 qm] 42)) := (Below.refl _ _).alloc (Nat.le_refl _) _
  have k0 : (w.alloc (.cells #[.int .i64 qa, .int .i64 qb, .int .i64 qk, .slice a K.length cap, .int .i64 qm] 42)).cell? ⟨w.heap.size, 0, none⟩ = some (.int .i64 qa) := by go_simp
  have k1 : (w.alloc (.cells #[.int .i64 qa, .int .i64 qb, .int .i64 qk, .slice a K.length cap, .int .i64 qm] 42)).cell? ⟨w.heap.size, 1, none⟩ = some (.int .i64 qb) := by go_simp
  have k2 : (w.alloc (.cells #[.int .i64 qa, .int .i64 qb, .int .i64 qk, .slice a K.length cap, .int .i64 qm] 42)).cell? ⟨w.heap.size, 2, none⟩ = some (.int .i64 qk) := by go_simp
  have k3 : (w.alloc (.cells #[.int .i64 qa, .int .i64 qb, .int .i64 qk, .slice a K.length cap, .int .i64 qm] 42)).cell? ⟨w.heap.size, 3, none⟩ = some (.slice a K.length cap) := by go_simp
  have k4 : (w.alloc (.cells #[.int .i64 qa, .int .i64 qb, .int .i64 qk, .slice a K.length cap, .int .i64 qm] 42)).cell? ⟨w.heap.size, 4, none⟩ = some (.int .i64 qm) := by go_simp
  have hsz0 : (w.alloc (.cells #[.int .i64 qa, .int .i64 qb, .int .i64 qk, .slice a K.length cap, .int .i64 qm] 42)).heap.size = w.heap.size + 1 := by simp
  have h1 := hT.lt
  have hD0 := hT.below hW0 h1
  by_cases hb1 : 100 < L.length
  · go_enter Tryd.func8, Tryd.ntmps8
    go_wp2_with fail
    refine (works_any _ hD0).mono ?_
    rintro e w6 ⟨rfl, hb6⟩
    go_wp2_with fail
    go_ret
    exact ⟨rfl, hW0.trans (hb6.mono (by omega))⟩
  by_cases hb2 : 300 < K.length
  · go_enter Tryd.func8, Tryd.ntmps8
    go_wp2_with fail
    refine (works_any _ hD0).mono ?_
    rintro e w6 ⟨rfl, hb6⟩
    go_wp2_with fail
    go_ret
    exact ⟨rfl, hW0.trans (hb6.mono (by omega))⟩
  have hSl1 := hSl.below (hW0.mono hB)
  have hSk1 := hSk.below (hW0.mono hB)
  have hgr := grown_any B al cl Al L (w.alloc (.cells #[.int .i64 qa, .int .i64 qb, .int .i64 qk, .slice a K.length cap, .int .i64 qm] 42)) hSl1 (by omega) (by omega) hb
  have hE : newE (grownL L) = 0 := by
    have h2 := newE_made L false
    rw [show madeL L false = grownL (L.take 300) from rfl, List.take_of_length_le (by omega)] at h2
    exact h2
  have hPl : (grownL L).length = L.length := grownL_len L
  have hPb : (grownL L).length ≤ 100 := by omega
  have HPl := Lib.hid hPl
  clear hSl hSk hT hSl1 hb hPl
  generalize grownL L = P at *
  have HE := Lib.hid hE
  clear hE
  go_enter Tryd.func8, Tryd.ntmps8
  go_wp2_with fail
  refine hgr.mono ?_
  rintro e w1 ⟨v1, rfl, R1, b1⟩
  obtain ⟨-, a1, cap1, A1, rfl, S1⟩ := Sl.own et25 R1
  have s1 := b1.size
  clear hgr R1
  go_wp2_with fail
  refine (new_ok HE.out S1 (Nat.le_refl _)).mono ?_
  rintro e w2 ⟨b, rfl, T2, b2⟩
  have s2 := b2.size
  have S2 := (S1.below b2).mono s2
  clear S1
  go_wp2_with fail
  refine (ref_any w2.heap.size _ _ A1 P w2 (by omega) S2 (Nat.le_refl _)).mono ?_
  rintro e w3 ⟨b3, h9⟩
  obtain ⟨-, c, rfl, hT3⟩ := h9.resolve_right (fun h => h.1 HE.out)
  have s3 := b3.size
  have hBo : Both w3 w3.heap.size (some P) (.pointer (some ⟨b, 0, none⟩)) (.pointer (some ⟨c, 0, none⟩)) := ⟨⟨b, rfl, (T2.below b3).mono s3⟩, c, rfl, hT3 w3 (fun _ _ _ => rfl)⟩
  have hb3 : Below (w.heap.size + 1) (w.alloc (.cells #[.int .i64 qa, .int .i64 qb, .int .i64 qk, .slice a K.length cap, .int .i64 qm] 42)) w3 := by
    rw [← hsz0]; exact b1.trans ((b2.trans (b3.mono s2)).mono s1)
  have hK3 : Sl 40 .i64 w3 w3.heap.size (.slice a K.length cap) K A := (hSk1.below (hb3.mono (by omega))).mono (by omega)
  have hD3 := hD0.below hb3 (by omega)
  have hcc : ∀ j : Nat, w3.cell? ⟨w.heap.size, j, none⟩ = (w.alloc (.cells #[.int .i64 qa, .int .i64 qb, .int .i64 qk, .slice a K.length cap, .int .i64 qm] 42)).cell? ⟨w.heap.size, j, none⟩ := fun j => hb3.cell (by show w.heap.size < w.heap.size + 1; omega)
  have d0 := (hcc 0).trans k0; have d1 := (hcc 1).trans k1; have d2 := (hcc 2).trans k2; have d3 := (hcc 3).trans k3; have d4 := (hcc 4).trans k4
  have hws : w.heap.size < w3.heap.size := by omega
  have hbel := hW0.trans (hb3.mono (Nat.le_succ _))
  clear h9 hT3 T2 b1 b2 b3 S2 hSk1 hD0 hcc k0 k1 k2 k3 k4 hW0 hb3
  go_wp2_with fail
  go_loopw [10] (fun i wr => ∃ k : Nat, k ≤ P.length + 2 ∧ i = .int .i64 ((k : Int) - 1) ∧ Below w3.heap.size w3 wr) (fun i _ => P.length + 2 - (intOf i + 1).toNat)
  case atStart => exact ⟨0, Nat.zero_le _, rfl, Below.refl _ _⟩
  case round =>
    obtain ⟨k, hk, rfl, hbr⟩ := hrel
    have hcc : ∀ j : Nat, wr.cell? ⟨w.heap.size, j, none⟩ = w3.cell? ⟨w.heap.size, j, none⟩ := fun j => hbr.cell (by exact hws)
    have c0 := (hcc 0).trans d0; have c1 := (hcc 1).trans d1; have c2 := (hcc 2).trans d2; have c3 := (hcc 3).trans d3; have c4 := (hcc 4).trans d4
    by_cases hlt : k < P.length + 2
    · have hlt' : (k : Int) - 1 ≤ P.length := by omega
      have hA : ∀ o, Below w3.heap.size w3 (wr.alloc o) := fun o => hbr.alloc hbr.size o
      go_wp2_with fail
      refine (agree_walk w3.heap.size _ _ _ _ _ _ _ K A _ _ _ _ (hBo.below (hA _)) (hK3.below (hA _)) (hA _).size rfl (by omega) (hD3.below (hA _) (by omega))).mono ?_
      rintro e w5 ⟨rfl, hb5⟩
      have hsr := hbr.size
      have e1 : w5.cell? ⟨w.heap.size, 2, none⟩ = some (.int .i64 qk) := (hb5.cell (by simp; omega)).trans (((hA _).cell (by exact hws)).trans d2)
      have e2 : w5.cell? ⟨wr.heap.size, 0, none⟩ = some (.int .i64 ((k : Int) - 1)) := (hb5.cell (by simp)).trans (by go_simp)
      have e3 : w5.cell? ⟨wr.heap.size, 1, none⟩ = some (.int .i64 qb) := (hb5.cell (by simp)).trans (by go_simp)
      have e4 : w5.cell? ⟨wr.heap.size, 2, none⟩ = some (.int .i64 qk) := (hb5.cell (by simp)).trans (by go_simp)
      have e5 : w5.cell? ⟨wr.heap.size, 3, none⟩ = some (.slice a K.length cap) := (hb5.cell (by simp)).trans (by go_simp)
      have e6 : w5.cell? ⟨wr.heap.size, 4, none⟩ = some (.int .i64 qm) := (hb5.cell (by simp)).trans (by go_simp)
      have z1 : ∀ j : Nat, w5.frozen? ⟨wr.heap.size, j, none⟩ = false := fun j => (hb5.frozen (by simp)).trans (by go_simp)
      have hb6 : Below w3.heap.size w3 w5 := (hA _).trans (hb5.mono (hA _).size)
      clear hb5 hA hbr hcc
      go_wp2_with fail
      have hA : ∀ x y, Below w3.heap.size w3 ((w5.setCell ⟨wr.heap.size, 1, none⟩ x).setCell ⟨wr.heap.size, 2, none⟩ y) := fun x y => (hb6.setCell (p := ⟨wr.heap.size, 1, none⟩) hsr x).setCell (p := ⟨wr.heap.size, 2, none⟩) hsr y
      refine (agree_walk w3.heap.size _ _ _ _ _ _ _ K A _ _ _ _ (hBo.below (hA _ _)) (hK3.below (hA _ _)) (hA _ _).size rfl (by omega) (hD3.below (hA _ _) (by omega))).mono ?_
      rintro e w7 ⟨rfl, hb7⟩
      have hb8 : Below w3.heap.size w3 w7 := (hA _ _).trans (hb7.mono (hA _ _).size)
      clear hb7 hA e1 e2 e3 e4 e5 e6 z1
      go_wp2_with fail
      go_roundw
      case rel => exact ⟨k + 1, by omega, by congr 1; omega, hb8⟩
      case measure => simp only [intOf]; omega
    · obtain rfl : k = P.length + 2 := by omega
      go_wp2_with fail
      refine (works_any _ (hD3.below hbr (by omega))).mono ?_
      rintro e w6 ⟨rfl, hb6⟩
      go_wp2_with fail
      go_ret
      exact ⟨rfl, hbel.trans ((hbr.trans (hb6.mono hbr.size)).mono (by omega))⟩
end Go.Proofs.YtbjakjgabolkeaaDoor
