/- The walk of the law LiftNil. Conditions: the library's table of de Bruijn is as its initialiser lays it. -/
import Derived.Test.YtbjakjgabolkeaaDoorNone
namespace Go.Proofs.YtbjakjgabolkeaaDoor
open Go.RowKit Go.Shelf

/-- where the law stands: what is asked lies in block s, the table that was not made behind it, the list of both behind that -/
structure NilSt (s : Nat) (qa qb qk qm : Int) (a : Option Addr) (n cap : Nat) (w0 W : World) : Prop where
  c0 : W.cell? ⟨s, 0, none⟩ = some (.int .i64 qa)
  c1 : W.cell? ⟨s, 1, none⟩ = some (.int .i64 qb)
  c2 : W.cell? ⟨s, 2, none⟩ = some (.int .i64 qk)
  c3 : W.cell? ⟨s, 3, none⟩ = some (.slice a n cap)
  c4 : W.cell? ⟨s, 4, none⟩ = some (.int .i64 qm)
  z : W.cell? ⟨s + 1, 0, none⟩ = some (.bool false)
  l : ∀ k, k < 2 → ∃ v, W.cell? ⟨s + 1 + 1, k, none⟩ = some v ∧ (v = .pointer none ∨ v = .pointer (some ⟨s + 1, 0, none⟩))
  size : s + 3 ≤ W.heap.size
  deb : DeB W
  bel : Below s w0 W
theorem NilSt.step {s : Nat} {qa qb qk qm : Int} {a : Option Addr} {n cap : Nat} {w0 W W' : World} (N : NilSt s qa qb qk qm a n cap w0 W) (hb : Below W.heap.size W W') : NilSt s qa qb qk qm a n cap w0 W' := by
  have hs := N.size
  have hc : ∀ (k o : Nat), k < s + 3 → W'.cell? ⟨k, o, none⟩ = W.cell? ⟨k, o, none⟩ := fun k o hk => hb.cell (by show k < W.heap.size; omega)
  exact ⟨by rw [hc _ _ (by omega)]; exact N.c0, by rw [hc _ _ (by omega)]; exact N.c1, by rw [hc _ _ (by omega)]; exact N.c2, by rw [hc _ _ (by omega)]; exact N.c3, by rw [hc _ _ (by omega)]; exact N.c4,
    by rw [hc _ _ (by omega)]; exact N.z, fun k hk => by rw [hc _ _ (by omega)]; exact N.l k hk, Nat.le_trans hs hb.size, N.deb.below hb N.deb.lt, N.bel.trans (hb.mono (by omega))⟩
theorem NilSt.no {s : Nat} {qa qb qk qm : Int} {a : Option Addr} {n cap : Nat} {w0 W : World} {v : Value} (N : NilSt s qa qb qk qm a n cap w0 W) (h : v = .pointer none ∨ v = .pointer (some ⟨s + 1, 0, none⟩)) : NoTab W (s + 3) v := by
  rcases h with h | h
  · exact .inl h
  · exact .inr ⟨s + 1, by omega, h, N.z⟩

set_option maxRecDepth 100000 in
set_option maxHeartbeats 8000000 in
theorem nil_walk (qa qb qk qm : Int) (a : Option Addr) (n cap : Nat) (w : World) (hT : DeB w) :
    Calls Tryd.prog 9 #[.agg #[.int .i64 qa, .int .i64 qb, .int .i64 qk, .slice a n cap, .int .i64 qm]] w fun e w' => e = .returned (.bool true) ∧ Below w.heap.size w w' := by
  have h1 := hT.lt
  have hB : Below w.heap.size w (((w.alloc (.cells #[.int .i64 qa, .int .i64 qb, .int .i64 qk, .slice a n cap, .int .i64 qm] 42)).alloc (.cells #[.bool false, .slice none 0 0, .slice none 0 0, .slice none 0 0, .slice none 0 0, .slice none 0 0, .slice none 0 0, .slice none 0 0, .slice none 0 0, .slice none 0 0, .slice none 0 0, .slice none 0 0, .slice none 0 0, .slice none 0 0, .slice none 0 0] 52)).alloc (.cells #[.pointer none, .pointer (some ⟨w.heap.size + 1, 0, none⟩)] 24)) :=
    (((Below.refl _ w).alloc (Nat.le_refl _) _).alloc (by simp) _).alloc (by simp; omega) _
  have N0 : NilSt w.heap.size qa qb qk qm a n cap w (((w.alloc (.cells #[.int .i64 qa, .int .i64 qb, .int .i64 qk, .slice a n cap, .int .i64 qm] 42)).alloc (.cells #[.bool false, .slice none 0 0, .slice none 0 0, .slice none 0 0, .slice none 0 0, .slice none 0 0, .slice none 0 0, .slice none 0 0, .slice none 0 0, .slice none 0 0, .slice none 0 0, .slice none 0 0, .slice none 0 0, .slice none 0 0, .slice none 0 0] 52)).alloc (.cells #[.pointer none, .pointer (some ⟨w.heap.size + 1, 0, none⟩)] 24)) :=
    ⟨by go_simp, by go_simp, by go_simp, by go_simp, by go_simp, by go_simp, fun k hk => by
      rcases (show k = 0 ∨ k = 1 by omega) with rfl | rfl
      · exact ⟨.pointer none, by go_simp, .inl rfl⟩
      · exact ⟨.pointer (some ⟨w.heap.size + 1, 0, none⟩), by go_simp, .inr rfl⟩, by simp, hT.below hB h1, hB⟩
  clear hB hT
  go_enter Tryd.func9, Tryd.ntmps9
  go_wp2_with fail
  generalize (((w.alloc (.cells #[.int .i64 qa, .int .i64 qb, .int .i64 qk, .slice a n cap, .int .i64 qm] 42)).alloc (.cells #[.bool false, .slice none 0 0, .slice none 0 0, .slice none 0 0, .slice none 0 0, .slice none 0 0, .slice none 0 0, .slice none 0 0, .slice none 0 0, .slice none 0 0, .slice none 0 0, .slice none 0 0, .slice none 0 0, .slice none 0 0, .slice none 0 0] 52)).alloc (.cells #[.pointer none, .pointer (some ⟨w.heap.size + 1, 0, none⟩)] 24)) = W0 at *
  go_loopw [6] (fun i wr => ∃ k : Nat, k ≤ 2 ∧ i = .int .i64 k ∧ NilSt w.heap.size qa qb qk qm a n cap w wr) (fun i _ => 2 - (intOf i).toNat)
  case atStart => exact ⟨0, by omega, rfl, N0⟩
  case round =>
    obtain ⟨k, hk, rfl, N1⟩ := hrel
    clear N0
    by_cases hlt : k < 2
    · obtain ⟨v, hv, hvv⟩ := N1.l k hlt
      have hki : (0 : Int) ≤ k ∧ (k : Int) < 2 := by omega
      have c0 := N1.c0; have c1 := N1.c1; have c2 := N1.c2; have c3 := N1.c3; have c4 := N1.c4
      have HV := Lib.hid hvv
      clear hvv
      go_wp2_with fail
      refine (root_no (N1.no HV.out) N1.size).mono ?_
      rintro e w2 ⟨rfl, hb2⟩
      have N2 := N1.step hb2
      have c0 := N2.c0; have c1 := N2.c1; have c2 := N2.c2; have c3 := N2.c3; have c4 := N2.c4
      skip
      go_wp2_with fail
      refine (up_no' (N2.no HV.out) N2.size).mono ?_
      rintro e w3 ⟨rfl, hb3⟩
      have N3 := N2.step hb3
      have c0 := N3.c0; have c1 := N3.c1; have c2 := N3.c2; have c3 := N3.c3; have c4 := N3.c4
      go_wp2_with fail
      refine (common_no (N3.no HV.out)).mono ?_
      rintro e w4 ⟨rfl, rfl⟩
      go_wp2_with fail
      refine (dist_no (N3.no HV.out)).mono ?_
      rintro e w5 ⟨rfl, rfl⟩
      go_wp2_with fail
      refine (climb_no (N3.no HV.out) N3.size).mono ?_
      rintro e w6 ⟨rfl, hb6⟩
      have N6 := N3.step hb6
      have c0 := N6.c0; have c1 := N6.c1; have c2 := N6.c2; have c3 := N6.c3; have c4 := N6.c4
      go_wp2_with fail
      refine (len_no (N6.no HV.out)).mono ?_
      rintro e w7 ⟨rfl, rfl⟩
      go_wp2_with fail
      refine (depth_no (N6.no HV.out)).mono ?_
      rintro e w8 ⟨rfl, rfl⟩
      go_wp2_with fail
      refine (above_no (N6.no HV.out)).mono ?_
      rintro e w9 ⟨rfl, rfl⟩
      go_wp2_with fail
      go_roundw
      case rel => exact ⟨k + 1, by omega, by go_num, N6⟩
      case measure => simp [intOf]; omega
    · obtain rfl : k = 2 := by omega
      go_wp2_with fail
      refine (works_any _ N1.deb).mono ?_
      rintro e w2 ⟨rfl, hb2⟩
      go_wp2_with fail
      go_ret
      exact ⟨rfl, (N1.step hb2).bel⟩
end Go.Proofs.YtbjakjgabolkeaaDoor
