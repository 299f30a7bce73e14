/- The walk of the law ClusterNil. No conditions. -/
import Derived.Test.YtibdggbejogciaaCvZ
import Derived.Test.YtibdggbejogciaaCk
namespace Go.Proofs.Ytibdggbejogciaa
open Go.RowKit

theorem Try.infoV : (Try.prog.info? 24).map (fun i => (i.zero, i.size, i.bytes)) = some (some (.pointer none), 1, 8) := by kernel_rfl
theorem etV : ET 58 24 1 8 := ET.of Try.underlying58 Try.infoV rfl (by decide)
/-- the two views of the law -/
def nlV (vb i : Nat) : Value := if i = 0 then .pointer none else .pointer (some ⟨vb, 0, none⟩)
def nlZ : Array Value := #[.pointer none, .int .i64 0, .slice none 0 0, .slice none 0 0, .slice none 0 0, .slice none 0 0, .slice none 0 0, .slice none 0 0]
theorem nl_start (w : World) (t t' : TypeId) : ∃ (w2 : World) (A : Nat → Addr), w2 = (w.alloc (.cells #[.pointer none, .int .i64 0, .slice none 0 0, .slice none 0 0, .slice none 0 0, .slice none 0 0, .slice none 0 0, .slice none 0 0] t)).alloc (.cells #[.pointer none, .pointer (some ⟨w.heap.size, 0, none⟩)] t') ∧
    Rd 58 1 w2 w2.heap.size (.slice (some ⟨w.heap.size + 1, 0, none⟩) 2 2) 2 (fun i _ => nlV w.heap.size i) A ∧ (∀ k, k < 2 → NoVw w2 (nlV w.heap.size k)) ∧ Below w.heap.size w w2 := by
  have h1 : Below w.heap.size w (w.alloc (.cells nlZ t)) := (Below.refl _ _).alloc (Nat.le_refl _) _
  have r1 : Row (w.alloc (.cells nlZ t)) w.heap.size 1 (fun _ => .pointer none) := Row.lit w _ _ (by decide) fun i hi => by
    obtain rfl : i = 0 := by omega
    rfl
  obtain ⟨w1, hw1⟩ : ∃ x, x = w.alloc (.cells nlZ t) := ⟨_, rfl⟩
  have s1 : w1.heap.size = w.heap.size + 1 := by rw [hw1]; simp
  have h2 : Below w1.heap.size w1 (w1.alloc (.cells #[.pointer none, .pointer (some ⟨w.heap.size, 0, none⟩)] t')) := (Below.refl _ _).alloc (Nat.le_refl _) _
  rw [← hw1] at r1 h1
  refine ⟨w1.alloc (.cells #[.pointer none, .pointer (some ⟨w.heap.size, 0, none⟩)] t'), _, by rw [hw1]; rfl, Rd.addr etV (fun _ => by simp; omega) fun i hi j hj => ?_, fun k hk => ?_, h1.trans (h2.mono (by omega))⟩
  · obtain rfl : j = 0 := by omega
    have r2 : Row (w1.alloc (.cells #[.pointer none, .pointer (some ⟨w.heap.size, 0, none⟩)] t')) w1.heap.size 2 (nlV w.heap.size) := Row.lit w1 _ _ (by simp) fun i hi => by
      match i, hi with
      | 0, _ => rfl
      | 1, _ => rfl
      | n + 2, h => omega
    rw [s1] at r2
    rw [add_mk, Nat.mul_one, Nat.zero_add, Nat.add_zero]
    exact r2.cell hi
  · match k, hk with
    | 0, _ => exact noVw_nil _
    | 1, _ => exact noVw_zero (r1.below h2 (by omega)) (by decide) rfl (by simp; omega)
    | n + 2, h => omega
theorem nl_row : lgN 0 id (lbL id 0) = 0 ∧ cntN 0 id = 0 ∧ sqN 0 id (lbL id 0) = 0 ∧ (lbL id 0).length = 0 := by decide
set_option maxRecDepth 100000 in
set_option maxHeartbeats 4000000 in
theorem cnil_walk (u θ : Int) (w : World) : Calls Try.prog 7 #[.int .i64 u, .int .i64 θ] w fun e w' => e = .returned (.bool true) ∧ Below w.heap.size w w' := by
  have hge := fun w => group_neq 0 0 0 0 w
  have hre := fun w => crow_neq 0 0 0 0 0 0 w
  simp only [decide_true, Bool.and_self, Bool.not_true] at hge hre
  obtain ⟨w2, A, hw2, hA, hN, hb2⟩ := nl_start w 57 24
  have HW := Lib.hid hw2; have HA := Lib.hid hA; have HN := Lib.hid hN; have B2 := Lib.hid hb2
  clear hw2 hA hN hb2
  go_enter Try.func7, Try.ntmps7
  go_wp2_with fail
  rw [← HW.out]
  clear HW
  go_loopw [7] (fun iv wr => ∃ k : Nat, k ≤ 2 ∧ iv = .int .i64 (k : Nat) ∧ Hid (Below w2.heap.size w2 wr)) (fun iv _ => 2 - (intOf iv).toNat)
  case atStart => exact ⟨0, by omega, rfl, Lib.hid (Below.refl _ _)⟩
  case round =>
    obtain ⟨k, hk, rfl, BW⟩ := hrel
    by_cases hlt : k < 2
    · have hR := HA.out.below BW.out
      have i1 := hR.ix k hlt
      have l1 := hR.cell k hlt 0 (by omega)
      rw [add_zero] at l1
      obtain ⟨v, hv⟩ : ∃ v, nlV w.heap.size k = v := ⟨_, rfl⟩
      have hn := (HN.out k hlt).at BW.out
      rw [hv] at l1 hn
      have HV := Lib.hid hn
      clear hR hn hv
      go_wp2_with fail
      refine (of_no HV.out u θ).mono ?_
      rintro e w3 ⟨rfl, b3⟩
      have hgv : grpV 0 0 = #[.int .i64 0, .int .i64 0] := rfl
      rw [hgv]
      have b4 : Below wr.heap.size wr (w3.alloc (.cells #[.int .i64 0, .int .i64 0] 45)) := b3.alloc b3.size _
      have HV4 := Lib.hid (HV.out.at b4)
      have B4 := Lib.hid (BW.out.trans (b4.mono BW.out.size))
      clear b3 b4 BW HV l1 i1 hgv
      go_wp2_with fail
      refine (members_no HV4.out u θ).mono ?_
      rintro e w5 ⟨rfl, rfl⟩
      go_wp2_with fail
      refine (call_no HV4.out θ).mono ?_
      rintro e w6 h6
      obtain ⟨la, lc, LA, rfl, _, b6⟩ := h6.rd
      rw [nl_row.2.2.2]
      have HV6 := Lib.hid (HV4.out.at b6)
      have B6 := Lib.hid (B4.out.trans (b6.mono B4.out.size))
      clear h6 b6 B4 HV4
      go_wp2_with fail
      refine (ccount_no HV6.out θ).mono ?_
      rintro e w7 ⟨rfl, b7⟩
      have HV7 := Lib.hid (HV6.out.at b7)
      have B7 := Lib.hid (B6.out.trans (b7.mono B6.out.size))
      clear b7 B6 HV6
      go_wp2_with fail
      refine (clabels_no HV7.out θ).mono ?_
      rintro e w8 ⟨rfl, rfl⟩
      go_wp2_with fail
      refine (steps_no HV7.out).mono ?_
      rintro e w8 ⟨rfl, rfl⟩
      go_wp2_with fail
      refine (crow_no HV7.out θ).mono ?_
      rintro e w9 ⟨rfl, b9⟩
      rw [nl_row.1, nl_row.2.1, nl_row.2.2.1]
      have B9 := Lib.hid (B7.out.trans (b9.mono B7.out.size))
      clear b9 B7 HV7
      go_wp2_with fail
      go_roundw
      case rel => exact ⟨k + 1, by omega, by go_num, B9⟩
      case measure => simp only [intOf]; omega
    · have hkn : k = 2 := by omega
      subst hkn
      go_wp2_with fail
      refine (works_any wr).mono ?_
      rintro e w3 ⟨rfl, b3⟩
      go_wp2_with fail
      go_ret
      exact ⟨rfl, (B2.out.trans (BW.out.mono B2.out.size)).trans (b3.mono (Nat.le_trans B2.out.size BW.out.size))⟩
end Go.Proofs.Ytibdggbejogciaa
