/- The walk of works of the statements about kruskal: the chapter's example. No conditions. -/
import Derived.Test.YtbmcflmflmlmaaaKLaw
namespace Go.Proofs.Ytbmcflmflmlmaaa
open Go.RowKit

theorem wE_swap {o : List Nat} {x : Int} (ho : OrdOf wE o) (h : SwapX wE (frs wE o) (0 : Int).toNat (2 : Int).toNat 1 x) : x = 1 := by
  have ho' : OrdOf (wE ++ [⟨0, 2, 1⟩]) [4, 3, 5, 1, 2, 0] := ⟨by decide, by decide⟩
  rw [swap_eq (e := ⟨0, 2, 1⟩) ho ho' h, wE_ord ho]
  decide +kernel
theorem wE_in : ∀ i, i < wE.length → inR (eAt wE i).w := by
  intro i hi
  have hl : wE.length = 5 := rfl
  match i, hi with
  | 0, _ => unfold inR; decide
  | 1, _ => unfold inR; decide
  | 2, _ => unfold inR; decide
  | 3, _ => unfold inR; decide
  | 4, _ => unfold inR; decide
  | n + 5, h => omega
theorem wE_sum : sumW (wSum wE [4, 3, 1]) = -2 ∧ sumO (wSum wE [4, 3, 1]) = 0 := by decide +kernel
set_option maxRecDepth 100000 in
set_option maxHeartbeats 1000000 in
theorem works_any (w : World) : Calls Try.prog 16 #[] w fun e w' => e = .returned (.bool true) ∧ Below w.heap.size w w' := by
  go_enter Try.func16, Try.ntmps16
  go_wp2_with fail
  refine (example_any _).mono ?_
  rintro e w1 ⟨A1, rfl, hE1, b1⟩
  have HE1 := Lib.hid hE1; have B1 := Lib.hid b1
  clear hE1 b1
  go_wp2_with fail
  refine (forest_any w1.heap.size _ _ A1 6 wE w1 HE1.out (Nat.le_refl _) (by decide)).mono ?_
  rintro e w2 ⟨b2, ⟨h0, _⟩ | ⟨_, o, v, ho, rfl, hv⟩⟩
  · exact absurd wE_err h0
  obtain rfl := wE_ord ho
  rw [wE_frs] at hv
  obtain ⟨fa, fc, FA, rfl, hF⟩ := ownI_rd hv
  have HF := Lib.hid hF
  have B2 := Lib.hid (B1.out.trans (b2.mono B1.out.size))
  clear b2 ho hv hF
  go_wp2_with fail
  refine (example_any _).mono ?_
  rintro e w3 ⟨A3, rfl, hE3, b3⟩
  have HF3 := Lib.hid ((HF.out.below b3).mono b3.size)
  have HE3 := Lib.hid hE3; have B3 := Lib.hid (B2.out.trans (b3.mono B2.out.size))
  clear hE3 b3
  go_wp2_with fail
  refine (weight_any w3.heap.size _ _ A3 6 wE w3 HE3.out (Nat.le_refl _) (by decide) wE_in).mono ?_
  rintro e w4 ⟨b4, ⟨h0, _⟩ | ⟨_, o, ho, rfl⟩⟩
  · exact absurd wE_err h0
  obtain rfl := wE_ord ho
  rw [wE_frs, wE_sum.1, wE_sum.2]
  have HF4 := Lib.hid ((HF3.out.below b4).mono b4.size)
  have B4 := Lib.hid (B3.out.trans (b4.mono B3.out.size))
  clear b4 ho
  go_wp2_with fail
  refine (example_any _).mono ?_
  rintro e w5 ⟨A5, rfl, hE5, b5⟩
  have HF5 := Lib.hid ((HF4.out.below b5).mono b5.size)
  have HE5 := Lib.hid hE5; have B5 := Lib.hid (B4.out.trans (b5.mono B4.out.size))
  clear hE5 b5
  go_wp2_with fail
  refine (swap_any w5.heap.size _ _ A5 6 wE 0 2 1 w5 HE5.out (Nat.le_refl _) (by decide)).mono ?_
  rintro e w6 ⟨b6, ⟨h0, _⟩ | ⟨_, ⟨h1, _⟩ | ⟨_, ⟨h1, _⟩ | ⟨_, o, x, ho, hx, rfl⟩⟩⟩⟩
  · exact absurd wE_err h0
  · exact absurd (by decide) h1
  · exact absurd h1 (by decide)
  obtain rfl := wE_swap ho hx
  have HF6 := Lib.hid ((HF5.out.below b6).mono b6.size)
  have B6 := Lib.hid (B5.out.trans (b6.mono B5.out.size))
  clear b6 ho hx
  have hR := Row.lit (n := 3) (f := fun i => nums .i64 [4, 3, 1] i 0) w6 #[.int .i64 4, .int .i64 3, .int .i64 1] 3 (by simp) (fun i hi => by
    match i, hi with
    | 0, _ => rfl
    | 1, _ => rfl
    | 2, _ => rfl
    | n + 3, h => omega)
  have hb7 : Below w6.heap.size w6 (w6.alloc (.cells #[.int .i64 4, .int .i64 3, .int .i64 1] 3)) := (Below.refl _ _).alloc (Nat.le_refl _) _
  have HN := Lib.hid (numbers_any (w6.heap.size + 1) fa (some ⟨w6.heap.size, 0, none⟩) fc 3 FA (fun i => (⟨w6.heap.size, 0, none⟩ : Addr).add (i * 1)) [4, 3, 1] [4, 3, 1] (w6.alloc (.cells #[.int .i64 4, .int .i64 3, .int .i64 1] 3))
    ((HF6.out.below hb7).mono (by omega)) (Rd.addr etI (fun _ => Nat.lt_succ_self _) fun i hi j hj => by
      have h0 : j = 0 := by omega
      subst h0
      rw [add_mk, Nat.zero_add]
      have := hR.cell (i := i * 1 + 0) (by simpa using hi)
      simpa using this) (by decide))
  have HB7 := Lib.hid (B6.out.trans (hb7.mono B6.out.size))
  clear hR hb7
  go_wp2_with fail
  refine HN.out.mono ?_
  rintro e w7 ⟨rfl, q, rfl⟩
  go_wp2_with fail
  go_ret
  exact ⟨rfl, below_drewN HB7.out _⟩
end Go.Proofs.Ytbmcflmflmlmaaa
