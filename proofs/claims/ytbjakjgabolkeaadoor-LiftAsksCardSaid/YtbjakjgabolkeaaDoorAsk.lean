/- The walks of Up, Root, Above, Common and Dist of package lift at every argument. Conditions: the table was made by New; the library's table of de Bruijn is as its initialiser lays it. -/
import Derived.Test.YtbjakjgabolkeaaDoorUp2
import Derived.Deep.RegionWith
import Derived.Deep.DeepCutAuto
namespace Go.Proofs.YtbjakjgabolkeaaDoor
open Go.RowKit Go.Shelf

theorem up_tab (b B : Nat) (p : List Int) (v k : Int) (w : World) (h : TabAt w B b p) (hBw : B ≤ w.heap.size) (hT : DeB w) :
    Calls Tryd.prog 20 #[.pointer (some ⟨b, 0, none⟩), .int .i64 v, .int .i64 k] w fun e w' => e = .returned (.tuple #[.int .i64 (upV p v k), .bool (upB p v k)]) ∧ Below w.heap.size w w' := by
  cases hv : inB p v with
  | false =>
    have e1 : upB p v k = false := by simp [upB, hv]
    have e2 : upV p v k = 0 := by simp [upV, e1]
    rw [e1, e2]; exact up_out b B p v k w h hBw hv
  | true =>
    obtain ⟨u, rfl, hu⟩ := inB_iff.1 hv
    by_cases hk : k < 0
    · have e1 : upB p u k = false := by simp [upB]; omega
      have e2 : upV p u k = 0 := by simp [upV, e1]
      rw [e1, e2]; exact up_neg b B p u k w h hBw hv hk
    · by_cases hf : (dp p u : Int) < k
      · have e1 : upB p u k = false := by simp [upB]; omega
        have e2 : upV p u k = 0 := by simp [upV, e1]
        rw [e1, e2]; exact up_far b B p u k w h hBw hu (by omega) hf
      · obtain ⟨j, rfl⟩ := Int.eq_ofNat_of_zero_le (show 0 ≤ k by omega)
        have e1 : upB p u j = true := by simp [upB, hv]; omega
        have e2 : upV p u j = oi (anc p j u) := by simp [upV, e1]
        rw [e1, e2]; exact up_ok b B p u j w h hBw hT hu (by omega)

set_option maxHeartbeats 400000 in
theorem root_tab (b B : Nat) (p : List Int) (v : Int) (w : World) (h : TabAt w B b p) (hBw : B ≤ w.heap.size) (hT : DeB w) :
    Calls Tryd.prog 19 #[.pointer (some ⟨b, 0, none⟩), .int .i64 v] w fun e w' => e = .returned (.tuple #[.int .i64 (upV p v (dpV p v)), .bool (upB p v (dpV p v))]) ∧ Below w.heap.size w w' := by
  go_enter Tryd.func19, Tryd.ntmps19
  go_wp2_with (first | (go_at_call 16; refine (depth_tab _ _ _ _ _ h).mono ?_; rintro e w' ⟨rfl, rfl⟩) | (go_at_call 20; refine (up_tab _ _ _ _ _ _ h hBw hT).mono ?_; rintro e w' ⟨rfl, hb⟩))
  go_ret2
  exact ⟨rfl, hb⟩

/-- what Above answers -/
def abB (p : List Int) (x v : Int) : Bool := inB p x && inB p v && isAnc p x.toNat v.toNat

theorem up_above {p : List Int} (F : Tree p) {x v : Nat} (hv : v < p.length) :
    (upB p v ((dp p v : Int) - dp p x) && upV p v ((dp p v : Int) - dp p x) == (x : Int)) = isAnc p x v := by
  have hi : inB p v = true := inB_iff.2 ⟨v, rfl, hv⟩
  by_cases hd : dp p x ≤ dp p v
  · have e : (dp p v : Int) - dp p x = ((dp p v - dp p x : Nat) : Int) := by omega
    rw [e]
    have e1 : upB p v ((dp p v - dp p x : Nat) : Int) = true := by simp [upB, hi]
    have e2 : upV p v ((dp p v - dp p x : Nat) : Int) = oi (anc p (dp p v - dp p x) v) := by simp [upV, e1]
    rw [e1, e2, Bool.true_and, Bool.eq_iff_iff, isAnc_iff' F hv]
    obtain ⟨m, hm⟩ := anc_some F (dp p v - dp p x) v hv (by omega)
    rw [hm]
    simp only [oi, beq_iff_eq, Option.some.injEq]
    omega
  · have e1 : upB p v ((dp p v : Int) - dp p x) = false := by simp [upB, hi]; omega
    rw [e1, Bool.false_and]
    symm
    rw [← Bool.not_eq_true, isAnc_iff' F hv]
    omega

set_option maxHeartbeats 1000000 in
theorem above_tab (b B : Nat) (p : List Int) (x v : Int) (w : World) (h : TabAt w B b p) (hBw : B ≤ w.heap.size) (hT : DeB w) :
    Calls Tryd.prog 18 #[.pointer (some ⟨b, 0, none⟩), .int .i64 x, .int .i64 v] w fun e w' => e = .returned (.bool (abB p x v)) ∧ Below w.heap.size w w' := by
  have hs := h.small
  cases hx : inB p x with
  | false =>
    have H := Lib.hid hx; clear hx
    go_enter Tryd.func18, Tryd.ntmps18
    go_wp2_with (go_at_call 26; refine (has_is H.out h).mono ?_; rintro e w' ⟨rfl, rfl⟩)
    go_ret
    exact ⟨by simp [abB, H.out], Below.refl _ _⟩
  | true =>
    cases hv : inB p v with
    | false =>
      have H := Lib.hid hx; clear hx
      have H2 := Lib.hid hv; clear hv
      go_enter Tryd.func18, Tryd.ntmps18
      go_wp2_with fail
      refine (has_is H.out h).mono ?_
      rintro e w' ⟨rfl, rfl⟩
      go_wp2_with fail
      refine (has_is H2.out h).mono ?_
      rintro e w' ⟨rfl, rfl⟩
      go_wp2
      go_ret
      exact ⟨by simp [abB, H2.out], Below.refl _ _⟩
    | true =>
      obtain ⟨x, rfl, hxl⟩ := inB_iff.1 hx
      obtain ⟨v, rfl, hvl⟩ := inB_iff.1 hv
      obtain ⟨db, hdb, c1, c2⟩ := h.dep
      have c3 := c2 x hxl
      have c4 := c2 v hvl
      clear c2
      have hd1 : (0 : Int) ≤ (x : Int) ∧ (x : Int) < p.length := by omega
      have hd2 : (0 : Int) ≤ (v : Int) ∧ (v : Int) < p.length := by omega
      have hb1 := dep_lt h.tree hxl
      have hb2 := dep_lt h.tree hvl
      have H := Lib.hid hx; clear hx
      have H2 := Lib.hid hv; clear hv
      have hf0 : abB p x v = (upB p v ((dp p v : Int) - dp p x) && upV p v ((dp p v : Int) - dp p x) == (x : Int)) := by
        rw [up_above (x := x) h.tree hvl]; simp [abB, H.out, H2.out]
      have HF := Lib.hid hf0
      clear hf0
      go_enter Tryd.func18, Tryd.ntmps18
      go_wp2_with fail
      refine (has_is H.out h).mono ?_
      rintro e w' ⟨rfl, rfl⟩
      go_wp2_with fail
      refine (has_is H2.out h).mono ?_
      rintro e w' ⟨rfl, rfl⟩
      go_wp2_with fail
      have hdr : TabAt w.drew B b p := h.below (Below.refl _ _).drew
      have hTd : DeB w.drew := hT
      go_region_with (go_at_call 20; refine (up_tab _ _ _ _ _ _ hdr hBw hTd).mono ?_; rintro e w' ⟨rfl, hb⟩)
      all_goals go_wp2
      all_goals go_ret
      all_goals exact ⟨by rw [HF.out]; simp [*], (Below.refl _ _).drew.trans hb⟩
end Go.Proofs.YtbjakjgabolkeaaDoor
