/- What a view answers that is nil, or that New did not make. Conditions: valid says no. -/
import Derived.Test.YtibdggbejogciaaGreatCm
import Derived.Test.YtibdggbejogciaaGreatCr
import Derived.Test.YtibdggbejogciaaGreatCvS
namespace Go.Proofs.YtibdggbejogciaaGreat
open Go.RowKit

/-- a view that New did not make -/
def NoVw (w : World) (v : Value) : Prop := ∀ w1, Below w.heap.size w w1 → Calls Tryz.prog 29 #[v] w1 fun e w' => e = .returned (.bool false) ∧ w1 = w'
theorem NoVw.at {w w1 : World} {v : Value} (h : NoVw w v) (hb : Below w.heap.size w w1) : NoVw w1 v := fun w2 h2 => h w2 (hb.trans (h2.mono hb.size))
set_option maxRecDepth 100000 in
set_option maxHeartbeats 1000000 in
theorem noVw_nil (w : World) : NoVw w (.pointer none) := by
  intro w1 _
  go_enter Tryz.func29, Tryz.ntmps29
  go_wp2_with fail
  go_ret
  exact ⟨rfl, rfl⟩
set_option maxRecDepth 100000 in
set_option maxHeartbeats 1000000 in
theorem valid_zero (vb : Nat) (w : World) (h : w.cell? ⟨vb, 0, none⟩ = some (.pointer none)) :
    Calls Tryz.prog 29 #[.pointer (some ⟨vb, 0, none⟩)] w fun e w' => e = .returned (.bool false) ∧ w = w' := by
  go_enter Tryz.func29, Tryz.ntmps29
  go_wp2_with fail
  go_ret
  exact ⟨rfl, rfl⟩
theorem noVw_zero {vb : Nat} {w : World} {x : Nat → Value} {n : Nat} (h : Row w vb n x) (hn : 0 < n) (hx : x 0 = .pointer none) (hv : vb < w.heap.size) : NoVw w (.pointer (some ⟨vb, 0, none⟩)) := by
  intro w1 hb
  have h1 := (h.below hb hv).cell (i := 0) hn
  rw [hx] at h1
  exact valid_zero vb w1 h1
section
variable {v : Value} {w : World}
set_option maxRecDepth 100000 in
set_option maxHeartbeats 1000000 in
theorem top_no (h : NoVw w v) (u θ : Int) : Calls Tryz.prog 34 #[v, .int .i64 u, .int .i64 θ] w fun e w' => e = .returned (.tuple #[.int .i64 0, .int .i64 1]) ∧ w = w' := by
  have HV := Lib.hid (h w (Below.refl _ _))
  clear h
  go_enter Tryz.func34, Tryz.ntmps34
  go_wp2_with fail
  refine HV.out.mono ?_
  rintro e w' ⟨rfl, rfl⟩
  go_wp2_with fail
  go_ret2
  exact ⟨rfl, rfl⟩
set_option maxRecDepth 100000 in
set_option maxHeartbeats 1000000 in
theorem of_no (h : NoVw w v) (u θ : Int) : Calls Tryz.prog 12 #[v, .int .i64 u, .int .i64 θ] w fun e w' => e = .returned (.tuple #[.agg (grpV 0 0), .int .i64 1]) ∧ Below w.heap.size w w' := by
  have hA : Below w.heap.size w (w.alloc (.cells #[.int .i64 0, .int .i64 0] 33)) := (Below.refl _ _).alloc (Nat.le_refl _) _
  have HT := Lib.hid (top_no (h.at hA) u θ)
  have HA := Lib.hid hA
  clear h hA
  go_enter Tryz.func12, Tryz.ntmps12
  go_wp2_with fail
  refine HT.out.mono ?_
  clear HT
  rintro e w1 ⟨rfl, rfl⟩
  go_wp2_with fail
  refine bodyPost_ret (v := .tuple #[.agg (grpV 0 0), .int .i64 1]) (by simp [results, Tryz.results12, go_sem, grpV]) rfl ?_
  exact ⟨rfl, HA.out⟩
set_option maxRecDepth 100000 in
set_option maxHeartbeats 1000000 in
theorem members_no (h : NoVw w v) (u θ : Int) : Calls Tryz.prog 14 #[v, .int .i64 u, .int .i64 θ] w fun e w' => e = .returned (.tuple #[.slice none 0 0, .int .i64 1]) ∧ w = w' := by
  have HT := Lib.hid (top_no h u θ)
  clear h
  go_enter Tryz.func14, Tryz.ntmps14
  go_wp2_with fail
  refine HT.out.mono ?_
  rintro e w1 ⟨rfl, rfl⟩
  go_wp2_with fail
  go_ret2
  exact ⟨rfl, rfl⟩
set_option maxRecDepth 100000 in
set_option maxHeartbeats 1000000 in
theorem clabels_no (h : NoVw w v) (θ : Int) : Calls Tryz.prog 22 #[v, .int .i64 θ] w fun e w' => e = .returned (.slice none 0 0) ∧ w = w' := by
  have HV := Lib.hid (h w (Below.refl _ _))
  clear h
  go_enter Tryz.func22, Tryz.ntmps22
  go_wp2_with fail
  refine HV.out.mono ?_
  rintro e w' ⟨rfl, rfl⟩
  go_wp2_with fail
  go_ret
  exact ⟨rfl, rfl⟩
set_option maxRecDepth 100000 in
set_option maxHeartbeats 1000000 in
theorem steps_no (h : NoVw w v) : Calls Tryz.prog 10 #[v] w fun e w' => e = .returned (.slice none 0 0) ∧ w = w' := by
  have HV := Lib.hid (h w (Below.refl _ _))
  clear h
  go_enter Tryz.func10, Tryz.ntmps10
  go_wp2_with fail
  refine HV.out.mono ?_
  rintro e w' ⟨rfl, rfl⟩
  go_wp2_with fail
  go_ret
  exact ⟨rfl, rfl⟩
theorem labs_no (h : NoVw w v) (θ : Int) (f : Nat → Nat) : Calls Tryz.prog 22 #[v, .int .i64 θ] w (LabsRes 0 f w) :=
  (clabels_no h θ).mono fun e w' ⟨h1, h2⟩ => ⟨_, h1, by subst h2; exact World.ownsRow_nil _ _ _ _, by subst h2; exact Below.refl _ _⟩
theorem call_no (h : NoVw w v) (θ : Int) : Calls Tryz.prog 18 #[v, .int .i64 θ] w (AllRes 0 id w) :=
  all_any v 0 id θ w (by omega) (fun x hx => absurd hx (by omega)) LabOk.id fun w1 hb => labs_no (h.at hb) θ id
theorem ccount_no (h : NoVw w v) (θ : Int) : Calls Tryz.prog 20 #[v, .int .i64 θ] w fun e w' => e = .returned (.int .i64 0) ∧ Below w.heap.size w w' :=
  count_any v 0 id θ w (call_no h θ)
theorem crow_no (h : NoVw w v) (θ : Int) : Calls Tryz.prog 24 #[v, .int .i64 θ] w (RowRes 0 id w) :=
  crow_any v 0 id θ w (by omega) fun w1 hb => call_no (h.at hb) θ
end
end Go.Proofs.YtibdggbejogciaaGreat
