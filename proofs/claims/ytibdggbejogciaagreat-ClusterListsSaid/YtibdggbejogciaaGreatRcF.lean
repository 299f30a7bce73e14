/- The walk of find of package recon. Conditions: the parents lead down to the least element. -/
import Derived.Test.YtibdggbejogciaaGreatRc
import Derived.Test.YtibdggbejogciaaGreatDsuN
namespace Go.Proofs.YtibdggbejogciaaGreat
open Go.RowKit

/-- pairs of numbers, one after the other -/
def setC (up rt : Nat → Nat) (q : Nat) : Value := .int .i64 ((if q % 2 = 0 then up (q / 2) else rt (q / 2) : Nat) : Int)
theorem setC_up (up rt : Nat → Nat) (x : Nat) : setC up rt (x * 2) = .int .i64 (up x : Nat) := by
  unfold setC; rw [if_pos (by omega), show x * 2 / 2 = x by omega]
theorem setC_rt (up rt : Nat → Nat) (x : Nat) : setC up rt (x * 2 + 1) = .int .i64 (rt x : Nat) := by
  unfold setC; rw [if_neg (by omega), show (x * 2 + 1) / 2 = x by omega]
section
variable {w : World} {g n : Nat} {up rt : Nat → Nat}
theorem setC_setUp (h : Row w g (2 * n) (setC up rt)) (x v : Nat) : Row (w.setCell ⟨g, x * 2, none⟩ (.int .i64 (v : Nat))) g (2 * n) (setC (fun i => if i = x then v else up i) rt) :=
  (h.set (x * 2) _).congr fun q _ => by
    by_cases e : q = x * 2
    · rw [if_pos e, e, setC_up, if_pos rfl]
    · rw [if_neg e]
      unfold setC
      by_cases c : q % 2 = 0
      · rw [if_pos c, if_pos c]; dsimp only; rw [if_neg (by omega)]
      · rw [if_neg c, if_neg c]
theorem setC_setRt (h : Row w g (2 * n) (setC up rt)) (x v : Nat) : Row (w.setCell ⟨g, x * 2 + 1, none⟩ (.int .i64 (v : Nat))) g (2 * n) (setC up (fun i => if i = x then v else rt i)) :=
  (h.set (x * 2 + 1) _).congr fun q _ => by
    by_cases e : q = x * 2 + 1
    · rw [if_pos e, e, setC_rt, if_pos rfl]
    · rw [if_neg e]
      unfold setC
      by_cases c : q % 2 = 0
      · rw [if_pos c, if_pos c]
      · rw [if_neg c, if_neg c]; dsimp only; rw [if_neg (by omega)]
theorem setC_cell (h : Row w g (2 * n) (setC up rt)) {x : Nat} (hx : x < n) : w.cell? ⟨g, x * 2, none⟩ = some (.int .i64 (up x : Nat)) := by rw [h.cell (by omega), setC_up]
theorem setC_cell1 (h : Row w g (2 * n) (setC up rt)) {x : Nat} (hx : x < n) : w.cell? ⟨g, x * 2 + 1, none⟩ = some (.int .i64 (rt x : Nat)) := by rw [h.cell (by omega), setC_rt]
end
/-- what find answers -/
def FndRes (sb n x : Nat) (rt lab : Nat → Nat) (w : World) (e : Ending) (w' : World) : Prop :=
  e = .returned (.int .i64 (lab x : Nat)) ∧ ∃ up', Row w' sb (2 * n) (setC up' rt) ∧ UL n up' lab ∧ Inner ⟨sb, sb + 1⟩ w w'
set_option maxRecDepth 100000 in
set_option maxHeartbeats 1000000 in
theorem rfind_any (sb n x : Nat) (up rt lab : Nat → Nat) (w : World) (hR : Row w sb (2 * n) (setC up rt)) (U : UL n up lab) (K : LabOk lab) (hx : x < n) :
    Calls Tryz.prog 59 #[.slice (some ⟨sb, 0, none⟩) n n, .int .i64 (x : Nat)] w (FndRes sb n x rt lab w) := by
  have HR := Lib.hid hR; have HU := Lib.hid U; have HK := Lib.hid K
  clear hR U K
  go_enter Tryz.func59, Tryz.ntmps59
  go_wp2_with fail
  go_loopw [1] (fun i wr => ∃ (y : Nat) (u : Nat → Nat), y < n ∧ i = .int .i64 (y : Nat) ∧ Hid (lab y = lab x) ∧ Hid (Row wr sb (2 * n) (setC u rt)) ∧ Hid (UL n u lab) ∧ Hid (Inner ⟨sb, sb + 1⟩ w wr)) (fun i _ => (intOf i).toNat)
  case atStart => exact ⟨x, up, hx, rfl, Lib.hid rfl, HR, HU, Lib.hid (Inner.refl _ _)⟩
  case round =>
    clear HR HU
    obtain ⟨y, u, hy, rfl, HL, HR, HU, HI⟩ := hrel
    have c1 := setC_cell HR.out hy
    have hyi : (0 : Int) ≤ y ∧ (y : Int) < n := by omega
    by_cases hr : u y = y
    · have hz : (((u y : Nat) : Int) != (y : Int)) = false := by simp [hr]
      have HQ := Lib.hid (show lab x = y by rw [← HL.out]; exact HU.out.root y hy hr)
      generalize u y = p at c1 hz
      clear hr
      go_wp2_with fail
      go_ret
      exact ⟨by rw [HQ.out]; rfl, u, HR.out, HU.out, HI.out⟩
    · have hz : (((u y : Nat) : Int) != (y : Int)) = true := by simp; omega
      have h1 := HU.out.le y hy
      have hp : u y < n := by omega
      have c2 := setC_cell HR.out hp
      have h2 := HU.out.le _ hp
      have hpi : (0 : Int) ≤ (u y : Nat) ∧ ((u y : Nat) : Int) < n := by omega
      have f1 := HR.out.frozen (y * 2)
      have R2 := setC_setUp HR.out y (u (u y))
      have HU2 := Lib.hid (HU.out.halve hy hr)
      have HL2 := Lib.hid (show lab (u (u y)) = lab x by rw [HU.out.par _ hp, HU.out.par _ hy, HL.out])
      have c3 : (wr.setCell ⟨sb, y * 2, none⟩ (.int .i64 (u (u y) : Nat))).cell? ⟨sb, y * 2, none⟩ = some (.int .i64 (u (u y) : Nat)) := by rw [setC_cell R2 hy, if_pos rfl]
      have HR2 := Lib.hid R2
      have hlt : u (u y) < y := by omega
      have hpp : u (u y) < n := by omega
      have HI2 := Lib.hid (HI.out.setCell (p := ⟨sb, y * 2, none⟩) ⟨Nat.le_refl _, Nat.lt_succ_self _⟩ (.int .i64 (u (u y) : Nat)))
      clear R2 HR HU HL HI h1 h2 hr
      go_wp2_with fail
      go_still_tail 13, (by kernel_rfl)
      go_wp2_with fail
      go_roundw
      case rel => exact ⟨u (u y), _, hpp, rfl, HL2, Lib.hid (HR2.out.drewN 1), HU2, Lib.hid HI2.out.drew⟩
      case measure => simpa only [intOf, Int.toNat_natCast] using hlt
end Go.Proofs.YtibdggbejogciaaGreat
