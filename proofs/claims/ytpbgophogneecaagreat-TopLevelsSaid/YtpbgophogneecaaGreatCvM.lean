/- The walks of valid, Labels, top, Of and Members of package cluster. Conditions: the view was made by New. -/
import Derived.Test.YtpbgophogneecaaGreatCvN
namespace Go.Proofs.YtpbgophogneecaaGreat
open Go.RowKit

set_option maxRecDepth 100000 in
set_option maxHeartbeats 1000000 in
theorem valid_yes (vb tb : Nat) (w : World) (h : w.cell? ⟨vb, 0, none⟩ = some (.pointer (some ⟨tb, 0, none⟩))) :
    Calls Tryz.prog 74 #[.pointer (some ⟨vb, 0, none⟩)] w fun e w' => e = .returned (.bool true) ∧ w = w' := by
  go_enter Tryz.func74, Tryz.ntmps74
  go_wp2_with fail
  go_ret
  exact ⟨rfl, rfl⟩
set_option maxRecDepth 100000 in
set_option maxHeartbeats 1000000 in
theorem clabels_any (vb n : Nat) (E : List Ed) (θ : Int) (w : World) (h : VwAt w w.heap.size vb n E) :
    Calls Tryz.prog 45 #[.pointer (some ⟨vb, 0, none⟩), .int .i64 θ] w fun e w' => ∃ v, e = .returned v ∧ LabO w.heap.size v n (lbW E θ) w' ∧ Below w.heap.size w w' := by
  obtain ⟨z, b, tb, g, o, h⟩ := h
  have HV := Lib.hid (valid_yes vb tb w h.c0)
  have HL := Lib.hid (rclabels_any w.heap.size n z b E o θ w h.tr h.ord (Nat.le_refl _))
  unfold trV at HL
  have c1 := h.c1
  have c2 := h.c2
  have c3 := h.c3
  have c4 := h.c4
  have c5 := h.c5
  have c6 := h.c6
  clear h
  go_enter Tryz.func45, Tryz.ntmps45
  go_wp2_with fail
  refine HV.out.mono ?_
  rintro e w' ⟨rfl, rfl⟩
  go_wp2_with fail
  refine HL.out.mono ?_
  clear HL HV c1 c2 c3 c4 c5 c6
  rintro e w1 ⟨v, rfl, hv, hb⟩
  have HR := Lib.hid (And.intro hv hb)
  clear hv hb
  go_wp2_with fail
  go_ret
  exact ⟨v, rfl, HR.out.1, HR.out.2⟩
theorem etI64 : ET 55 2 1 8 := ET.of Tryz.underlying55 Tryz.infoI64 rfl (by decide)
theorem stH_hgt {E : List Ed} {f : List Nat} {n x : Nat} (h : x < n + f.length) : stH E f n f.length x = hgt E f n x := by
  unfold stH hgt
  by_cases c : x < n
  · rw [if_pos c, if_neg (by omega)]
  · rw [if_neg c, if_pos (by omega)]
/-- the heights as keys -/
theorem TrAt.rdH {w : World} {B n : Nat} {b : Blk} {E : List Ed} {f : List Nat} (h : TrAt w B n (n + f.length) b E f) : Rd 55 1 w B (.slice (some ⟨b.h, 0, none⟩) (hT E f n).length (n + f.length)) (hT E f n).length (nums .i64 (hT E f n)) (fun i => (⟨b.h, 0, none⟩ : Addr).add (i * 1)) :=
  Rd.addr etI64 (fun _ => h.lo.2.2.2.1) (fun i hi j hj => by
    obtain rfl : j = 0 := by omega
    rw [hT_len] at hi
    rw [add_mk, Nat.mul_one, Nat.zero_add, Nat.add_zero, h.rh.cell hi]
    unfold nums intF; rw [hT_nth hi, stH_hgt hi])
theorem TrAt.key {w : World} {B n : Nat} {b : Blk} {E : List Ed} {f : List Nat} (h : TrAt w B n (n + f.length) b E f) : Key w B (.slice (some ⟨b.h, 0, none⟩) (hT E f n).length (n + f.length)) (hT E f n) (fun i => (⟨b.h, 0, none⟩ : Addr).add (i * 1)) :=
  ⟨h.rdH.ix, h.rdH.lt, fun i hi => by have := h.rdH.cell i hi 0 (by omega); rw [add_zero] at this; exact this⟩
/-- the node of a vertex at a threshold -/
def topN (E : List Ed) (o : List Nat) (n : Nat) (θ : Int) (u : Nat) : Nat := nd E (frs E o) n (kOf (frs E o) (leW E θ)) (lbW E θ u)
theorem clV_top {E : List Ed} {o : List Nat} {n : Nat} (G : GOk n E) (ho : OrdOf E o) (θ : Int) {u : Nat} (hu : u < n) : clV (pT E (frs E o) n) (u : Int) (hT E (frs E o) n) θ = ((topN E o n θ u : Nat) : Int) := by
  rw [clV_leaf hu, climb_nd (frs_fo G ho) (kOf_le _ _) (fun i hi => by rw [hgt_le ho hi]) hu, lbI_W ho]; rfl
end Go.Proofs.YtpbgophogneecaaGreat
