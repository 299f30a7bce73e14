/- What a view answers: all clusters, their number, the row, the steps. Conditions: New has made the view. -/
import Derived.Test.YtibdggbejogciaaGreatCr
import Derived.Test.YtibdggbejogciaaGreatCvS
import Derived.Test.YtibdggbejogciaaGreatCq
namespace Go.Proofs.YtibdggbejogciaaGreat
open Go.RowKit

section
variable {vb n : Nat} {E : List Ed} {w : World}
theorem VwAt.ok {B : Nat} (h : VwAt w B vb n E) : GOk n E := by
  obtain ⟨z, b, tb, g, o, h⟩ := h; exact h.ok
theorem VwAt.at (h : VwAt w w.heap.size vb n E) {w1 : World} (hb : Below w.heap.size w w1) : VwAt w1 w1.heap.size vb n E := (h.below hb).mono hb.size
theorem cv_all (h : VwAt w w.heap.size vb n E) (θ : Int) : Calls Tryz.prog 18 #[.pointer (some ⟨vb, 0, none⟩), .int .i64 θ] w (AllRes n (lbW E θ) w) :=
  all_any _ n _ θ w h.ok.n_le (fun _ hx => Nat.lt_of_le_of_lt ((labO_ok E _).le _) hx) (labO_ok E _) fun w1 hb => clabels_any vb n E θ w1 (h.at hb)
theorem cv_count (h : VwAt w w.heap.size vb n E) (θ : Int) : Calls Tryz.prog 20 #[.pointer (some ⟨vb, 0, none⟩), .int .i64 θ] w fun e w' => e = .returned (.int .i64 (cntN n (lbW E θ) : Nat)) ∧ Below w.heap.size w w' :=
  count_any _ n _ θ w (cv_all h θ)
theorem cv_row (h : VwAt w w.heap.size vb n E) (θ : Int) : Calls Tryz.prog 24 #[.pointer (some ⟨vb, 0, none⟩), .int .i64 θ] w (RowRes n (lbW E θ) w) :=
  crow_any _ n _ θ w h.ok.n_le fun _ hb => cv_all (h.at hb) θ
end
/-- numbers that a call answers, as they are read -/
def RdsW (l : List Int) (w : World) (e : Ending) (w' : World) : Prop := ∃ (a : Option Addr) (cap : Nat) (A : Nat → Addr), e = .returned (.slice a l.length cap) ∧ WR w' w'.heap.size (.slice a l.length cap) l.length l A ∧ Below w.heap.size w w'
theorem StpRes.rds {l : List Int} {w w' : World} {e : Ending} (h : StpRes l w e w') : RdsW l w e w' := by
  obtain ⟨v, A, rfl, h1, ⟨a, cap, rfl⟩, h2⟩ := h
  exact ⟨a, cap, A, rfl, h1, h2⟩
end Go.Proofs.YtibdggbejogciaaGreat

/- The chapter's example of package seepagelaw21: example and works. No conditions. -/
namespace Go.Proofs.YtibdggbejogciaaGreat
open Go.RowKit

/-- edges as they are written -/
theorem lit_es (E : List Ed) (cs : Array Value) (cap : Nat) (hc : cs.toList = flat (edC E) E.length 3) (w : World) (t : TypeId) : ES (w.alloc (.cells cs t)) (w.heap.size + 1) (.slice (some ⟨w.heap.size, 0, none⟩) E.length cap) E (fun i => (⟨w.heap.size, 0, none⟩ : Addr).add (i * 3)) := by
  have hl : cs.size = E.length * 3 := by rw [← Array.length_toList, hc, flat_len]
  refine Rd.addr etE (fun _ => Nat.lt_succ_self _) fun i hi j hj => ?_
  rw [add_mk, Nat.zero_add]
  have h0 : i * 3 + j < cs.size := by omega
  have h : Row (w.alloc (.cells cs t)) w.heap.size cs.size (fun q => edC E (q / 3) (q % 3)) := Row.lit w cs t (Nat.le_refl _) fun q hq => by
    have h1 := flat_at (f := edC E) (n := E.length) (size := 3) (i := q / 3) (j := q % 3) (by omega) (by omega)
    rw [← hc, show q / 3 * 3 + q % 3 = q by omega, List.getElem?_eq_getElem (by simpa using hq)] at h1
    simpa using h1
  rw [h.cell h0]
  congr 2 <;> omega
/-- numbers as they are written -/
theorem lit_nums (L : List Int) (cs : Array Value) (cap : Nat) (hc : cs.toList = L.map (Value.int .i64)) {tS tE : TypeId} (hE : ET tS tE 1 8) (n : Nat) (hn : L.length = n) (w : World) (t : TypeId) : Rd tS 1 (w.alloc (.cells cs t)) (w.heap.size + 1) (.slice (some ⟨w.heap.size, 0, none⟩) n cap) n (nums .i64 L) (fun i => (⟨w.heap.size, 0, none⟩ : Addr).add (i * 1)) := by
  have hl : cs.size = n := by rw [← Array.length_toList, hc, List.length_map, hn]
  refine Rd.addr hE (fun _ => Nat.lt_succ_self _) fun i hi j hj => ?_
  obtain rfl : j = 0 := by omega
  rw [add_mk, Nat.zero_add, Nat.mul_one, Nat.add_zero]
  have h : Row (w.alloc (.cells cs t)) w.heap.size n (fun q => nums .i64 L q 0) := Row.lit w cs t (by omega) fun q hq => by
    have h1 : cs.toList[q]? = some (nums .i64 L q 0) := by
      rw [hc, List.getElem?_map, List.getElem?_eq_getElem (by omega)]
      unfold nums; rw [nth_eq (by omega)]; rfl
    rw [List.getElem?_eq_getElem (by simpa using (by omega : q < cs.size))] at h1
    simpa using h1
  exact h.cell hi
/-- pairs as they are written -/
theorem lit_pairs (L : List (Int × Int)) (cs : Array Value) (cap : Nat) (hc : cs.toList = flat (pq L) L.length 2) (n : Nat) (hn : L.length = n) (w : World) (t : TypeId) : Rd 43 2 (w.alloc (.cells cs t)) (w.heap.size + 1) (.slice (some ⟨w.heap.size, 0, none⟩) n cap) n (pq L) (fun i => (⟨w.heap.size, 0, none⟩ : Addr).add (i * 2)) := by
  subst hn
  have hl : cs.size = L.length * 2 := by rw [← Array.length_toList, hc, flat_len]
  refine Rd.addr etG (fun _ => Nat.lt_succ_self _) fun i hi j hj => ?_
  rw [add_mk, Nat.zero_add]
  have h0 : i * 2 + j < cs.size := by omega
  have h : Row (w.alloc (.cells cs t)) w.heap.size cs.size (fun q => pq L (q / 2) (q % 2)) := Row.lit w cs t (Nat.le_refl _) fun q hq => by
    have h1 := flat_at (f := pq L) (n := L.length) (size := 2) (i := q / 2) (j := q % 2) (by omega) (by omega)
    rw [← hc, show q / 2 * 2 + q % 2 = q by omega, List.getElem?_eq_getElem (by simpa using hq)] at h1
    simpa using h1
  rw [h.cell h0]
  congr 2 <;> omega
/-- the edges of the chapter's example -/
def wV : List Ed := [⟨0, 1, 4⟩, ⟨1, 2, 2⟩, ⟨3, 4, 2⟩, ⟨2, 0, 3⟩, ⟨4, 2, 9⟩]
/-- what example answers -/
def ExRes (w : World) (e : Ending) (w' : World) : Prop := ∃ A, e = .returned (.slice (some ⟨w.heap.size, 0, none⟩) wV.length 5) ∧ ES w' w'.heap.size (.slice (some ⟨w.heap.size, 0, none⟩) wV.length 5) wV A ∧ Below w.heap.size w w'
set_option maxRecDepth 100000 in
theorem example_any (w : World) : Calls Tryz.prog 27 #[] w (ExRes w) := by
  have hE := lit_es wV #[.int .i64 0, .int .i64 1, .int .i64 4, .int .i64 1, .int .i64 2, .int .i64 2, .int .i64 3, .int .i64 4, .int .i64 2, .int .i64 2, .int .i64 0, .int .i64 3, .int .i64 4, .int .i64 2, .int .i64 9] 5 rfl w 57
  have hb1 := (Below.refl w.heap.size w).alloc (Nat.le_refl _) (.cells #[.int .i64 0, .int .i64 1, .int .i64 4, .int .i64 1, .int .i64 2, .int .i64 2, .int .i64 3, .int .i64 4, .int .i64 2, .int .i64 2, .int .i64 0, .int .i64 3, .int .i64 4, .int .i64 2, .int .i64 9] 57)
  have HE := Lib.hid hE; have HB := Lib.hid hb1
  clear hE hb1
  go_enter Tryz.func27, Tryz.ntmps27
  go_wp2_with fail
  go_ret
  exact ⟨_, rfl, HE.out.mono (by simp), HB.out⟩
theorem wV_ok : GOk 6 wV := by
  obtain ⟨k, h1, h2⟩ := gErr_zero (n := 6) (E := wV) (by decide +kernel)
  obtain rfl : k = 6 := by omega
  exact h2
theorem wV_err : gErr 6 wV = 0 := gErr_ok wV_ok
theorem wV_ord {o : List Nat} (h : OrdOf wV o) : o = [1, 2, 3, 0, 4] := h.uniq ⟨by decide, by decide⟩
theorem wV_stp {o : List Nat} (h : OrdOf wV o) : stp wV (frs wV o) = [2, 3, 9] := by
  rw [wV_ord h]; decide +kernel
theorem wV_mem : lvs 6 (lbW wV 3) (lbW wV 3 1) = [0, 1, 2] := by decide +kernel
theorem wV_of : lbW wV 2 4 = 3 ∧ clsN 6 (lbW wV 2) 4 = 2 := by decide +kernel
theorem wV_row : lgN 6 (lbW wV 3) (lbL (lbW wV 3) 6) = 3 ∧ cntN 6 (lbW wV 3) = 3 ∧ sqN 6 (lbW wV 3) (lbL (lbW wV 3) 6) = 14 := by decide +kernel
end Go.Proofs.YtibdggbejogciaaGreat

/- The walk of works of package seepagelaw21: the chapter's example. No conditions. -/
namespace Go.Proofs.YtibdggbejogciaaGreat
open Go.RowKit

set_option maxRecDepth 100000 in
set_option maxHeartbeats 2000000 in
theorem works_any (w : World) : Calls Tryz.prog 7 #[] w fun e w' => e = .returned (.bool true) ∧ Below w.heap.size w w' := by
  have hge := fun w => group_eql 3 2 3 2 w
  have hre := fun w => crow_eql 3 3 14 3 3 14 w
  simp only [decide_true, Bool.and_self] at hge hre
  go_enter Tryz.func7, Tryz.ntmps7
  go_wp2_with fail
  refine (example_any _).mono ?_
  rintro e w1 ⟨A1, rfl, hE1, b1⟩
  have HE1 := Lib.hid hE1; have B1 := Lib.hid b1
  clear hE1 b1
  go_wp2_with fail
  refine (cnew_any w1.heap.size _ _ A1 6 wV w1 HE1.out (Nat.le_refl _) (by decide)).mono ?_
  rintro e w2 ⟨b2, ⟨h0, _⟩ | ⟨k, vb, hk, G, rfl, hv⟩⟩
  · exact absurd wV_err h0
  obtain rfl : k = 6 := by omega
  have HV2 := Lib.hid hv
  have B2 := Lib.hid (B1.out.trans (b2.mono B1.out.size))
  clear b2 hv hk HE1 G
  go_wp2_with fail
  refine (members_in vb 6 1 wV 3 w2 HV2.out (by decide)).mono ?_
  rintro e w3 ⟨v, rfl, hm, b3⟩
  rw [wV_mem] at hm
  obtain ⟨ma, mc, MA, rfl, hM⟩ := ownI_rd hm
  have HM3 := Lib.hid hM
  have HV3 := Lib.hid (HV2.out.at b3)
  have B3 := Lib.hid (B2.out.trans (b3.mono B2.out.size))
  clear b3 hm hM HV2
  go_wp2_with fail
  refine (of_in vb 6 4 wV 2 w3 HV3.out (by decide)).mono ?_
  rintro e w4 ⟨rfl, b4⟩
  rw [wV_of.1, wV_of.2]
  unfold grpV
  have HM4 := Lib.hid ((HM3.out.below b4).mono b4.size)
  have HV4 := Lib.hid (HV3.out.at b4)
  have B4 := Lib.hid (B3.out.trans (b4.mono B3.out.size))
  clear b4 HM3 HV3
  have r5 : Row (w4.alloc (.cells #[.int .i64 3, .int .i64 2] 33)) w4.heap.size 2 (fun i => (#[Value.int .i64 3, .int .i64 2] : Array Value).getD i undef) := Row.lit (n := 2) w4 _ _ (by simp) (fun i hi => by
    match i, hi with
    | 0, _ => rfl
    | 1, _ => rfl
    | n + 2, h => omega)
  have hb5 : Below w4.heap.size w4 (w4.alloc (.cells #[.int .i64 3, .int .i64 2] 33)) := (Below.refl _ _).alloc (Nat.le_refl _) _
  obtain ⟨w5, hw5⟩ : ∃ x, x = w4.alloc (.cells #[.int .i64 3, .int .i64 2] 33) := ⟨_, rfl⟩
  rw [← hw5] at r5 hb5
  have hs5 : w5.heap.size = w4.heap.size + 1 := by rw [hw5]; simp
  have R6 := lit_nums [0, 1, 2] #[.int .i64 0, .int .i64 1, .int .i64 2] 3 rfl etI 3 rfl w5 3
  have hb6 : Below w5.heap.size w5 (w5.alloc (.cells #[.int .i64 0, .int .i64 1, .int .i64 2] 3)) := (Below.refl _ _).alloc (Nat.le_refl _) _
  have HN := Lib.hid (numbers_n (w5.heap.size + 1) 3 3 ma (some ⟨w5.heap.size, 0, none⟩) mc 3 MA _ [0, 1, 2] [0, 1, 2] _ rfl rfl (((HM4.out.below hb5).below (hb6.mono (by omega))).mono (by omega)) R6 (by decide))
  have HC := Lib.hid r5
  have HB6 := Lib.hid hb6
  have HV6 := Lib.hid (((HV4.out.below hb5).mono (by omega : w4.heap.size ≤ w5.heap.size)).at hb6)
  have HB5 := Lib.hid (B4.out.trans (hb5.mono B4.out.size))
  clear R6 r5 hb5 hb6
  subst hw5
  simp only [World.size_alloc] at HN HV6 HB6 HB5
  go_wp2_with fail
  refine HN.out.mono ?_
  rintro e w6 ⟨rfl, q, rfl⟩
  simp only [decide_true]
  obtain ⟨w6, h6⟩ : ∃ x, x = ((w4.alloc (.cells #[.int .i64 3, .int .i64 2] 33)).alloc (.cells #[.int .i64 0, .int .i64 1, .int .i64 2] 3)).drewN q := ⟨_, rfl⟩
  have b6 : Below (w4.heap.size + 1) (w4.alloc (.cells #[.int .i64 3, .int .i64 2] 33)) w6 := by rw [h6]; exact below_drewN HB6.out _
  have s6 : w6.heap.size = w4.heap.size + 2 := by rw [h6]; simp
  have HV : Hid (VwAt w6 w6.heap.size vb 6 wV) := Lib.hid (by rw [h6]; exact (HV6.out.below (below_drewN (Below.refl _ _) q)).mono (by simp))
  have R := HC.out.below b6 (by omega)
  have c0 : w6.cell? ⟨w4.heap.size, 0, none⟩ = some (.int .i64 3) := R.cell (i := 0) (by omega)
  have c1 : w6.cell? ⟨w4.heap.size, 1, none⟩ = some (.int .i64 2) := R.cell (i := 1) (by omega)
  have B6 := Lib.hid (HB5.out.trans (b6.mono (by have := B4.out.size; omega)))
  rw [← h6]
  clear HN HC HV6 HB6 HB5 R b6 h6 HM4 HV4
  go_wp2_with fail
  refine (cv_row HV.out 3).mono ?_
  rintro e w7 ⟨rfl, b7⟩
  rw [wV_row.1, wV_row.2.1, wV_row.2.2]
  have HV7 := Lib.hid (HV.out.at b7)
  have B7 := Lib.hid (B6.out.trans (b7.mono B6.out.size))
  clear b7 HV c0 c1 B6
  go_wp2_with fail
  refine (steps_any vb 6 wV w7 HV7.out).mono ?_
  rintro e w8 ⟨o, ho, hs⟩
  rw [wV_stp ho] at hs
  obtain ⟨sa, sc, SA, rfl, hS, b8⟩ := hs.rds
  have B8 := Lib.hid (B7.out.trans (b8.mono B7.out.size))
  have R9 := lit_nums [2, 3, 9] #[.int .i64 2, .int .i64 3, .int .i64 9] 3 rfl etI64 3 rfl w8 2
  have hb9 : Below w8.heap.size w8 (w8.alloc (.cells #[.int .i64 2, .int .i64 3, .int .i64 9] 2)) := (Below.refl _ _).alloc (Nat.le_refl _) _
  have HN := Lib.hid (weights_n (w8.heap.size + 1) 3 3 sa (some ⟨w8.heap.size, 0, none⟩) sc 3 SA _ [2, 3, 9] [2, 3, 9] _ rfl rfl ((hS.below hb9).mono (by omega)) R9 (by decide))
  have B9 := Lib.hid (B8.out.trans (hb9.mono B8.out.size))
  clear ho hs b8 B7 B8 R9 hb9 HV7 hS
  go_wp2_with fail
  refine HN.out.mono ?_
  rintro e w10 ⟨rfl, q, rfl⟩
  simp only [decide_true]
  go_wp2_with fail
  go_ret
  exact ⟨rfl, below_drewN B9.out _⟩
end Go.Proofs.YtibdggbejogciaaGreat
