/- The walks of plainRows and Rows of package sweep, the second at two vertices and one edge. Conditions: the edges and the order are given as cells. -/
import Derived.Test.YtpbgophogneecaaGreatCla
import Derived.Test.YtpbgophogneecaaGreatTwB
import Derived.Test.YtpbgophogneecaaGreatLba
import Derived.Test.YtpbgophogneecaaGreatGraph
namespace Go.Proofs.YtpbgophogneecaaGreat
open Go.RowKit Go.Shelf

/-- what plainRows answers -/
def PlR (n : Nat) (E : List Ed) (o : List Nat) (w : World) (e : Ending) (w' : World) : Prop :=
  ∃ v, e = .returned (.tuple #[v, .int .i64 0]) ∧ w'.ownsRow w.heap.size 35 3 v (o.length + 1) (flat (clC n E o) (o.length + 1) 3) ∧ Below w.heap.size w w'
set_option maxRecDepth 100000 in
set_option maxHeartbeats 2000000 in
theorem plainrows_any (B ob n : Nat) (ea : Option Addr) (ec : Nat) (A : Nat → Addr) (E : List Ed) (o : List Nat) (w : World) (G : GOk n E) (hn0 : 0 < n) (hS : ES w B (.slice ea E.length ec) E A) (hB : B ≤ w.heap.size)
    (hob : ob < w.heap.size) (hoc : ∀ i, i < o.length → w.cell? ⟨ob, i, none⟩ = some (.int .i64 (o.getD i 0 : Nat))) (hoi : ∀ i, i < o.length → o.getD i 0 < E.length) (hol : o.length ≤ 16384) :
    Calls Tryz.prog 25 #[.int .i64 (n : Nat), .slice ea E.length ec, .slice (some ⟨ob, 0, none⟩) o.length o.length] w (PlR n E o w) := by
  have HE := Lib.hid (even_any n w G.n_le)
  have HG := Lib.hid G; have HS := Lib.hid hS; have HO := Lib.hid hoc; have HI := Lib.hid hoi
  clear G hS hoc hoi
  go_enter Tryz.func25, Tryz.ntmps25
  go_wp2_with fail
  refine HE.out.mono ?_
  clear HE
  rintro e w1 ⟨tb, rfl, hT, b1⟩
  have HC := Lib.hid (collect_any B w.heap.size tb ob n ea ec A E o w1 HG.out hn0 (HS.out.below (b1.mono hB)) hB b1.size hob (fun i hi => (b1.cell (p := ⟨ob, i, none⟩) hob).trans (HO.out i hi)) HI.out hol hT)
  have HB1 := Lib.hid b1
  clear hT b1
  go_wp2_with fail
  refine HC.out.mono ?_
  rintro e w2 ⟨v, rfl, hv, b2⟩
  have HV := Lib.hid (And.intro hv b2)
  clear hv b2 HC
  go_wp2_with fail
  go_ret2
  exact ⟨v, rfl, own_low HV.out.1 HB1.out.size, HB1.out.trans HV.out.2⟩
theorem one_ok : GOk 2 [⟨0, 1, 0⟩] := ⟨by decide, by decide, fun i hi => by
  obtain rfl : i = 0 := by simpa using hi
  exact ⟨by decide, by decide, by decide, by decide, by decide⟩⟩
set_option maxRecDepth 100000 in
set_option maxHeartbeats 2000000 in
theorem rows_one (B ob : Nat) (ea : Option Addr) (ec : Nat) (A : Nat → Addr) (w : World) (hS : ES w B (.slice ea 1 ec) [⟨0, 1, 0⟩] A) (hB : B ≤ w.heap.size)
    (hob : ob < w.heap.size) (hoc : w.cell? ⟨ob, 0, none⟩ = some (.int .i64 0)) :
    Calls Tryz.prog 10 #[.int .i64 2, .slice ea 1 ec, .slice (some ⟨ob, 0, none⟩) 1 1] w (PlR 2 [⟨0, 1, 0⟩] [0] w) := by
  have HG := Lib.hid (gnew_any B ea ec A 2 [⟨0, 1, 0⟩] w hS hB (by decide))
  have HS := Lib.hid hS; have HO := Lib.hid hoc
  clear hS hoc
  go_enter Tryz.func10, Tryz.ntmps10
  go_wp2_with fail
  refine HG.out.mono ?_
  clear HG
  rintro e w1 ⟨b1, ⟨h0, _⟩ | ⟨gb, k, hk, _, rfl, _⟩⟩
  · exact absurd (gErr_ok one_ok) h0
  have HO1 := Lib.hid ((b1.cell (p := ⟨ob, 0, none⟩) hob).trans HO.out)
  have HQ := Lib.hid (isorder_one ob w1 HO1.out (Nat.lt_of_lt_of_le hob b1.size))
  have HB1 := Lib.hid b1
  clear b1 hk
  go_wp2_with fail
  refine HQ.out.mono ?_
  clear HQ
  rintro e w2 ⟨rfl, b2⟩
  have hb2 : Below w.heap.size w w2 := HB1.out.trans (b2.mono HB1.out.size)
  have HP := Lib.hid (plainrows_any B ob 2 ea ec A [⟨0, 1, 0⟩] [0] w2 one_ok (by decide) (HS.out.below (hb2.mono hB)) (Nat.le_trans hB hb2.size) (Nat.lt_of_lt_of_le hob hb2.size) (fun i hi => by
    obtain rfl : i = 0 := by simpa using hi
    exact (hb2.cell (p := ⟨ob, 0, none⟩) hob).trans HO.out) (fun i hi => by
    obtain rfl : i = 0 := by simpa using hi
    decide) (by decide))
  have HB2 := Lib.hid hb2
  clear hb2 b2 HB1
  go_wp2_with fail
  refine HP.out.mono ?_
  clear HP
  rintro e w3 ⟨v, rfl, hv, b3⟩
  have HV := Lib.hid (And.intro hv b3)
  clear hv b3
  go_wp2_with fail
  go_ret2
  exact ⟨v, rfl, own_low HV.out.1 HB2.out.size, HB2.out.trans (HV.out.2.mono HB2.out.size)⟩
end Go.Proofs.YtpbgophogneecaaGreat

/- The walk of works27 of the law. No conditions. -/
namespace Go.Proofs.YtpbgophogneecaaGreat
open Go.RowKit Go.Shelf
theorem two0 : clC 2 [⟨0, 1, 0⟩] [0] 1 0 = .int .i64 2 := rfl
theorem two1 : clC 2 [⟨0, 1, 0⟩] [0] 1 1 = .int .i64 1 := rfl
theorem two2 : clC 2 [⟨0, 1, 0⟩] [0] 1 2 = .int .i64 4 := rfl
set_option maxRecDepth 100000 in
set_option maxHeartbeats 2000000 in
theorem works27_any (w : World) : Calls Tryz.prog 4 #[] w fun e w' => e = .returned (.bool true) ∧ Below w.heap.size w w' := by
  obtain ⟨w1, hw1⟩ : ∃ x, w.alloc (.cells #[.int .i64 0, .int .i64 1, .int .i64 0] 45) = x := ⟨_, rfl⟩
  obtain ⟨w2, hw2⟩ : ∃ x, w1.alloc (.cells #[.int .i64 0] 3) = x := ⟨_, rfl⟩
  have z1 : w1.heap.size = w.heap.size + 1 := by rw [← hw1]; simp
  have z2 : w2.heap.size = w.heap.size + 2 := by rw [← hw2]; simp [z1]
  have b1 : Below w.heap.size w w1 := by rw [← hw1]; exact (Below.refl _ _).alloc (Nat.le_refl _) _
  have b2 : Below w1.heap.size w1 w2 := by rw [← hw2]; exact (Below.refl _ _).alloc (Nat.le_refl _) _
  have hR : Row w1 w.heap.size 3 (fun i => (#[.int .i64 0, .int .i64 1, .int .i64 0] : Array Value).getD i undef) := by rw [← hw1]; exact row3 w _ _ _ _
  have hS : ES w1 (w.heap.size + 1) (.slice (some ⟨w.heap.size, 0, none⟩) 1 1) [⟨0, 1, 0⟩] (fun i => (⟨w.heap.size, 0, none⟩ : Addr).add (i * 3)) :=
    Rd.addr etE (fun _ => Nat.lt_succ_self _) fun i hi j hj => by
      obtain rfl : i = 0 := by omega
      rw [add_mk, Nat.zero_add, Nat.zero_mul, Nat.zero_add, hR.cell hj]
      match j, hj with
      | 0, _ => rfl
      | 1, _ => rfl
      | 2, _ => rfl
  have hO : w2.cell? ⟨w1.heap.size, 0, none⟩ = some (.int .i64 0) := by rw [← hw2]; exact (Boxed.new w1 3 (.int .i64 0)).cell
  have HQ := Lib.hid (rows_one (w.heap.size + 1) w1.heap.size (some ⟨w.heap.size, 0, none⟩) 1 _ w2 (hS.below (b2.mono (by omega))) (by omega) (by omega) hO)
  have HB := Lib.hid (b1.trans (b2.mono (by omega)))
  clear z1 z2 b1 b2 hR hS hO
  go_enter Tryz.func4, Tryz.ntmps4
  go_wp2_with fail
  refine HQ.out.mono ?_
  clear HQ
  rintro e w3 ⟨v, rfl, hv, b3⟩
  obtain ⟨a, cap, A, rfl, hR⟩ := Rd.own etRw hv
  have ix : ∀ W : World, (Instr.indexAt 41 (.slice a 2 cap) (.int .i64 1)).run Tryz.prog W = .ok (.pointer (some (A 1))) W := hR.ix 1 (by decide)
  have c0 := hR.cell 1 (by decide) 0 (by omega)
  have c1 : w3.cell? ⟨(A 1).block, (A 1).off + 1, none⟩ = _ := hR.cell 1 (by decide) 1 (by omega)
  have c2 : w3.cell? ⟨(A 1).block, (A 1).off + 2, none⟩ = _ := hR.cell 1 (by decide) 2 (by omega)
  rw [two0, add_zero] at c0
  rw [two1] at c1
  rw [two2] at c2
  have HB3 := Lib.hid (HB.out.trans (b3.mono HB.out.size))
  clear hv b3 hR
  go_wp2_with fail
  go_ret
  exact ⟨rfl, HB3.out⟩
end Go.Proofs.YtpbgophogneecaaGreat
