/- The walks of the document's Count, At and List. Conditions: the graph was made by the document's New, or it is nil. -/
import Derived.Test.YtjdpkjjlcbgnbaaCntL
namespace Go.Proofs.Ytjdpkjjlcbgnbaa
open Go.RowKit Go.Shelf

set_option maxRecDepth 100000 in
theorem rtcount_any (B : Nat) (x : Value) (o : Option (Nat × List Ed)) (w : World) (h : RG w B x o) (hB : B ≤ w.heap.size) :
    Calls Try.prog 16 #[x] w fun e w' => e = .returned (.int .i64 (tri o).length) ∧ Below w.heap.size w w' := by
  have htl := tri_len h.good
  have HA := Lib.hid (rall_any B x o w h hB)
  clear h
  go_enter Try.func16, Try.ntmps16
  go_wp2_with fail
  refine HA.out.mono ?_
  rintro e w1 ⟨v, rfl, hO, hb1⟩
  obtain ⟨la, lc, rfl⟩ := own_len hO
  clear hO
  go_wp2_with fail
  go_ret
  exact ⟨rfl, hb1⟩

set_option maxRecDepth 100000 in
set_option maxHeartbeats 1000000 in
theorem rat_any (B : Nat) (x : Value) (o : Option (Nat × List Ed)) (v : Int) (w : World) (h : RG w B x o) (hB : B ≤ w.heap.size) :
    Calls Try.prog 18 #[x, .int .i64 v] w fun e w' => e = .returned (.int .i64 (cntTo (tri o) v (tri o).length : Nat)) ∧ Below w.heap.size w w' := by
  have htl := tri_len h.good
  have HA := Lib.hid (rall_any B x o w h hB)
  clear h
  go_enter Try.func18, Try.ntmps18
  go_wp2_with fail
  refine HA.out.mono ?_
  rintro e w1 ⟨y, rfl, hO, hb1⟩
  obtain ⟨T, hT⟩ : ∃ T, tri o = T := ⟨_, rfl⟩
  have HT := Lib.hid hT
  rw [OwnT, hT] at hO
  rw [hT] at htl
  clear hT
  obtain ⟨la, lc, LA, rfl, hR⟩ := Rd.own etT hO
  have HR := Lib.hid hR
  clear hO hR HA
  go_wp2_with fail
  go_loop [5, 7] (fun s i => ∃ k : Nat, k ≤ T.length ∧ i = .int .i64 k ∧ s = .int .i64 (cntTo T v k : Nat)) (fun _ i => T.length - (intOf i).toNat)
  case atStart => exact ⟨0, Nat.zero_le _, rfl, rfl⟩
  case round =>
    obtain ⟨k, hk, rfl, rfl⟩ := hrel
    have hle := cntTo_le T v k
    by_cases hlt : k < T.length
    · have h1 := HR.out
      have hix := h1.ix k hlt
      obtain ⟨x0, x1, x2, hxe⟩ : ∃ x0 x1 x2, tAt T k = (x0, x1, x2) := ⟨_, _, _, rfl⟩
      have e0 := h1.cell k hlt 0 (by omega)
      have e1 : w1.cell? ⟨(LA k).block, (LA k).off + 1, none⟩ = _ := h1.cell k hlt 1 (by omega)
      have e2 : w1.cell? ⟨(LA k).block, (LA k).off + 2, none⟩ = _ := h1.cell k hlt 2 (by omega)
      rw [add_zero] at e0
      rw [show tC T k 0 = .int .i64 (tAt T k).1 from rfl, hxe] at e0
      rw [show tC T k 1 = .int .i64 (tAt T k).2.1 from rfl, hxe] at e1
      rw [show tC T k 2 = .int .i64 (tAt T k).2.2 from rfl, hxe] at e2
      simp only at e0 e1 e2
      have hs := cntTo_succ v hlt
      rw [hxe] at hs
      unfold hasV at hs
      simp only at hs
      clear h1 hxe
      cases d0 : (x0 == v) with
      | true =>
        have HC := Lib.hid (show cntTo T v (k + 1) = cntTo T v k + 1 by rw [hs, d0]; rfl)
        clear hs
        go_wp2_with fail
        go_round
        case rel => exact ⟨k + 1, by omega, by go_num, by rw [HC.out]; go_num⟩
        case measure => simp only [intOf]; omega
      | false =>
        cases d1 : (x1 == v) with
        | true =>
          have HC := Lib.hid (show cntTo T v (k + 1) = cntTo T v k + 1 by rw [hs, d0, d1]; rfl)
          clear hs
          go_wp2_with fail
          go_round
          case rel => exact ⟨k + 1, by omega, by go_num, by rw [HC.out]; go_num⟩
          case measure => simp only [intOf]; omega
        | false =>
          cases d2 : (x2 == v) with
          | true =>
            have HC := Lib.hid (show cntTo T v (k + 1) = cntTo T v k + 1 by rw [hs, d0, d1, d2]; rfl)
            clear hs
            go_wp2_with fail
            go_round
            case rel => exact ⟨k + 1, by omega, by go_num, by rw [HC.out]; go_num⟩
            case measure => simp only [intOf]; omega
          | false =>
            have HC := Lib.hid (show cntTo T v (k + 1) = cntTo T v k by rw [hs, d0, d1, d2]; rfl)
            clear hs
            go_wp2_with fail
            go_round
            case rel => exact ⟨k + 1, by omega, by go_num, by rw [HC.out]⟩
            case measure => simp only [intOf]; omega
    · obtain rfl : k = T.length := by omega
      go_wp2_with fail
      go_ret
      exact ⟨by rw [HT.out]; rfl, hb1⟩

/-- a list of triangles that is read -/
def RTri (l : List (Int × Int × Int)) (w : World) (e : Ending) (w' : World) : Prop :=
  ∃ a cap A, e = .returned (.slice a l.length cap) ∧ Rd 53 3 w' w'.heap.size (.slice a l.length cap) l.length (tC l) A ∧ Below w.heap.size w w'
theorem RTri.nil {w w' : World} (hb : Below w.heap.size w w') : RTri [] w (.returned (.slice none 0 0)) w' := ⟨none, 0, fun _ => ⟨0, 0, none⟩, rfl, Rd.nil _, hb⟩
set_option maxRecDepth 100000 in
set_option maxHeartbeats 1000000 in
theorem rtlist_any (B : Nat) (x : Value) (o : Option (Nat × List Ed)) (most : Int) (w : World) (h : RG w B x o) (hB : B ≤ w.heap.size) :
    Calls Try.prog 28 #[x, .int .i64 most] w (RTri ((tri o).take most.toNat) w) := by
  have htl := tri_len h.good
  have HA := Lib.hid (rall_any B x o w h hB)
  clear h
  by_cases hm : most < 1
  · have H := Lib.hid (show (tri o).take most.toNat = [] by rw [show most.toNat = 0 by omega]; rfl)
    go_enter Try.func28, Try.ntmps28
    go_wp2_with fail
    refine HA.out.mono ?_
    rintro e w1 ⟨v, rfl, hO, hb1⟩
    obtain ⟨la, lc, rfl⟩ := own_len hO
    clear hO
    go_wp2_with fail
    go_ret
    rw [H.out]
    exact RTri.nil hb1
  obtain ⟨m, rfl⟩ : ∃ m : Nat, most = m := ⟨most.toNat, by omega⟩
  rw [Int.toNat_natCast]
  go_enter Try.func28, Try.ntmps28
  go_wp2_with fail
  refine HA.out.mono ?_
  rintro e w1 ⟨v, rfl, hO, hb1⟩
  generalize tri o = T at *
  clear HA
  rcases hO.2 with ⟨rfl, h0⟩ | ⟨g, cap, cur, rfl, hbs, hg, hn, hmx, hsz, ht⟩
  · have H := Lib.hid (show T.take m = [] by rw [List.length_eq_zero_iff.1 h0]; simp)
    have e0 : min (m : Int) 0 = 0 := by omega
    go_wp2_with fail
    go_ret
    rw [H.out]
    exact RTri.nil hb1
  · have hl : (T.take m).length = min m T.length := List.length_take
    unfold maxLen at hmx
    have HO := Lib.hid hO
    have hglt : g < w1.heap.size := (Array.getElem?_eq_some_iff.1 hg).1
    have fin : RTri (T.take m) w (.returned (.slice (some ⟨g, 0, none⟩) (T.take m).length cap)) w1 := by
      refine ⟨some ⟨g, 0, none⟩, cap, _, rfl, Rd.addr etT (fun _ => hglt) fun i hi j hj => ?_, hb1⟩
      have h1 := HO.out.cells (g := g) rfl (i * 3 + j) _ (flat_at (f := tC T) (size := 3) (show i < T.length by omega) hj)
      refine h1.trans ?_
      show some (tCell (tAt T i) j) = some (tCell (tAt (T.take m) i) j)
      rw [tAt_take hi]
    have FIN := Lib.hid fin
    clear hO fin hsz ht hg hbs
    by_cases hmt : m < T.length
    · have e1 : min (m : Int) (T.length : Int) = (m : Nat) := by omega
      have HL := Lib.hid (show (T.take m).length = m by omega)
      clear hl
      go_wp2_with fail
      go_ret
      have := FIN.out
      rw [HL.out] at this
      exact this
    · have e1 : min (m : Int) (T.length : Int) = (T.length : Nat) := by omega
      have HL := Lib.hid (show (T.take m).length = T.length by omega)
      clear hl
      go_wp2_with fail
      go_ret
      have := FIN.out
      rw [HL.out] at this
      exact this
end Go.Proofs.Ytjdpkjjlcbgnbaa
