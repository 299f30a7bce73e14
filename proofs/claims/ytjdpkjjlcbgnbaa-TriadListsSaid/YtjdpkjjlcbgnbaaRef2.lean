/- The document's Near; both graphs; whether two lists are the same. Conditions: as each says. -/
import Derived.Test.YtjdpkjjlcbgnbaaRef
import Derived.Test.YtjdpkjjlcbgnbaaAddsW
namespace Go.Proofs.Ytjdpkjjlcbgnbaa
open Go.RowKit Go.Shelf

theorem nearTo_b {E : List Ed} {j : Nat} (u v : Int) (hj : j < E.length) : nearTo E u v (j + 1) = (nearTo E u v j || ((eAt E j).u == u && (eAt E j).v == v || (eAt E j).u == v && (eAt E j).v == u)) := by
  rw [nearTo_succ u v hj]
  congr 1
  rw [Bool.eq_iff_iff]
  simp
theorem nearTo_full {E : List Ed} {j : Nat} {u v : Int} (h : nearTo E u v j = true) : nearB E u v = true := by
  rw [nearTo, nearB_mem] at h
  rw [nearB_mem]
  obtain ⟨e, he, h2⟩ := h
  exact ⟨e, List.mem_of_mem_take he, h2⟩

theorem stepB0 {w w1 w2 : World} (h : Below w.heap.size w w1) (h2 : Below w1.heap.size w1 w2) : Below w.heap.size w w2 := h.trans (h2.mono h.size)
set_option maxRecDepth 100000 in
set_option maxHeartbeats 1000000 in
theorem rnear_any (B : Nat) (x : Value) (o : Option (Nat × List Ed)) (u v : Int) (w : World) (h : RG w B x o) (hB : B ≤ w.heap.size) :
    Calls Try.prog 44 #[x, .int .i64 u, .int .i64 v] w fun e w' => e = .returned (.bool (nearB (gE o) u v)) ∧ Below w.heap.size w w' := by
  have hl : (gE o).length ≤ 16384 := by
    cases o with
    | none => exact Nat.zero_le _
    | some y => obtain ⟨b, _, h1⟩ := h; exact h1.ok.m_le
  have HE := Lib.hid (redges_any B x o w h hB)
  clear h
  go_enter Try.func44, Try.ntmps44
  go_wp2_with fail
  refine HE.out.mono ?_
  rintro e w1 ⟨a, cap, A, rfl, hS, hb1⟩
  have HS := Lib.hid hS
  clear hS HE
  go_wp2_with fail
  go_loopw [8] (fun i wr => ∃ j : Nat, j ≤ (gE o).length ∧ i = .int .i64 j ∧ Hid (nearTo (gE o) u v j = false) ∧ w1 = wr) (fun i _ => (gE o).length - (intOf i).toNat)
  case atStart => exact ⟨0, Nat.zero_le _, rfl, Lib.hid rfl, rfl⟩
  case round =>
    obtain ⟨j, hj, rfl, hN, rfl⟩ := hrel
    by_cases hlt : j < (gE o).length
    · have h1 := HS.out
      have hix := h1.ix j hlt
      have eu := ES.u h1 hlt
      have ev := ES.v h1 hlt
      have bel := hb1
      clear h1
      cases d1 : ((eAt (gE o) j).u == u) with
      | true =>
        cases d2 : ((eAt (gE o) j).v == v) with
        | true =>
          have HT := Lib.hid (nearTo_full (show nearTo (gE o) u v (j + 1) = true by rw [nearTo_b u v hlt, hN.out, d1, d2]; rfl))
          go_wp2_with fail
          go_ret
          exact ⟨by rw [HT.out]; rfl, bel⟩
        | false =>
          cases d3 : ((eAt (gE o) j).u == v) with
          | true =>
            cases d4 : ((eAt (gE o) j).v == u) with
            | true =>
              have HT := Lib.hid (nearTo_full (show nearTo (gE o) u v (j + 1) = true by rw [nearTo_b u v hlt, hN.out, d1, d2, d3, d4]; rfl))
              go_wp2_with fail
              go_ret
              exact ⟨by rw [HT.out]; rfl, bel⟩
            | false =>
              have HT := Lib.hid (show nearTo (gE o) u v (j + 1) = false by rw [nearTo_b u v hlt, hN.out, d1, d2, d3, d4]; rfl)
              go_wp2_with fail
              go_roundw
              case rel => exact ⟨j + 1, by omega, by go_num, HT, trivial⟩
              case measure => simp only [intOf]; omega
          | false =>
            have HT := Lib.hid (show nearTo (gE o) u v (j + 1) = false by rw [nearTo_b u v hlt, hN.out, d1, d2, d3]; rfl)
            go_wp2_with fail
            go_roundw
            case rel => exact ⟨j + 1, by omega, by go_num, HT, trivial⟩
            case measure => simp only [intOf]; omega
      | false =>
        cases d3 : ((eAt (gE o) j).u == v) with
        | true =>
          cases d4 : ((eAt (gE o) j).v == u) with
          | true =>
            have HT := Lib.hid (nearTo_full (show nearTo (gE o) u v (j + 1) = true by rw [nearTo_b u v hlt, hN.out, d1, d3, d4]; rfl))
            go_wp2_with fail
            go_ret
            exact ⟨by rw [HT.out]; rfl, bel⟩
          | false =>
            have HT := Lib.hid (show nearTo (gE o) u v (j + 1) = false by rw [nearTo_b u v hlt, hN.out, d1, d3, d4]; rfl)
            go_wp2_with fail
            go_roundw
            case rel => exact ⟨j + 1, by omega, by go_num, HT, trivial⟩
            case measure => simp only [intOf]; omega
        | false =>
          have HT := Lib.hid (show nearTo (gE o) u v (j + 1) = false by rw [nearTo_b u v hlt, hN.out, d1, d3]; rfl)
          go_wp2_with fail
          go_roundw
          case rel => exact ⟨j + 1, by omega, by go_num, HT, trivial⟩
          case measure => simp only [intOf]; omega
    · obtain rfl : j = (gE o).length := by omega
      have HT := Lib.hid ((nearTo_end (gE o) u v).symm.trans hN.out)
      go_wp2_with fail
      go_ret
      exact ⟨by rw [HT.out]; rfl, hb1⟩

/-- both graphs -/
def BothG (n : Int) (E : List Ed) (w : World) (e : Ending) (w' : World) : Prop :=
  ∃ p r, e = .returned (.tuple #[.pointer p, r]) ∧ GV w' w'.heap.size (.pointer p) (gO n E) ∧ RG w' w'.heap.size r (gO n E) ∧ Below w.heap.size w w'
set_option maxRecDepth 100000 in
theorem both_new (a : Option Addr) (cap : Nat) (A : Nat → Addr) (n : Int) (E : List Ed) (w : World) (hS : ES w w.heap.size (.slice a E.length cap) E A) (hm : E.length ≤ 9223372036854775807) :
    Calls Try.prog 14 #[.int .i64 n, .slice a E.length cap] w (BothG n E w) := by
  have HS := Lib.hid hS
  go_enter Try.func14, Try.ntmps14
  go_wp2_with fail
  refine (gnew_any w.heap.size a cap A n E w hS (Nat.le_refl _) hm).mono ?_
  clear hS
  rintro e w1 ⟨hb1, h1⟩
  have hs1 := hb1.size
  obtain ⟨p, x, rfl, hG⟩ : ∃ p x, e = .returned (.tuple #[.pointer p, .int .i64 x]) ∧ GV w1 w1.heap.size (.pointer p) (gO n E) := by
    rcases h1 with ⟨h1, rfl⟩ | ⟨b, k, rfl, G, rfl, hG⟩
    · exact ⟨none, _, rfl, by rw [gO_none h1]; exact .inl rfl⟩
    · exact ⟨_, _, rfl, by rw [gO_some G]; exact ⟨b, rfl, hG⟩⟩
  clear h1
  have HG := Lib.hid hG
  clear hG
  go_wp2_with fail
  refine (rnew_any w1.heap.size a cap A n E w1 ((HS.out.below hb1).mono hs1) (Nat.le_refl _) hm).mono ?_
  rintro e w2 ⟨r, rfl, hR, hb2⟩
  have HR := Lib.hid hR
  clear hR
  go_wp2_with fail
  go_ret2
  exact ⟨p, r, rfl, (HG.out.below hb2).mono hb2.size, HR.out, stepB0 hb1 hb2⟩
end Go.Proofs.Ytjdpkjjlcbgnbaa
