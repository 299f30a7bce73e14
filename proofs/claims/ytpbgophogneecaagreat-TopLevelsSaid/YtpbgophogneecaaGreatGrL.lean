/- The walks of valid, N, parts and Labels of package graph. Conditions: the graph was made by New. -/
import Derived.Test.YtpbgophogneecaaGreatDsuL
import Derived.Test.YtpbgophogneecaaGreatGraph
import Derived.Test.YtpbgophogneecaaGreatPl
import Derived.Test.YtpbgophogneecaaGreatMe
import Derived.LaidEqlPtr
namespace Go.Proofs.YtpbgophogneecaaGreat
open Go.RowKit

theorem Tryz.infoGr : (Tryz.prog.info? 100).isSome = true := by kernel_rfl
theorem gr_same (a : Addr) (w : World) : (binOp .eql 31 (.pointer (some a)) (.pointer (some a))).run Tryz.prog w = .ok (.bool true) w := by
  obtain ⟨j, hj⟩ := Option.isSome_iff_exists.1 Tryz.infoGr
  exact run_eql_ptr_same w a Tryz.underlying31 hj
set_option maxHeartbeats 400000 in
theorem gvalid_is (B b n : Nat) (E : List Ed) (w : World) (h : GraphAt w B b n E) :
    Calls Tryz.prog 70 #[.pointer (some ⟨b, 0, none⟩)] w fun e w' => e = .returned (.bool true) ∧ w = w' := by
  obtain ⟨sb, lb, a, cap, f, A, -, -, h3, -⟩ := h.mem
  have c0 : w.cell? ⟨b, 0, none⟩ = some (.pointer (some ⟨b, 0, none⟩)) := h3.cell (by omega)
  have eq := gr_same ⟨b, 0, none⟩
  clear h h3
  go_enter Tryz.func70, Tryz.ntmps70
  go_wp2
  go_ret
  exact ⟨rfl, rfl⟩
set_option maxHeartbeats 400000 in
theorem gn_is (B b n : Nat) (E : List Ed) (w : World) (h : GraphAt w B b n E) :
    Calls Tryz.prog 71 #[.pointer (some ⟨b, 0, none⟩)] w fun e w' => e = .returned (.int .i64 (n : Nat)) ∧ w = w' := by
  have hv := Lib.hid (gvalid_is B b n E w h)
  obtain ⟨sb, lb, a, cap, f, A, -, -, h3, -⟩ := h.mem
  have c2 : w.cell? ⟨b, 2, none⟩ = some (.slice (some ⟨sb, 0, none⟩) (n + 1) (n + 1)) := h3.cell (by omega)
  have hn := h.ok.n_le
  clear h h3
  go_enter Tryz.func71, Tryz.ntmps71
  go_wp2_with fail
  refine hv.out.mono ?_
  rintro e w' ⟨rfl, rfl⟩
  go_wp2_with fail
  go_ret
  exact ⟨by simp, rfl⟩
theorem GraphAt.edges {w : World} {B b n : Nat} {E : List Ed} (h : GraphAt w B b n E) : ∃ a cap A, w.cell? ⟨b, 1, none⟩ = some (.slice a E.length cap) ∧ ES w B (.slice a E.length cap) E A := by
  obtain ⟨sb, lb, a, cap, f, A, -, -, h3, -, -, -, h7⟩ := h.mem
  exact ⟨a, cap, A, h3.cell (by omega), h7⟩
/-- the sets of the components -/
def PartsRes (n : Nat) (E : List Ed) (w : World) (e : Ending) (w' : World) : Prop :=
  ∃ b z, e = .returned (.pointer (some ⟨b, 0, none⟩)) ∧ DS w' z b n (labO E (List.range E.length)) ∧ z.high ≤ w'.heap.size ∧ w.heap.size ≤ z.low ∧ Below w.heap.size w w'
set_option maxRecDepth 100000 in
set_option maxHeartbeats 2000000 in
theorem gparts_any (B b n : Nat) (E : List Ed) (w : World) (h : GraphAt w B b n E) (hB : B ≤ w.heap.size) :
    Calls Tryz.prog 43 #[.pointer (some ⟨b, 0, none⟩)] w (PartsRes n E w) := by
  have HV := Lib.hid (gvalid_is B b n E w h)
  have HN := Lib.hid (gn_is B b n E w h)
  obtain ⟨ea, ec, EA, hce, hES⟩ := h.edges
  have HG := Lib.hid h.ok
  have hn := h.ok.n_le
  have hml := h.ok.m_le
  have hbB := h.lt
  have HES := Lib.hid hES; have HCe := Lib.hid hce
  clear h hES hce
  go_enter Tryz.func43, Tryz.ntmps43
  go_wp2_with fail
  refine HV.out.mono ?_
  rintro e wx ⟨rfl, rfl⟩
  go_wp2_with fail
  refine HN.out.mono ?_
  rintro e wx ⟨rfl, rfl⟩
  clear HV HN
  have HD := Lib.hid (dnew_any n w (by omega))
  go_wp2_with fail
  refine HD.out.mono ?_
  clear HD
  rintro e w1 ⟨db, rfl, hD, hb1⟩
  have ce : w1.cell? ⟨b, 1, none⟩ = some (.slice ea E.length ec) := (hb1.cell (p := ⟨b, 1, none⟩) (by show b < w.heap.size; omega)).trans HCe.out
  have HD := Lib.hid hD; have HB1 := Lib.hid hb1
  have hs1 := hb1.size
  clear hD hb1
  go_wp2_with fail
  go_loopw [21] (fun iv wr => ∃ q : Nat, q ≤ E.length ∧ iv = .int .i64 (q : Nat) ∧ Hid (DS wr ⟨w.heap.size, w1.heap.size⟩ db n (labO E (List.range q))) ∧ Hid (Below w.heap.size w wr) ∧ Hid (w1.heap.size ≤ wr.heap.size)) (fun iv _ => E.length - (intOf iv).toNat)
  case atStart => exact ⟨0, Nat.zero_le _, rfl, HD, HB1, Lib.hid (Nat.le_refl _)⟩
  case round =>
    clear HD HB1 ce
    obtain ⟨q, hq, rfl, HD, HB, HZ⟩ := hrel
    by_cases hlt : q < E.length
    · have hEr := HES.out.below (HB.out.mono hB)
      have ix := hEr.ix q hlt
      have e0 := ES.u hEr hlt
      have e1 := ES.v hEr hlt
      have e2 := ES.w hEr hlt
      obtain ⟨u, v, hu, hv, hun, hvn, huv⟩ := HG.out.nats hlt
      obtain ⟨x, hx⟩ : ∃ x, (eAt E q).w = x := ⟨_, rfl⟩
      rw [hu] at e0; rw [hv] at e1; rw [hx] at e2
      have hqv : (0 : Int) ≤ q ∧ (q : Int) < E.length := by omega
      have HUV := Lib.hid (show labO E (List.range (q + 1)) = joinF (labO E (List.range q)) u v by
        rw [List.range_succ, labO_snoc]; unfold edP; rw [hu, hv]; simp)
      have hba : Below w1.heap.size wr (wr.alloc (.cells #[.int .i64 (u : Nat), .int .i64 (v : Nat), .int .i64 x] 45)) := (Below.refl _ wr).alloc HZ.out _
      have hDa := HD.out.zone hba (Nat.le_refl _)
      have HU := Lib.hid (union_any ⟨w.heap.size, w1.heap.size⟩ db n (labO E (List.range q)) u v _ hDa hun hvn (by omega))
      have HBa := Lib.hid (HB.out.trans (hba.mono hs1))
      have HZa := Lib.hid (Nat.le_trans HZ.out hba.size)
      clear hEr hu hv hx hba hDa HD HB HZ
      go_wp2_with fail
      refine HU.out.mono ?_
      clear HU
      rintro e w4 ⟨rfl, hD4, hin⟩
      have HD4 := Lib.hid (show DS w4 ⟨w.heap.size, w1.heap.size⟩ db n (labO E (List.range (q + 1))) by rw [HUV.out]; exact hD4)
      have HB4 := Lib.hid (HBa.out.trans hin.bel)
      have HZ4 := Lib.hid (Nat.le_trans HZa.out hin.bel.size)
      clear hD4 hin
      go_wp2_with fail
      go_roundw
      case rel => exact ⟨q + 1, by omega, by go_num, HD4, HB4, HZ4⟩
      case measure => simp only [intOf]; omega
    · obtain rfl : q = E.length := by omega
      go_wp2_with fail
      go_ret
      exact ⟨db, ⟨w.heap.size, w1.heap.size⟩, rfl, HD.out, HZ.out, Nat.le_refl _, HB.out⟩
end Go.Proofs.YtpbgophogneecaaGreat
