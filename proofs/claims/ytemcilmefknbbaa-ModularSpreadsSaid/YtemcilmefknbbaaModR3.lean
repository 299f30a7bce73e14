/- The document's numerator of a partition. Conditions: there is a graph, and there are as many labels as vertices. -/
import Derived.Test.YtemcilmefknbbaaModR2
namespace Go.Proofs.Ytemcilmefknbbaa
open Go.RowKit Go.Shelf

/-- is a label among the first k ones? -/
def seenB (L : List Int) (k : Nat) (x : Int) : Bool := (List.range k).any fun v => nth L v == x
theorem seenB_succ (L : List Int) (k : Nat) (x : Int) : seenB L (k + 1) x = (seenB L k x || (nth L k == x)) := by
  simp [seenB, List.range_succ, List.any_append]
/-- the squares of the classes that are seen -/
def seenQ (E : List Ed) (L : List Int) (k : Nat) : Int := sumZ L.length fun u => if seenB L k (nth L u) then dgZ E u * dC E L (nth L u) else 0
theorem seenQ_zero (E : List Ed) (L : List Int) : seenQ E L 0 = 0 := by
  have : seenQ E L 0 = sumZ L.length fun _ => 0 := sumZ_congr fun u _ => by simp [seenB]
  rw [this, sumZ_zero]
theorem seenQ_yes {E : List Ed} {L : List Int} {k : Nat} (h : seenB L k (nth L k) = true) : seenQ E L (k + 1) = seenQ E L k := sumZ_congr fun u _ => by
  rw [seenB_succ]
  by_cases e : nth L k = nth L u
  · rw [← e, h]; simp
  · simp [e]
theorem seenQ_no {E : List Ed} {L : List Int} {k : Nat} (h : seenB L k (nth L k) = false) : seenQ E L (k + 1) = seenQ E L k + dC E L (nth L k) * dC E L (nth L k) := by
  have e : seenQ E L (k + 1) = sumZ L.length fun u => (if seenB L k (nth L u) then dgZ E u * dC E L (nth L u) else 0) + dC E L (nth L k) * (if nth L u = nth L k then dgZ E u else 0) := sumZ_congr fun u _ => by
    rw [seenB_succ]
    by_cases e : nth L u = nth L k
    · rw [e, h, if_pos rfl, Int.mul_comm]; simp
    · have e2 : (nth L k == nth L u) = false := by simp; exact fun c => e c.symm
      rw [e2, if_neg e]; simp
  rw [e, sumZ_add, sumZ_mul]
  rfl
theorem seenQ_end (E : List Ed) (L : List Int) : seenQ E L L.length = sqS E L := sumZ_congr fun u hu => by
  rw [if_pos]
  simp only [seenB, List.any_eq_true, List.mem_range, beq_iff_eq]
  exact ⟨u, hu, rfl⟩
theorem seenQ_bd {n : Nat} {E : List Ed} (G : GOk n E) {L : List Int} (hL : L.length = n) (k : Nat) : 0 ≤ seenQ E L k ∧ seenQ E L k ≤ 1073741824 := by
  have h0 : ∀ u, 0 ≤ dgZ E u * dC E L (nth L u) := fun u => Int.mul_nonneg (dgZ_nonneg _ _) (dTo_nonneg _ _ _ _)
  have h1 : seenQ E L k ≤ sqS E L := sumZ_le fun u _ => by have := h0 u; split <;> omega
  have h2 := sqS_le G hL
  have h3 : 2 * (E.length : Int) * (2 * (E.length : Int)) = 4 * (E.length : Int) * (E.length : Int) := by
    rw [← Int.mul_assoc, Int.mul_right_comm 2 (E.length : Int) 2]; simp
  have h4 := mm_le G
  exact ⟨sumZ_nonneg fun u _ => by have := h0 u; split <;> omega, by omega⟩
/-- is it the first of its class, as far as one has looked? -/
def frB (L : List Int) (v j : Nat) : Bool := !(seenB L (min j v) (nth L v))
theorem frB_zero (L : List Int) (v : Nat) : frB L v 0 = true := by simp [frB, seenB]
theorem frB_same {L : List Int} {v j : Nat} (h : nth L j = nth L v) : frB L v (j + 1) = (frB L v j && decide (v ≤ j)) := by
  unfold frB
  by_cases hj : v ≤ j
  · rw [Nat.min_eq_right (by omega), Nat.min_eq_right hj]; simp [hj]
  · rw [Nat.min_eq_left (by omega), Nat.min_eq_left (by omega), seenB_succ]; simp [h, hj]
theorem frB_other {L : List Int} {v j : Nat} (h : nth L j ≠ nth L v) : frB L v (j + 1) = frB L v j := by
  unfold frB
  by_cases hj : v ≤ j
  · rw [Nat.min_eq_right (by omega), Nat.min_eq_right hj]
  · rw [Nat.min_eq_left (by omega), Nat.min_eq_left (by omega), seenB_succ]; simp [h]
theorem frB_end {L : List Int} {v n : Nat} (hv : v ≤ n) : frB L v n = !(seenB L v (nth L v)) := by rw [frB, Nat.min_eq_right hv]

set_option maxRecDepth 100000 in
set_option maxHeartbeats 4000000 in
theorem rnum_any (B : Nat) (v : Value) (n : Nat) (E : List Ed) (la : Option Addr) (lc : Nat) (LA : Nat → Addr) (L : List Int) (w : World) (h : RG w B v (some (n, E))) (hL : Sl 23 .i64 w B (.slice la L.length lc) L LA) (hB : B ≤ w.heap.size) (hn : L.length = n) :
    Calls Try.prog 36 #[v, .slice la L.length lc] w fun e w' => e = .returned (.int .i64 (num E L)) ∧ Below w.heap.size w w' := by
  have hi := rinside_any B v (some (n, E)) la lc LA L w h hL hB
  have hz : mErr (some (n, E)) L.length = 0 := by simp [mErr, hn]; rfl
  rw [insN, if_pos hz, hz] at hi
  have hi : Calls Try.prog 19 #[v, .slice la L.length lc] w fun e w' => e = .returned (.tuple #[.int .i64 (inN E L : Int), .int .i64 0]) ∧ Below w.heap.size w w' := hi
  have HI := Lib.hid hi
  have G : GOk n E := by obtain ⟨b, _, h1⟩ := h; exact h1.ok
  have hml := G.m_le
  have hnl := G.n_le
  have hil := inN_le E L
  have hmm := mm_le G
  have h4 : 0 ≤ 4 * (E.length : Int) * (inN E L : Int) ∧ 4 * (E.length : Int) * (inN E L : Int) ≤ 1073741824 :=
    ⟨Int.mul_nonneg (by omega) (by omega), Int.le_trans (Int.mul_le_mul_of_nonneg_left (show (inN E L : Int) ≤ E.length by omega) (by omega)) hmm⟩
  have HNum := Lib.hid (show 4 * (E.length : Int) * (inN E L : Int) - sqS E L = num E L from rfl)
  have HV := Lib.hid h
  have HL := Lib.hid hL
  have HN := Lib.hid hn
  have HG := Lib.hid G
  clear hi hz h hL hn G
  go_enter Try.func36, Try.ntmps36
  go_wp2_with fail
  refine HI.out.mono ?_
  rintro e w1 ⟨rfl, hb1⟩
  have HV1 := Lib.hid (HV.out.below (hb1.mono hB))
  have HL1 := Lib.hid (HL.out.below (hb1.mono hB))
  have hB1 : B ≤ w1.heap.size := Nat.le_trans hB hb1.size
  clear HI
  go_wp2_with fail
  go_loopw [7, 8] (fun s i wr => ∃ k : Nat, k ≤ L.length ∧ i = .int .i64 k ∧ s = .int .i64 (seenQ E L k) ∧ Below w1.heap.size w1 wr) (fun _ i _ => L.length - (intOf i).toNat)
  case atStart => exact ⟨0, Nat.zero_le _, rfl, by rw [seenQ_zero], Below.refl _ _⟩
  case round =>
    obtain ⟨k, hk, rfl, rfl, bel⟩ := hrel
    have hLn : L.length ≤ 4096 := by rw [HN.out]; exact hnl
    by_cases hlt : k < L.length
    · have hq0 := seenQ_bd HG.out HN.out k
      go_wp2_with fail
      go_loopw [9, 10, 11] (fun f d j wv => ∃ m : Nat, m ≤ L.length ∧ j = .int .i64 m ∧ f = .bool (frB L k m) ∧ d = .int .i64 (dTo E L (nth L k) m) ∧ Below w1.heap.size w1 wv) (fun _ _ j _ => L.length - (intOf j).toNat)
      case atStart => exact ⟨0, Nat.zero_le _, rfl, by rw [frB_zero], rfl, bel⟩
      case round =>
        obtain ⟨m, hm, rfl, rfl, rfl, belv⟩ := hrel
        have hd0 : 0 ≤ dTo E L (nth L k) m := dTo_nonneg E L (nth L k) m
        have hd1 : dTo E L (nth L k) m ≤ 2 * (E.length : Int) := dTo_le HG.out L (nth L k) (by rw [← HN.out]; exact hm)
        by_cases hltm : m < L.length
        · have hLv := HL1.out.below (belv.mono hB1)
          have i0 := hLv.ix m hltm
          have i1 := hLv.ix k hlt
          have l0 := Sl.at hLv hltm
          have l1 := Sl.at hLv hlt
          have hsucc := dTo_succ E L (nth L k) m
          have hd2 : dTo E L (nth L k) (m + 1) ≤ 2 * (E.length : Int) := dTo_le HG.out L (nth L k) (by rw [← HN.out]; exact hltm)
          clear hLv
          by_cases e : nth L m = nth L k
          · have hq : (nth L m == nth L k) = true := by simpa using e
            have HD := Lib.hid (fun q => rdegree_any B v (some (n, E)) (m : Nat) (wr.drewN q) (HV1.out.below (below_drewN (belv.mono hB1) q)) (Nat.le_trans hB1 belv.size))
            have hgd : ((gAdj (some (n, E)) (m : Nat)).length : Int) = dgZ E m := by
              rw [gAdj, if_pos (gHas_yes ⟨by omega, by show (m : Int) < (n : Int); have := HN.out; omega⟩)]; rfl
            rw [hgd] at HD
            have HF := Lib.hid (frB_same e)
            have hge := dgZ_nonneg E m
            rw [if_pos e] at hsucc
            have HS := Lib.hid hsucc
            rw [hsucc] at hd2
            clear hsucc hgd
            generalize hgz : dgZ E m = gz at *
            generalize hfr : frB L k m = fr at *
            clear hgz hfr
            cases fr with
            | false =>
              go_wp2_with fail
              go_quiet (fail)
              go_wp2_with fail
              refine (HD.out _).mono ?_
              rintro e w2 ⟨rfl, hb2⟩
              go_wp2_with fail
              go_roundw
              case rel => exact ⟨m + 1, by omega, by go_num, by rw [HF.out]; rfl, by rw [HS.out], (below_drewN belv _).trans (hb2.mono belv.size)⟩
              case measure => simp only [intOf]; omega
            | true =>
              by_cases hkm : k ≤ m
              · have hdk : decide ((m : Int) ≥ (k : Int)) = true := decide_eq_true (by omega)
                go_wp2_with fail
                go_quiet (fail)
                go_wp2_with fail
                refine (HD.out _).mono ?_
                rintro e w2 ⟨rfl, hb2⟩
                go_wp2_with fail
                go_roundw
                case rel => exact ⟨m + 1, by omega, by go_num, by rw [HF.out]; simp [hkm], by rw [HS.out], (below_drewN belv _).trans (hb2.mono belv.size)⟩
                case measure => simp only [intOf]; omega
              · have hdk : decide ((m : Int) ≥ (k : Int)) = false := decide_eq_false (by omega)
                go_wp2_with fail
                go_quiet (fail)
                go_wp2_with fail
                refine (HD.out _).mono ?_
                rintro e w2 ⟨rfl, hb2⟩
                go_wp2_with fail
                go_roundw
                case rel => exact ⟨m + 1, by omega, by go_num, by rw [HF.out]; simp [hkm], by rw [HS.out], (below_drewN belv _).trans (hb2.mono belv.size)⟩
                case measure => simp only [intOf]; omega
          · have hq : (nth L m == nth L k) = false := by simpa using e
            have HF := Lib.hid (frB_other e)
            rw [if_neg e, Int.add_zero] at hsucc
            have HS := Lib.hid hsucc
            clear hsucc hd2
            go_wp2_with fail
            go_quiet (fail)
            go_wp2_with fail
            go_roundw
            case rel => exact ⟨m + 1, by omega, by go_num, by rw [HF.out], by rw [HS.out], below_drewN belv _⟩
            case measure => simp only [intOf]; omega
        · have hmL : m = L.length := by omega
          have HD := Lib.hid (show dTo E L (nth L k) m = dC E L (nth L k) by rw [hmL]; rfl)
          have hfe : frB L k m = !(seenB L k (nth L k)) := frB_end (by omega)
          have hq1 := seenQ_bd HG.out HN.out (k + 1)
          have hmm2 : 0 ≤ dTo E L (nth L k) m * dTo E L (nth L k) m ∧ dTo E L (nth L k) m * dTo E L (nth L k) m ≤ 1073741824 := by
            refine ⟨Int.mul_nonneg hd0 hd0, ?_⟩
            exact Int.le_trans (Int.mul_le_mul (show dTo E L (nth L k) m ≤ 32768 by omega) (show dTo E L (nth L k) m ≤ 32768 by omega) hd0 (by omega)) (by decide)
          cases hsn : seenB L k (nth L k) with
          | true =>
            rw [show frB L k m = false by rw [hfe, hsn]; rfl]
            have HQ := Lib.hid (seenQ_yes (E := E) hsn)
            clear hq1 hsn hfe
            go_wp2_with fail
            go_roundw
            case rel => exact ⟨k + 1, by omega, by go_num, by rw [HQ.out], belv⟩
            case measure => simp only [intOf]; omega
          | false =>
            rw [show frB L k m = true by rw [hfe, hsn]; rfl]
            have HQ := Lib.hid (show seenQ E L (k + 1) = seenQ E L k + dTo E L (nth L k) m * dTo E L (nth L k) m by rw [HD.out]; exact seenQ_no hsn)
            have hq2 : seenQ E L k + dTo E L (nth L k) m * dTo E L (nth L k) m ≤ 1073741824 := by rw [← HQ.out]; exact hq1.2
            clear hq1 hsn hfe
            generalize dTo E L (nth L k) m = dd at *
            go_wp2_with fail
            go_roundw
            case rel => exact ⟨k + 1, by omega, by go_num, by rw [HQ.out], belv⟩
            case measure => simp only [intOf]; omega
    · have hkL : k = L.length := by omega
      have hq0 := seenQ_bd HG.out HN.out k
      have HQ := Lib.hid (show seenQ E L k = sqS E L by rw [hkL]; exact seenQ_end E L)
      have HE := Lib.hid (redges_any B v (some (n, E)) wr (HV1.out.below (bel.mono hB1)) (Nat.le_trans hB1 bel.size))
      have hd : decide ((k : Int) < (L.length : Int)) = false := decide_eq_false (by omega)
      go_wp2_with fail
      refine HE.out.mono ?_
      rintro e w2 ⟨ea, ec, EA, rfl, -, hb2⟩
      simp only [gE]
      have HR := Lib.hid (show 4 * (E.length : Int) * (inN E L : Int) - seenQ E L k = num E L by rw [HQ.out]; exact HNum.out)
      generalize seenQ E L k = q at *
      generalize hI : (inN E L : Int) = I at *
      clear hI
      go_wp2_with fail
      go_ret
      exact ⟨by rw [← HR.out]; rfl, stepB0 hb1 (bel.trans (hb2.mono bel.size))⟩
end Go.Proofs.Ytemcilmefknbbaa
