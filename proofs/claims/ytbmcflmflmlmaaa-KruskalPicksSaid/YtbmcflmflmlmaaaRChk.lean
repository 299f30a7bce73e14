/- The walk of check of the document's kruskal. Conditions: the choice is short. -/
import Derived.Test.YtbmcflmflmlmaaaMin
import Derived.Test.YtbmcflmflmlmaaaRfg
namespace Go.Proofs.Ytbmcflmflmlmaaa
open Go.RowKit

/-- the error of the document's Spans -/
def ckE (n : Int) (E : List Ed) (P : List Int) : Int := if gErr n E = 0 then spE E.length P else gErr n E
theorem ckE_bad {n : Int} {E : List Ed} {P : List Int} (h : gErr n E ≠ 0) : ckE n E P = gErr n E := by unfold ckE; rw [if_neg h]
theorem ckE_range {n : Int} {E : List Ed} {P : List Int} {x : Int} (h : gErr n E = 0) (hx : x ∈ P) (hr : ¬ (0 ≤ x ∧ x < (E.length : Int))) : ckE n E P = 3 := by
  unfold ckE spE; rw [if_pos h, if_neg (fun c => hr (c x hx))]
theorem nodup_toN {P : List Int} (h : ∀ x, x ∈ P → 0 ≤ x) : (toN P).Nodup ↔ P.Nodup := by
  unfold toN
  constructor
  · intro h1
    exact List.Pairwise.imp (fun h2 e => h2 (by rw [e])) (List.pairwise_map.1 h1)
  · intro h1
    refine List.pairwise_map.2 (List.Pairwise.imp_of_mem (fun {a b} ha hb h2 e => h2 ?_) h1)
    have := h a ha; have := h b hb; omega
theorem ckE_dup {n : Int} {E : List Ed} {P : List Int} (h : gErr n E = 0) (hr : ∀ x, x ∈ P → 0 ≤ x ∧ x < (E.length : Int)) (hd : ¬ P.Nodup) : ckE n E P = 6 := by
  unfold ckE spE; rw [if_pos h, if_pos hr, if_neg (fun c => hd ((nodup_toN fun x hx => (hr x hx).1).1 c))]
theorem ckE_ok {n : Int} {E : List Ed} {P : List Int} (h : gErr n E = 0) (hr : ∀ x, x ∈ P → 0 ≤ x ∧ x < (E.length : Int)) (hd : P.Nodup) : ckE n E P = 0 := by
  unfold ckE spE; rw [if_pos h, if_pos hr, if_pos ((nodup_toN fun x hx => (hr x hx).1).2 hd)]
theorem take_nth {P : List Int} {k : Nat} (h : k < P.length) : P.take (k + 1) = P.take k ++ [nth P k] := by
  rw [List.take_succ_eq_append_getElem h, nth_eq h]
theorem nth_mem {P : List Int} {k : Nat} (h : k < P.length) : nth P k ∈ P := by rw [nth_eq h]; exact List.getElem_mem h
theorem not_nodup {P : List Int} {i j : Nat} (hi : i < P.length) (hj : j < i) (h : nth P i = nth P j) : ¬ P.Nodup := fun c => by
  rw [nth_eq hi, nth_eq (by omega)] at h
  exact List.pairwise_iff_getElem.1 c j i (by omega) hi hj h.symm
set_option maxRecDepth 100000 in
set_option maxHeartbeats 2000000 in
theorem rcheck_any (B : Nat) (a pa : Option Addr) (cap pc : Nat) (A PA : Nat → Addr) (n : Int) (E : List Ed) (P : List Int) (w : World) (hS : ES w B (.slice a E.length cap) E A) (hP : Sl 24 .i64 w B (.slice pa P.length pc) P PA) (hB : B ≤ w.heap.size) (hm : E.length ≤ 9223372036854775807) (hl : P.length ≤ 1000000) :
    Calls Try.prog 58 #[.int .i64 n, .slice a E.length cap, .slice pa P.length pc] w fun e w' => e = .returned (.int .i64 (ckE n E P)) ∧ Below w.heap.size w w' := by
  have HN := Lib.hid (rnew_any B a cap A n E w hS hB hm)
  have HP := Lib.hid hP
  clear hS hP
  go_enter Try.func58, Try.ntmps58
  go_wp2_with fail
  refine HN.out.mono ?_
  clear HN
  rintro e w1 ⟨v, rfl, _, hb1⟩
  obtain ⟨ee, hee⟩ : ∃ ee, gErr n E = ee := ⟨_, rfl⟩
  have HE := Lib.hid hee
  rw [hee]
  clear hee
  have HB1 := Lib.hid hb1
  have HP1 := Lib.hid (HP.out.below (hb1.mono hB))
  clear hb1
  by_cases hz0 : ee = 0
  · have hz : (ee != 0) = false := by simp [hz0]
    have HZ := Lib.hid (HE.out.trans hz0)
    clear hz0
    go_wp2_with fail
    go_loopw [9] (fun iv wr => ∃ i : Nat, i ≤ P.length ∧ iv = .int .i64 (i : Nat) ∧ Hid (∀ x, x ∈ P.take i → 0 ≤ x ∧ x < (E.length : Int)) ∧ Hid (w1 = wr)) (fun iv _ => P.length - (intOf iv).toNat)
    case atStart => exact ⟨0, Nat.zero_le _, rfl, Lib.hid (fun x hx => by simp at hx), Lib.hid rfl⟩
    case round =>
      obtain ⟨i, hi, rfl, HR, HW⟩ := hrel
      obtain rfl := HW.out
      by_cases hlt : i < P.length
      · have ix := HP1.out.ix i hlt
        have c0 := Sl.at HP1.out hlt
        obtain ⟨x, hx⟩ : ∃ x, nth P i = x := ⟨_, rfl⟩
        rw [hx] at c0
        have HX := Lib.hid hx
        have hiv : (0 : Int) ≤ i ∧ (i : Int) < P.length := by omega
        clear hx
        by_cases h1 : x < 0
        · have d1 : decide (x < 0) = true := decide_eq_true h1
          have HK := Lib.hid (ckE_range HZ.out (show x ∈ P by rw [← HX.out]; exact nth_mem hlt) (fun c => by omega))
          clear h1
          go_wp2_with fail
          go_ret
          exact ⟨by rw [HK.out]; rfl, HB1.out⟩
        · have d1 : decide (x < 0) = false := decide_eq_false h1
          by_cases h2 : x ≥ (E.length : Int)
          · have d2 : decide (x ≥ (E.length : Int)) = true := decide_eq_true h2
            have HK := Lib.hid (ckE_range HZ.out (show x ∈ P by rw [← HX.out]; exact nth_mem hlt) (fun c => by omega))
            clear h1 h2
            go_wp2_with fail
            go_ret
            exact ⟨by rw [HK.out]; rfl, HB1.out⟩
          · have d2 : decide (x ≥ (E.length : Int)) = false := decide_eq_false h2
            have HR2 := Lib.hid (show ∀ y, y ∈ P.take (i + 1) → 0 ≤ y ∧ y < (E.length : Int) from fun y hy => by
              rw [take_nth hlt, HX.out] at hy
              rcases List.mem_append.1 hy with hy | hy
              · exact HR.out y hy
              · simp at hy; omega)
            clear h1 h2
            go_wp2_with fail
            go_roundw
            case rel => exact ⟨i + 1, by omega, by go_num, HR2, Lib.hid trivial⟩
            case measure => simp only [intOf]; omega
      · have hie : i = P.length := by omega
        have HR2 := Lib.hid (show ∀ x, x ∈ P → 0 ≤ x ∧ x < (E.length : Int) by have := HR.out; rw [hie, List.take_length] at this; exact this)
        clear HR hie
        go_wp2_with fail
        go_loopw [10] (fun iv wr => ∃ i : Nat, i ≤ P.length ∧ iv = .int .i64 (i : Nat) ∧ Hid ((P.take i).Nodup) ∧ Hid (∃ m, wr = w1.drewN m)) (fun iv _ => P.length - (intOf iv).toNat)
        case atStart => exact ⟨0, Nat.zero_le _, rfl, Lib.hid (by simp), Lib.hid ⟨0, rfl⟩⟩
        case round =>
          obtain ⟨i, hi, rfl, HD, HW⟩ := hrel
          by_cases hlt : i < P.length
          · obtain ⟨x, hx⟩ : ∃ x, nth P i = x := ⟨_, rfl⟩
            have HX := Lib.hid hx
            clear hx
            go_wp2_with fail
            go_loopw [11] (fun jv wr => ∃ j : Nat, j ≤ i ∧ jv = .int .i64 (j : Nat) ∧ Hid (∀ y, y ∈ P.take j → y ≠ x) ∧ Hid (∃ m, wr = w1.drewN m)) (fun jv _ => i - (intOf jv).toNat)
            case atStart => exact ⟨0, Nat.zero_le _, rfl, Lib.hid (fun y hy => by simp at hy), HW⟩
            case round =>
              clear HW
              obtain ⟨j, hj, rfl, HQ, HW⟩ := hrel
              have bel : Below w1.heap.size w1 wr := by obtain ⟨m, rfl⟩ := HW.out; exact below_drewN (Below.refl _ _) _
              have hb : Below w.heap.size w wr := by obtain ⟨m, rfl⟩ := HW.out; exact below_drewN HB1.out _
              by_cases hlj : j < i
              · have ix := HP1.out.ix i hlt
                have ij := HP1.out.ix j (by omega)
                have c0 := Sl.at (HP1.out.below (bel.mono (by have := HB1.out.size; omega))) hlt
                have c1 := Sl.at (HP1.out.below (bel.mono (by have := HB1.out.size; omega))) (i := j) (by omega)
                obtain ⟨y, hy⟩ : ∃ y, nth P j = y := ⟨_, rfl⟩
                rw [HX.out] at c0; rw [hy] at c1
                have HY := Lib.hid hy
                have hiv : (0 : Int) ≤ i ∧ (i : Int) < P.length := by omega
                have hjv : (0 : Int) ≤ j ∧ (j : Int) < P.length := by omega
                clear hy bel
                by_cases hxy : x = y
                · have k1 : (x == y) = true := by simp [hxy]
                  have HK := Lib.hid (ckE_dup HZ.out HR2.out (not_nodup hlt hlj (by rw [HX.out, HY.out, hxy])))
                  clear hxy
                  go_wp2_with fail
                  go_quiet (fail)
                  go_wp2_with fail
                  go_ret
                  exact ⟨by rw [HK.out]; rfl, below_drewN hb _⟩
                · have k1 : (x == y) = false := by simpa using hxy
                  have HQ2 := Lib.hid (show ∀ z, z ∈ P.take (j + 1) → z ≠ x from fun z hz => by
                    rw [take_nth (by omega), HY.out] at hz
                    rcases List.mem_append.1 hz with hz | hz
                    · exact HQ.out z hz
                    · simp at hz; rw [hz]; exact fun e => hxy e.symm)
                  clear hxy
                  go_wp2_with fail
                  go_quiet (fail)
                  go_wp2_with fail
                  go_roundw
                  case rel =>
                    refine ⟨j + 1, by omega, by go_num, HQ2, Lib.hid ?_⟩
                    obtain ⟨m, rfl⟩ := HW.out
                    exact ⟨_, World.drewN_drewN _ _ _⟩
                  case measure => simp only [intOf]; omega
              · obtain rfl : j = i := by omega
                have HD2 := Lib.hid (show (P.take (j + 1)).Nodup by
                  rw [take_nth hlt, HX.out]
                  refine List.pairwise_append.2 ⟨HD.out, by simp, fun a ha b hb => ?_⟩
                  simp at hb; rw [hb]; exact HQ.out a ha)
                go_wp2_with fail
                go_roundw
                case rel => exact ⟨j + 1, by omega, by go_num, HD2, HW⟩
                case measure => simp only [intOf]; omega
          · have hie : i = P.length := by omega
            have hd := HD.out
            rw [hie, List.take_length] at hd
            have HK := Lib.hid (ckE_ok HZ.out HR2.out hd)
            clear hd
            go_wp2_with fail
            go_ret
            exact ⟨by rw [HK.out]; rfl, by obtain ⟨m, rfl⟩ := HW.out; exact below_drewN HB1.out _⟩
  · have hz : (ee != 0) = true := by simpa using hz0
    have HZ := Lib.hid hz0
    clear hz0
    go_wp2_with fail
    go_ret
    exact ⟨by rw [ckE_bad (by rw [HE.out]; exact HZ.out), HE.out]; rfl, HB1.out⟩
end Go.Proofs.Ytbmcflmflmlmaaa
