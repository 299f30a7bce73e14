/- The walk of frequent of package modular. Conditions: the vertices are in range. -/
import Derived.Test.YtemcilmefknbbaaModSo
import Derived.Test.YtemcilmefknbbaaModSc
import Derived.Laws.MakeOwn
namespace Go.Proofs.Ytemcilmefknbbaa
open Go.RowKit Go.Shelf Go.Maps Go.Sort

/-- the labels of vertices -/
def labsOf (L V : List Int) : List Int := V.map fun v => nth L v.toNat
theorem labsOf_take {L V : List Int} {k : Nat} (h : k < V.length) : labsOf L (V.take (k + 1)) = labsOf L (V.take k) ++ [nth L (nth V k).toNat] := by
  rw [labsOf, take_pre1 h, List.map_append]; rfl
set_option maxRecDepth 100000 in
set_option maxHeartbeats 4000000 in
theorem frequent_any (B : Nat) (la va : Option Addr) (lc vc : Nat) (LA VA : Nat → Addr) (L V : List Int) (own : Int) (w : World) (hL : Sl 23 .i64 w B (.slice la L.length lc) L LA) (hV : Sl 23 .i64 w B (.slice va V.length vc) V VA) (hB : B ≤ w.heap.size) (hr : ∀ k, k < V.length → ∃ x : Nat, nth V k = x ∧ x < L.length) (hl : V.length ≤ 1000000) :
    Calls Try.prog 48 #[.slice la L.length lc, .slice va V.length vc, .int .i64 own] w fun e w' => (∃ r, FreqOf own (labsOf L V) r ∧ e = .returned (.int .i64 r)) ∧ Below w.heap.size w w' := by
  obtain ⟨i, z, hi, hz, h2, h3, h4⟩ := etI.info
  obtain ⟨w1, hmk, hown, hg1⟩ := run_make_own (P := Try.prog) w w.heap.size 23 3 i z 1 etI.ht hi hz h2 .i64 .i64 V.length (by rw [h3]; omega) (by unfold maxLen; omega) (Nat.le_refl _)
  have bel1 : Below w.heap.size w w1 := (Below.refl _ w).grown hg1 (Nat.le_refl _) (fun j e => by cases e)
  have HL := Lib.hid hL
  have HV := Lib.hid hV
  have HR := Lib.hid hr
  clear hL hV hr hi hz h2 h3 h4 hg1
  go_enter Try.func48, Try.ntmps48
  go_wp2_with fail
  go_loopw [7, 20] (fun f i wr => ∃ k : Nat, k ≤ V.length ∧ i = .int .i64 k ∧ wr.ownsRow w.heap.size 3 1 f (labsOf L (V.take k)).length ((labsOf L (V.take k)).map (Value.int .i64)) ∧ Below w.heap.size w wr ∧ (k = 0 → f = .slice (some ⟨w.heap.size, 0, none⟩) 0 V.length)) (fun _ i _ => V.length - (intOf i).toNat)
  case atStart => exact ⟨0, Nat.zero_le _, rfl, hown, bel1, fun _ => rfl⟩
  case round =>
    clear hown bel1 hmk
    obtain ⟨k, hk, rfl, hown, bel, hnil⟩ := hrel
    by_cases hlt : k < V.length
    · obtain ⟨x, hx, hxL⟩ := HR.out k hlt
      have hVr := HV.out.below (bel.mono hB)
      have hLr := HL.out.below (bel.mono hB)
      have i0 := hVr.ix k hlt
      have c0 := Sl.at hVr hlt
      rw [hx] at c0
      have i1 := hLr.ix x hxL
      have c1 := Sl.at hLr hxL
      have HT := Lib.hid (show labsOf L (V.take (k + 1)) = labsOf L (V.take k) ++ [nth L x] by rw [labsOf_take hlt, hx, Int.toNat_natCast])
      have hlen : (labsOf L (V.take k)).length ≤ 1000000 := by rw [labsOf, List.length_map, List.length_take]; omega
      clear hVr hLr hnil hx
      generalize labsOf L (V.take k) = M at *
      go_wp2_with (at_builtin; refine push etI rfl _ _ rfl w.heap.size _ _ _ hown rfl #[.int .i64 (nth L x)] _ rfl rfl rfl (by simp [Value.oneCell']) (by omega) (by omega) bel.size ?_; intro g cp w5 hown5 hg5 hv5)
      have hb5 : Below w.heap.size wr w5 := (Below.refl _ wr).grown hg5 bel.size (fun j e => (hown.lt j e).1)
      go_roundw
      case rel => exact ⟨k + 1, by omega, by go_num, by rw [HT.out, List.length_append, List.map_append]; exact hown5, bel.trans hb5, fun h => absurd h (by omega)⟩
      case measure => simp only [intOf]; omega
    · have hke : k = V.length := by omega
      rw [hke, List.take_length] at hown
      have hMl : (labsOf L V).length = V.length := by rw [labsOf, List.length_map]
      have hd : decide ((k : Int) < (V.length : Int)) = false := decide_eq_false (by omega)
      obtain ⟨g, cp, hf, hgb, hrow⟩ : ∃ g cp, u7 = .slice (some ⟨g, 0, none⟩) (labsOf L V).length cp ∧ w.heap.size ≤ g ∧ RowN wr g (labsOf L V).length (labsOf L V) := by
        rcases RT0.own hown with ⟨h1, h2⟩ | ⟨g, cp, h1, h2, h3⟩
        · have : k = 0 := by rw [hke, ← hMl, h2]; rfl
          rw [hnil this] at h1; cases h1
        · exact ⟨g, cp, h1, h2, h3⟩
      subst hf
      have HS := Lib.hid (sort_row g cp w.heap.size (labsOf L V) wr hrow (by omega) hgb)
      have hMs : (labsOf L V).length ≤ 1000000 := by omega
      have hperm := List.mergeSort_perm (labsOf L V) (fun a b => decide (a ≤ b))
      have hSs : ((labsOf L V).mergeSort fun x y => decide (x ≤ y)).Pairwise (· ≤ ·) := by
        have := List.pairwise_mergeSort (le := fun a b : Int => decide (a ≤ b)) (by simp; omega) (by simp; omega) (labsOf L V)
        simpa using this
      have HP := Lib.hid hperm; have HSs := Lib.hid hSs
      have HSl := Lib.hid (show ((labsOf L V).mergeSort fun x y => decide (x ≤ y)).length = (labsOf L V).length from List.length_mergeSort _)
      clear hown hnil hrow hperm hSs hMl
      generalize (labsOf L V).mergeSort (fun x y => decide (x ≤ y)) = S at *
      generalize hM : labsOf L V = M at *
      have HM := Lib.hid hM
      clear hM
      go_wp2_with fail
      refine HS.out.mono ?_
      rintro e w2 ⟨rfl, ⟨SA, hSA⟩, hb2⟩
      have bel2 := bel.trans hb2
      have HSA := Lib.hid hSA
      have hSl : S.length ≤ 1000000 := by rw [HSl.out]; exact hMs
      have HP2 := Lib.hid (show ∀ r, FreqOf own S r → FreqOf own M r from fun r h => h.perm (fun x => HP.out.count_eq x) (fun x => HP.out.mem_iff))
      clear HS hSA hb2 HP
      go_wp2_with fail
      go_loopw [10, 11, 12] (fun bs ms i wv => ∃ b r m, b ≤ S.length ∧ m ≤ S.length ∧ i = .int .i64 (b : Nat) ∧ bs = .int .i64 r ∧ ms = .int .i64 (m : Nat) ∧ Hid (ScanAt own S b r m) ∧ Below w2.heap.size w2 wv) (fun _ _ i _ => S.length - (intOf i).toNat)
      case atStart => exact ⟨0, own, 0, Nat.zero_le _, Nat.zero_le _, rfl, rfl, rfl, Lib.hid (ScanAt.start own S), Below.refl _ _⟩
      case round =>
        obtain ⟨b, r, m, hb, hm, rfl, rfl, rfl, hsc, belv⟩ := hrel
        by_cases hlb : b < S.length
        · have hbM : b < M.length := by rw [← HSl.out]; exact hlb
          go_wp2_with fail
          go_loopw [13] (fun e wv => ∃ c : Nat, 0 < c ∧ b + c ≤ S.length ∧ e = .int .i64 ((b + c : Nat) : Int) ∧ Hid (∀ i, b ≤ i → i < b + c → nth S i = nth S b) ∧ Below w2.heap.size w2 wv) (fun e _ => S.length - (intOf e).toNat)
          case atStart => exact ⟨1, by omega, by omega, by go_num, Lib.hid (fun i h1 h2 => by rw [show i = b by omega]), belv⟩
          case round =>
            clear belv
            obtain ⟨c, hc, hcl, rfl, hrun, belv⟩ := hrel
            have hSv := HSA.out.below belv
            have ib := hSv.ix b hlb
            have cb := Sl.at hSv hlb
            have hcM : b + c ≤ M.length := by rw [← HSl.out]; exact hcl
            have hwc : IntKind.i64.wrap (((b + c : Nat) : Int) - (b : Nat)) = (c : Nat) := by rw [IntWalk.i64_in _ (by omega)]; omega
            have HNx0 := Lib.hid (fun stop => hsc.next HSs.out hc hcl hrun.out stop)
            generalize hqe : b + c = q at *
            have Hqe := Lib.hid hqe
            have hcS : c ≤ S.length := by omega
            clear hqe
            by_cases hq : q < S.length
            · have hqM : decide ((q : Int) < (M.length : Int)) = true := decide_eq_true (by have := HSl.out; omega)
              have hqN : decide (q < M.length) = true := decide_eq_true (by have := HSl.out; omega)
              have iq := hSv.ix q hq
              have cq := Sl.at hSv hq
              clear hSv
              by_cases heq : nth S q = nth S b
              · have hz : (nth S q == nth S b) = true := by simpa using heq
                go_wp2_with fail
                go_quiet (fail)
                go_wp2_with fail
                go_roundw
                case rel => exact ⟨c + 1, by omega, by have := Hqe.out; omega, by rw [show b + (c + 1) = q + 1 by have := Hqe.out; omega]; go_num, Lib.hid (fun i h1 h2 => by
                  have := Hqe.out
                  by_cases e : i = q
                  · rw [e]; exact heq
                  · exact hrun.out i h1 (by omega)), below_drewN belv _⟩
                case measure => simp only [intOf]; omega
              · have hz : (nth S q == nth S b) = false := by simpa using heq
                have stop : q = S.length ∨ nth S q ≠ nth S b := .inr heq
                have HNx := Lib.hid (HNx0.out stop)
                clear HNx0
                have cbq : ∀ q, (wr.drewN q).cell? (SA b) = some (.int .i64 (nth S b)) := fun q => cb
                rcases Nat.lt_trichotomy m c with hmc | hmc | hmc
                · have k1 : decide ((c : Int) > (m : Int)) = true := decide_eq_true (by omega)
                  have HN := Lib.hid (show ScanAt own S q (nth S b) c by have := HNx.out; rwa [if_pos (.inl hmc), if_pos (.inl hmc)] at this)
                  clear HNx
                  go_wp2_with fail
                  go_quiet (fail)
                  go_wp2_with fail
                  go_roundw
                  case rel => exact ⟨q, (nth S b), c, hcl, by omega, rfl, rfl, rfl, HN.out, below_drewN belv _⟩
                  case measure => simp only [intOf]; have := Hqe.out; omega
                · by_cases ho : nth S b = own
                  · have k1 : decide ((c : Int) > (m : Int)) = false := decide_eq_false (by omega)
                    have k2 : ((c : Int) == (m : Int)) = true := by simp; omega
                    have k3 : (nth S b == own) = true := by simpa using ho
                    have HN := Lib.hid (show ScanAt own S q (nth S b) c by have := HNx.out; rwa [if_pos (.inr ⟨hmc.symm, ho⟩), if_pos (.inr ⟨hmc.symm, ho⟩)] at this)
                    clear HNx
                    go_wp2_with fail
                    go_quiet (fail)
                    go_wp2_with fail
                    go_roundw
                    case rel => exact ⟨q, (nth S b), c, hcl, by omega, rfl, by rw [ho], rfl, HN.out, below_drewN belv _⟩
                    case measure => simp only [intOf]; have := Hqe.out; omega
                  · have k1 : decide ((c : Int) > (m : Int)) = false := decide_eq_false (by omega)
                    have k2 : ((c : Int) == (m : Int)) = true := by simp; omega
                    have k3 : (nth S b == own) = false := by simpa using ho
                    have HN := Lib.hid (show ScanAt own S q r m by have := HNx.out; rwa [if_neg (fun h => h.elim (by omega) (fun h => ho h.2)), if_neg (fun h => h.elim (by omega) (fun h => ho h.2))] at this)
                    clear HNx
                    go_wp2_with fail
                    go_quiet (fail)
                    go_wp2_with fail
                    go_roundw
                    case rel => exact ⟨q, r, m, hcl, by omega, rfl, rfl, rfl, HN.out, below_drewN belv _⟩
                    case measure => simp only [intOf]; have := Hqe.out; omega
                · have k1 : decide ((c : Int) > (m : Int)) = false := decide_eq_false (by omega)
                  have k2 : ((c : Int) == (m : Int)) = false := by simp; omega
                  have HN := Lib.hid (show ScanAt own S q r m by have := HNx.out; rwa [if_neg (by omega), if_neg (by omega)] at this)
                  clear HNx
                  go_wp2_with fail
                  go_quiet (fail)
                  go_wp2_with fail
                  go_roundw
                  case rel => exact ⟨q, r, m, hcl, by omega, rfl, rfl, rfl, HN.out, below_drewN belv _⟩
                  case measure => simp only [intOf]; have := Hqe.out; omega
            · have stop : q = S.length ∨ nth S q ≠ nth S b := .inl (by omega)
              have hd2 : decide ((q : Int) < (M.length : Int)) = false := decide_eq_false (by have := HSl.out; omega)
              have hd3 : decide (q < M.length) = false := decide_eq_false (by have := HSl.out; omega)
              clear hSv
              have HNx := Lib.hid (HNx0.out stop)
              clear HNx0
              have cbq : ∀ q, (wr.drewN q).cell? (SA b) = some (.int .i64 (nth S b)) := fun q => cb
              rcases Nat.lt_trichotomy m c with hmc | hmc | hmc
              · have k1 : decide ((c : Int) > (m : Int)) = true := decide_eq_true (by omega)
                have HN := Lib.hid (show ScanAt own S q (nth S b) c by have := HNx.out; rwa [if_pos (.inl hmc), if_pos (.inl hmc)] at this)
                clear HNx
                go_wp2_with fail
                go_quiet (fail)
                go_wp2_with fail
                go_roundw
                case rel => exact ⟨q, (nth S b), c, hcl, by omega, rfl, rfl, rfl, HN.out, below_drewN belv _⟩
                case measure => simp only [intOf]; have := Hqe.out; omega
              · by_cases ho : nth S b = own
                · have k1 : decide ((c : Int) > (m : Int)) = false := decide_eq_false (by omega)
                  have k2 : ((c : Int) == (m : Int)) = true := by simp; omega
                  have k3 : (nth S b == own) = true := by simpa using ho
                  have HN := Lib.hid (show ScanAt own S q (nth S b) c by have := HNx.out; rwa [if_pos (.inr ⟨hmc.symm, ho⟩), if_pos (.inr ⟨hmc.symm, ho⟩)] at this)
                  clear HNx
                  go_wp2_with fail
                  go_quiet (fail)
                  go_wp2_with fail
                  go_roundw
                  case rel => exact ⟨q, (nth S b), c, hcl, by omega, rfl, by rw [ho], rfl, HN.out, below_drewN belv _⟩
                  case measure => simp only [intOf]; have := Hqe.out; omega
                · have k1 : decide ((c : Int) > (m : Int)) = false := decide_eq_false (by omega)
                  have k2 : ((c : Int) == (m : Int)) = true := by simp; omega
                  have k3 : (nth S b == own) = false := by simpa using ho
                  have HN := Lib.hid (show ScanAt own S q r m by have := HNx.out; rwa [if_neg (fun h => h.elim (by omega) (fun h => ho h.2)), if_neg (fun h => h.elim (by omega) (fun h => ho h.2))] at this)
                  clear HNx
                  go_wp2_with fail
                  go_quiet (fail)
                  go_wp2_with fail
                  go_roundw
                  case rel => exact ⟨q, r, m, hcl, by omega, rfl, rfl, rfl, HN.out, below_drewN belv _⟩
                  case measure => simp only [intOf]; have := Hqe.out; omega
              · have k1 : decide ((c : Int) > (m : Int)) = false := decide_eq_false (by omega)
                have k2 : ((c : Int) == (m : Int)) = false := by simp; omega
                have HN := Lib.hid (show ScanAt own S q r m by have := HNx.out; rwa [if_neg (by omega), if_neg (by omega)] at this)
                clear HNx
                go_wp2_with fail
                go_quiet (fail)
                go_wp2_with fail
                go_roundw
                case rel => exact ⟨q, r, m, hcl, by omega, rfl, rfl, rfl, HN.out, below_drewN belv _⟩
                case measure => simp only [intOf]; have := Hqe.out; omega
        · have hbe : b = S.length := by omega
          have HF := Lib.hid (HP2.out r (hsc.last hbe))
          have hd2 : decide ((b : Int) < (M.length : Int)) = false := decide_eq_false (by have := HSl.out; omega)
          have hd3 : decide (b < M.length) = false := decide_eq_false (by have := HSl.out; omega)
          have hd4 : ¬ b < M.length := by have := HSl.out; omega
          go_wp2_with fail
          go_ret
          exact ⟨⟨r, by rw [HM.out]; exact HF.out, rfl⟩, bel2.trans (belv.mono bel2.size)⟩
end Go.Proofs.Ytemcilmefknbbaa
