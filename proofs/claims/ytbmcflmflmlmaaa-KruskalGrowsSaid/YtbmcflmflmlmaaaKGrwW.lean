/- The walk of the law KruskalGrows: the forest and its weight are those of the document. No conditions. -/
import Derived.Test.YtbmcflmflmlmaaaKSwpW
import Derived.Test.YtbmcflmflmlmaaaRWgt
namespace Go.Proofs.Ytbmcflmflmlmaaa
open Go.RowKit

/-- the forest, or nothing -/
def IsF (n : Int) (E : List Ed) (F : List Nat) : Prop := (gErr n E ≠ 0 ∧ F = []) ∨ (gErr n E = 0 ∧ ∃ o, OrdOf E o ∧ F = frs E o)
theorem IsF.uniq {n : Int} {E : List Ed} {F F' : List Nat} (h : IsF n E F) (h' : IsF n E F') : F = F' := by
  rcases h with ⟨h1, rfl⟩ | ⟨h1, o, ho, rfl⟩ <;> rcases h' with ⟨k1, rfl⟩ | ⟨k1, o', ho', rfl⟩
  · rfl
  · exact absurd k1 h1
  · exact absurd h1 k1
  · rw [ho.uniq ho']
theorem for_rd {n : Int} {E : List Ed} {w w' : World} {e : Ending} (h : ForRes n E w e w') : ∃ fa fc FA F, e = .returned (.tuple #[.slice fa F.length fc, .int .i64 (gErr n E)]) ∧ Rd 24 1 w' w'.heap.size (.slice fa F.length fc) F.length (nums .i64 (intsN F)) FA ∧ F.length ≤ 16384 ∧ IsF n E F ∧ Below w.heap.size w w' := by
  obtain ⟨hb, ⟨h0, rfl⟩ | ⟨h0, o, v, ho, rfl, hv⟩⟩ := h
  · exact ⟨none, 0, fun _ => ⟨0, 0, none⟩, [], rfl, Rd.nil _, Nat.zero_le _, .inl ⟨h0, rfl⟩, hb⟩
  · obtain ⟨fa, fc, FA, rfl, hF⟩ := ownI_rd hv
    refine ⟨fa, fc, FA, frs E o, by rw [h0], hF, ?_, .inr ⟨h0, o, ho, rfl⟩, hb⟩
    obtain ⟨k, _, G⟩ := gErr_zero h0
    have h1 := frs_len E o; have h2 := ho.len; have h3 := G.m_le
    omega
theorem wgt_both {n : Int} {E : List Ed} {w w' : World} {e : Ending} (h : WgtRes n E w e w') : ∃ x y, e = .returned (.tuple #[.int .i64 x, .int .i64 y]) ∧ ∀ (w2 : World) (e2 : Ending) (w2' : World), WgtRes n E w2 e2 w2' → e2 = .returned (.tuple #[.int .i64 x, .int .i64 y]) := by
  rcases h with ⟨_, ⟨h0, rfl⟩ | ⟨h0, o, ho, rfl⟩⟩
  · refine ⟨_, _, rfl, ?_⟩
    rintro w2 e2 w2' ⟨_, ⟨_, rfl⟩ | ⟨k0, _⟩⟩
    · rfl
    · exact absurd k0 h0
  · refine ⟨_, _, rfl, ?_⟩
    rintro w2 e2 w2' ⟨_, ⟨k0, _⟩ | ⟨_, o', ho', rfl⟩⟩
    · exact absurd h0 k0
    · rw [ho.uniq ho']
set_option maxRecDepth 100000 in
set_option maxHeartbeats 2000000 in
theorem grows_walk (n : Int) (a : Option Addr) (cap : Nat) (E : List Ed) (A : Nat → Addr) (w : World) (hS : ES w w.heap.size (.slice a E.length cap) E A) (hl : E.length ≤ 9223372036854775807) (hr : ∀ i, i < E.length → inR (eAt E i).w) :
    Calls Try.prog 4 #[.int .i64 n, .slice a E.length cap] w fun e w' => e = .returned (.bool true) ∧ Below w.heap.size w w' := by
  have HS := Lib.hid hS; have HR := Lib.hid hr
  clear hS hr
  go_enter Try.func4, Try.ntmps4
  go_wp2_with fail
  refine (small_any n a cap E.length w hl).mono ?_
  rintro e wx ⟨rfl, rfl⟩
  by_cases hsm : (n ≤ 60 ∨ 4096 < n) ∧ E.length ≤ 150
  · rw [decide_eq_true hsm]
    have hl2 : E.length ≤ 150 := hsm.2
    clear hsm hl
    go_wp2_with (at_builtin; refine copiedAny etE rfl _ _ rfl HS.out (Nat.le_refl _) (fun i _ j _ => edC_one E i j) _ rfl (by simp) rfl (by omega) (by omega) ?_; intro g cp w2 hg2 R2 D2; refine Hid.out ?_)
    obtain ⟨a2, c2, A2, e2, hE2⟩ := Rd.own etE R2
    cases e2
    have HE2 := Lib.hid hE2; have HS2 := Lib.hid ((HS.out.below D2).mono D2.size); have B2 := Lib.hid D2
    refine Lib.hid ?_
    clear hE2 D2 R2
    go_wp2_with fail
    refine (forest_any w2.heap.size _ cp A2 n E w2 HE2.out (Nat.le_refl _) (by omega)).mono ?_
    intro e w3 hres
    obtain ⟨fa, fc, FA, F, rfl, hF, hFl, hIs, b3⟩ := for_rd hres
    obtain ⟨ge, hge⟩ : ∃ x, gErr n E = x := ⟨_, rfl⟩
    rw [hge]
    have HIs := Lib.hid hIs; have HGe := Lib.hid hge
    have HF3 := Lib.hid hF
    have HE3 := Lib.hid ((HE2.out.below b3).mono b3.size)
    have HS3 := Lib.hid ((HS2.out.below b3).mono b3.size)
    have B3 := Lib.hid (B2.out.trans (b3.mono B2.out.size))
    clear hres hF hIs b3 hge
    go_wp2_with fail
    refine (rforest_any w3.heap.size a cap A n E w3 HS3.out (Nat.le_refl _) (by omega)).mono ?_
    intro e w4 hres
    obtain ⟨ga, gc, GA, F', rfl, hG, _, hIs', b4⟩ := for_rd hres
    obtain rfl := HIs.out.uniq hIs'
    rw [HGe.out]
    have HF4 := Lib.hid ((HF3.out.below b4).mono b4.size); have HG4 := Lib.hid hG
    have HE4 := Lib.hid ((HE3.out.below b4).mono b4.size)
    have HS4 := Lib.hid ((HS3.out.below b4).mono b4.size)
    have B4 := Lib.hid (B3.out.trans (b4.mono B3.out.size))
    clear hres hG hIs' b4
    go_wp2_with fail
    refine (weight_any w4.heap.size _ cp A2 n E w4 HE4.out (Nat.le_refl _) (by omega) HR.out).mono ?_
    intro e w5 hres
    obtain ⟨x, y, rfl, hboth⟩ := wgt_both hres
    have b5 := hres.1
    have HBo := Lib.hid hboth
    have HF5 := Lib.hid ((HF4.out.below b5).mono b5.size); have HG5 := Lib.hid ((HG4.out.below b5).mono b5.size)
    have HE5 := Lib.hid ((HE4.out.below b5).mono b5.size)
    have HS5 := Lib.hid ((HS4.out.below b5).mono b5.size)
    have B5 := Lib.hid (B4.out.trans (b5.mono B4.out.size))
    clear hres hboth b5
    go_wp2_with fail
    refine (rweight_any w5.heap.size a cap A n E w5 HS5.out (Nat.le_refl _) (by omega) HR.out).mono ?_
    intro e w6 hres
    obtain rfl := HBo.out _ _ _ hres
    have b6 := hres.1
    have HF6 := Lib.hid ((HF5.out.below b6).mono b6.size); have HG6 := Lib.hid ((HG5.out.below b6).mono b6.size)
    have HE6 := Lib.hid ((HE5.out.below b6).mono b6.size)
    have HS6 := Lib.hid ((HS5.out.below b6).mono b6.size)
    have B6 := Lib.hid (B5.out.trans (b6.mono B5.out.size))
    have HN := Lib.hid (numbers_n w6.heap.size F.length F.length fa ga fc gc FA GA (intsN F) (intsN F) w6 (intsN_len F) (intsN_len F) HF6.out HG6.out (by omega))
    rw [decide_eq_true rfl] at HN
    have k0 : (ge == ge) = true := by simp
    have k1 : (x == x) = true := by simp
    have k2 : (y == y) = true := by simp
    clear hres b6
    go_wp2_with fail
    refine HN.out.mono ?_
    rintro e w7 ⟨rfl, q7, rfl⟩
    have HE7 := Lib.hid ((HE6.out.below (below_drewN (Below.refl _ _) q7)).mono (Nat.le_refl _))
    have HS7 := Lib.hid ((HS6.out.below (below_drewN (Below.refl _ _) q7)).mono (Nat.le_refl _))
    go_wp2_with fail
    refine (edges_same w6.heap.size _ a _ cap A2 A E _ HE7.out HS7.out (by omega)).mono ?_
    rintro e w8 ⟨rfl, q8, rfl⟩
    go_wp2_with fail
    refine (works_any _).mono ?_
    rintro e w9 ⟨rfl, b9⟩
    have B9 := Lib.hid ((below_drewN B6.out _).trans (b9.mono B6.out.size))
    clear b9
    go_wp2_with fail
    go_ret
    exact ⟨rfl, B9.out⟩
  · rw [decide_eq_false hsm]
    have HSM := Lib.hid hsm
    clear hsm
    go_wp2_with fail
    refine (works_any _).mono ?_
    rintro e w7 ⟨rfl, b7⟩
    go_wp2_with fail
    go_ret
    exact ⟨rfl, b7⟩
end Go.Proofs.Ytbmcflmflmlmaaa
