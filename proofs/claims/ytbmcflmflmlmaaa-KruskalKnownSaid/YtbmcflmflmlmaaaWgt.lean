/- The walk of kruskal.Weight. Conditions: the weights are in range. -/
import Derived.Test.YtbmcflmflmlmaaaWts
namespace Go.Proofs.Ytbmcflmflmlmaaa
open Go.RowKit

theorem frs_mem {E : List Ed} {o : List Nat} (h : OrdOf E o) {i : Nat} (hi : i ∈ frs E o) : i < E.length := h.mem.1 ((frs_sub E o).mem hi)
theorem wsOf_mem {E : List Ed} {p : List Nat} (hr : ∀ i, i < E.length → inR (eAt E i).w) (hp : ∀ i, i ∈ p → i < E.length) : ∀ x, x ∈ wsOf E p → inR x := fun x hx => by
  obtain ⟨i, hi, rfl⟩ := List.mem_map.1 hx
  exact hr i (hp i hi)
theorem sum_perm {l l' : List Int} (h : l.Perm l') : l.sum = l'.sum := by
  induction h with
  | nil => rfl
  | cons _ _ ih => simp [ih]
  | swap a b l => simp only [List.sum_cons]; omega
  | trans _ _ h1 h2 => exact h1.trans h2
/-- the weight of some edges -/
def wSum (E : List Ed) (p : List Nat) : Int := (wsOf E p).sum
theorem srt_sum (E : List Ed) (p : List Nat) : (srt (wsOf E p)).sum = wSum E p := sum_perm (srt_perm _)
/-- what Weight answers -/
def WgtRes (n : Int) (E : List Ed) (w : World) (e : Ending) (w' : World) : Prop :=
  Below w.heap.size w w' ∧ ((gErr n E ≠ 0 ∧ e = .returned (.tuple #[.int .i64 0, .int .i64 (gErr n E)])) ∨
    (gErr n E = 0 ∧ ∃ o, OrdOf E o ∧ e = .returned (.tuple #[.int .i64 (sumW (wSum E (frs E o))), .int .i64 (sumO (wSum E (frs E o)))])))
set_option maxRecDepth 100000 in
set_option maxHeartbeats 1000000 in
theorem weight_any (B : Nat) (a : Option Addr) (cap : Nat) (A : Nat → Addr) (n : Int) (E : List Ed) (w : World) (hS : ES w B (.slice a E.length cap) E A) (hB : B ≤ w.heap.size) (hm : E.length ≤ 9223372036854775807) (hr : ∀ i, i < E.length → inR (eAt E i).w) :
    Calls Try.prog 20 #[.int .i64 n, .slice a E.length cap] w (WgtRes n E w) := by
  have HF := Lib.hid (forest_any B a cap A n E w hS hB hm)
  have HS := Lib.hid hS; have HR := Lib.hid hr
  clear hS hr
  go_enter Try.func20, Try.ntmps20
  go_wp2_with fail
  refine HF.out.mono ?_
  clear HF
  rintro e w1 ⟨hb1, ⟨h0, rfl⟩ | ⟨h0, o, v, ho, rfl, hv⟩⟩
  · obtain ⟨ee, hee⟩ : ∃ ee, gErr n E = ee := ⟨_, rfl⟩
    have H0 := Lib.hid h0; have HE := Lib.hid hee
    rw [hee] at h0 ⊢
    have hz : (ee != 0) = true := by simpa using h0
    clear h0 hee
    go_wp2_with fail
    go_ret2
    exact ⟨hb1, .inl ⟨H0.out, by rw [HE.out]; rfl⟩⟩
  · obtain ⟨fa, fc, FA, rfl, hF⟩ := ownI_rd hv
    have hml : E.length ≤ 16384 := by obtain ⟨k, _, G⟩ := gErr_zero h0; exact G.m_le
    have hfl : (frs E o).length ≤ 1000000 := by have := frs_len E o; rw [ho.len] at this; omega
    have HW := Lib.hid (weights_any E a fa cap fc A FA (frs E o) w1 ((HS.out.below (hb1.mono hB)).mono (Nat.le_trans hB hb1.size)) hF (fun i hi => frs_mem ho hi) hfl)
    have HRW := Lib.hid (wsOf_mem HR.out (fun i hi => frs_mem ho hi))
    have HO := Lib.hid ho; have H0 := Lib.hid h0
    clear hv hF ho h0
    go_wp2_with fail
    refine HW.out.mono ?_
    rintro e w2 ⟨b, SA, rfl, hS2, hb2⟩
    have hsl : (srt (wsOf E (frs E o))).length = (frs E o).length := by rw [srt_len, wsOf_len]
    have hS2' : Sl 76 .i64 w2 w2.heap.size (.slice (some ⟨b, 0, none⟩) (srt (wsOf E (frs E o))).length (frs E o).length) (srt (wsOf E (frs E o))) SA := by
      unfold Sl; rw [hsl]; exact hS2
    have HC := Lib.hid (csum_any w2.heap.size (some ⟨b, 0, none⟩) (frs E o).length SA (srt (wsOf E (frs E o))) w2 hS2' (Nat.le_refl _) (by rw [hsl]; exact hfl) (fun x hx => HRW.out x ((srt_perm _).mem_iff.1 hx)))
    rw [hsl, srt_sum] at HC
    clear HW hS2 hS2' hsl
    go_wp2_with fail
    refine HC.out.mono ?_
    rintro e w3 ⟨rfl, hb3⟩
    go_wp2_with fail
    go_ret2
    exact ⟨(hb1.trans (hb2.mono hb1.size)).trans (hb3.mono (Nat.le_trans hb1.size hb2.size)), .inr ⟨H0.out, o, HO.out, rfl⟩⟩
end Go.Proofs.Ytbmcflmflmlmaaa
