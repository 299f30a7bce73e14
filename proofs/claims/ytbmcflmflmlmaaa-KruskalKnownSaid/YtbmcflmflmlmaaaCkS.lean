/- The walk of checked.Sum: 128-bit sums of int64. Conditions: the numbers are in range, and few. -/
import Derived.Test.YtbmcflmflmlmaaaRow
import Derived.Laws.Externs
import Derived.WalkSpells
namespace Go.Proofs.Ytbmcflmflmlmaaa
open Go.RowKit

theorem add64c (x y c : Int) (hx : 0 ≤ x) (hy : 0 ≤ y) (hc0 : 0 ≤ c) (hc : c ≤ 1) (w : World) : (callFunc 71 #[.int .u64 x, .int .u64 y, .int .u64 c]).run Try.prog w =
    .ok (.value (.tuple #[.int .u64 ((x + y + c) % 18446744073709551616), .int .u64 ((x + y + c) / 18446744073709551616)])) w := by
  rw [run_callFunc_extern Try.func71 (by kernel_rfl) (by kernel_rfl) (by kernel_rfl) (e := add64Entry) (by kernel_rfl), run_add64 x y c hx hy hc0 hc]
  rfl
theorem add64z (x y : Int) (hx : 0 ≤ x) (hy : 0 ≤ y) (w : World) : (callFunc 71 #[.int .u64 x, .int .u64 y, .int .u64 0]).run Try.prog w =
    .ok (.value (.tuple #[.int .u64 ((x + y) % 18446744073709551616), .int .u64 ((x + y) / 18446744073709551616)])) w := by
  simpa using add64c x y 0 hx hy (Int.le_refl 0) (by decide) w
/-- is a number one of int64? -/
def inR (x : Int) : Prop := -9223372036854775808 ≤ x ∧ x < 9223372036854775808
instance (x : Int) : Decidable (inR x) := by unfold inR; infer_instance
/-- one step of the sum of two words -/
theorem sum_step (hi lo S c x : Int) (hx : inR x) (h : hi * 18446744073709551616 + lo = S + c * 340282366920938463463374607431768211456) :
    ∃ c', ((hi + (x / 9223372036854775808) % 18446744073709551616 + (lo + x % 18446744073709551616) / 18446744073709551616) % 18446744073709551616) * 18446744073709551616 + (lo + x % 18446744073709551616) % 18446744073709551616 = S + x + c' * 340282366920938463463374607431768211456 := by
  unfold inR at hx
  by_cases h0 : x < 0
  · have e1 : x / 9223372036854775808 = -1 := by omega
    have e2 : x % 18446744073709551616 = x + 18446744073709551616 := by omega
    rw [e1, e2]
    exact ⟨c + 1 - (hi + -1 % 18446744073709551616 + (lo + (x + 18446744073709551616)) / 18446744073709551616) / 18446744073709551616, by omega⟩
  · have e1 : x / 9223372036854775808 = 0 := by omega
    have e2 : x % 18446744073709551616 = x := by omega
    rw [e1, e2]
    exact ⟨c - (hi + 0 % 18446744073709551616 + (lo + x) / 18446744073709551616) / 18446744073709551616, by omega⟩
theorem Try.infoI64 : (Try.prog.info? 2).map (fun i => (i.zero, i.size, i.bytes)) = some (some (.int .i64 0), 1, 8) := by kernel_rfl
theorem etI64 : ET 76 2 1 8 := ET.of Try.underlying76 Try.infoI64 rfl (by decide)
/-- the two words of a sum -/
def Acc (hi lo S : Int) : Prop := (0 ≤ lo ∧ lo < 18446744073709551616) ∧ (0 ≤ hi ∧ hi < 18446744073709551616) ∧ ∃ c, hi * 18446744073709551616 + lo = S + c * 340282366920938463463374607431768211456
theorem Acc.step {hi lo S x : Int} (h : Acc hi lo S) (hx : inR x) : Acc ((hi + (x / 9223372036854775808) % 18446744073709551616 + (lo + x % 18446744073709551616) / 18446744073709551616) % 18446744073709551616) ((lo + x % 18446744073709551616) % 18446744073709551616) (S + x) := by
  obtain ⟨h1, h2, c, h3⟩ := h
  exact ⟨by omega, by omega, sum_step hi lo S c x hx h3⟩
/-- what Sum answers -/
def sumW (S : Int) : Int := if inR S then S else 0
def sumO (S : Int) : Int := if inR S then 0 else 7
theorem sum_range {L : List Int} (h : ∀ x, x ∈ L → inR x) (hl : L.length ≤ 1000000) : -9223372036854775808000000 ≤ L.sum ∧ L.sum ≤ 9223372036854775808000000 := by
  have : -9223372036854775808 * (L.length : Int) ≤ L.sum ∧ L.sum ≤ 9223372036854775808 * (L.length : Int) := by
    clear hl
    induction L with
    | nil => simp
    | cons a t ih =>
      have h1 := ih fun x hx => h x (List.mem_cons_of_mem _ hx)
      have h2 := h a (List.mem_cons_self ..)
      unfold inR at h2
      rw [List.sum_cons, List.length_cons]
      omega
  omega
theorem sum_end {hi lo S c : Int} (l1 : 0 ≤ lo) (l2 : lo < 18446744073709551616) (h1 : 0 ≤ hi) (h2 : hi < 18446744073709551616) (hc : hi * 18446744073709551616 + lo = S + c * 340282366920938463463374607431768211456) (hS : -9223372036854775808000000 ≤ S ∧ S ≤ 9223372036854775808000000) :
    (hi = IntKind.u64.wrap (IntKind.i64.wrap lo / 9223372036854775808) → sumW S = IntKind.i64.wrap lo ∧ sumO S = 0) ∧ (hi ≠ IntKind.u64.wrap (IntKind.i64.wrap lo / 9223372036854775808) → sumW S = 0 ∧ sumO S = 7) := by
  have hz : IntKind.i64.wrap lo = if lo < 9223372036854775808 then lo else lo - 18446744073709551616 := by
    rw [IntKind.wrap_i64]
    split <;> omega
  have hs : IntKind.u64.wrap (IntKind.i64.wrap lo / 9223372036854775808) = if lo < 9223372036854775808 then 0 else 18446744073709551615 := by
    rw [hz]
    show (_ / _) % 18446744073709551616 = _
    split <;> omega
  rw [hs, hz]
  unfold sumW sumO
  split
  · refine ⟨fun h => ?_, fun h => ?_⟩
    · have : inR S := by unfold inR; omega
      rw [if_pos this, if_pos this]; unfold inR at this; omega
    · have : ¬ inR S := by unfold inR; omega
      rw [if_neg this, if_neg this]; omega
  · refine ⟨fun h => ?_, fun h => ?_⟩
    · have : inR S := by unfold inR; omega
      rw [if_pos this, if_pos this]; unfold inR at this; omega
    · have : ¬ inR S := by unfold inR; omega
      rw [if_neg this, if_neg this]; omega
set_option maxRecDepth 100000 in
set_option maxHeartbeats 1000000 in
theorem csum_any (B : Nat) (a : Option Addr) (cap : Nat) (A : Nat → Addr) (L : List Int) (w : World) (hS : Sl 76 .i64 w B (.slice a L.length cap) L A) (hB : B ≤ w.heap.size) (hl : L.length ≤ 1000000) (hr : ∀ x, x ∈ L → inR x) :
    Calls Try.prog 45 #[.slice a L.length cap] w fun e w' => e = .returned (.tuple #[.int .i64 (sumW L.sum), .int .i64 (sumO L.sum)]) ∧ Below w.heap.size w w' := by
  have HS := Lib.hid hS; have HR := Lib.hid hr
  clear hS hr
  go_enter Try.func45, Try.ntmps45
  go_wp2_with fail
  go_loopw [4, 5, 12] (fun h l i wr => ∃ (k : Nat) (hi lo : Int), k ≤ L.length ∧ i = .int .i64 (k : Nat) ∧ h = .int .u64 hi ∧ l = .int .u64 lo ∧ Hid (Acc hi lo (L.take k).sum) ∧ Below w.heap.size w wr) (fun _ _ i _ => L.length - (intOf i).toNat)
  case atStart => exact ⟨0, 0, 0, Nat.zero_le _, rfl, rfl, rfl, Lib.hid ⟨by omega, by omega, 0, by simp⟩, Below.refl _ _⟩
  case round =>
    obtain ⟨k, hi, lo, hk, rfl, rfl, rfl, HA, bel⟩ := hrel
    by_cases hlt : k < L.length
    · have hSr := HS.out.below (bel.mono hB)
      have i0 := hSr.ix k hlt
      have c0 := Sl.at hSr hlt
      obtain ⟨x, hx⟩ : ∃ x, nth L k = x := ⟨_, rfl⟩
      have hxr : inR x := by rw [← hx, nth_eq hlt]; exact HR.out _ (List.getElem_mem _)
      have HA2 := Lib.hid (show Acc _ _ (L.take (k + 1)).sum by
        have := HA.out.step hxr
        rw [show (L.take k).sum + x = (L.take (k + 1)).sum by rw [List.take_succ_eq_append_getElem hlt, List.sum_append, ← hx, nth_eq hlt]; simp] at this
        exact this)
      obtain ⟨l1, l2⟩ := HA.out.1
      obtain ⟨h1, h2⟩ := HA.out.2.1
      obtain ⟨u, hu⟩ : ∃ u, x % 18446744073709551616 = u := ⟨_, rfl⟩
      obtain ⟨s, hs⟩ : ∃ s, (x / 9223372036854775808) % 18446744073709551616 = s := ⟨_, rfl⟩
      have wu : IntKind.u64.wrap x = u := hu
      have ws : IntKind.u64.wrap (x / 9223372036854775808) = s := hs
      have x1 : 0 ≤ u ∧ u < 18446744073709551616 := by omega
      have x2 : 0 ≤ s ∧ s < 18446744073709551616 := by omega
      have k0 : 0 ≤ (lo + u) / 18446744073709551616 := by omega
      have k1 : (lo + u) / 18446744073709551616 ≤ 1 := by omega
      rw [hu, hs] at HA2
      rw [hx] at c0
      clear hSr hx HA hu hs
      go_wp2_with (first | simp only [add64z lo _ l1 x1.1] | simp only [add64c hi _ _ h1 x2.1 k0 k1])
      go_roundw
      case rel => exact ⟨k + 1, _, _, by omega, by go_num, rfl, rfl, HA2, bel⟩
      case measure => simp only [intOf]; omega
    · have hke : k = L.length := by omega
      have hA := HA.out
      rw [hke, List.take_length] at hA
      obtain ⟨⟨l1, l2⟩, ⟨h1, h2⟩, c, hc⟩ := hA
      have HF := Lib.hid (sum_end l1 l2 h1 h2 hc (sum_range HR.out hl))
      obtain ⟨z, hz⟩ : ∃ z, IntKind.i64.wrap lo = z := ⟨_, rfl⟩
      rw [hz] at HF
      obtain ⟨s, hs⟩ : ∃ s, IntKind.u64.wrap (z / 9223372036854775808) = s := ⟨_, rfl⟩
      rw [hs] at HF
      clear HA hc
      by_cases he : hi = s
      · have hb : (hi != s) = false := by simpa using he
        have HF2 := Lib.hid (HF.out.1 he)
        clear he HF
        go_wp2_with fail
        go_ret2
        exact ⟨by rw [HF2.out.1, HF2.out.2]; rfl, bel⟩
      · have hb : (hi != s) = true := by simpa using he
        have HF2 := Lib.hid (HF.out.2 he)
        clear he HF
        go_wp2_with fail
        go_ret2
        exact ⟨by rw [HF2.out.1, HF2.out.2]; rfl, bel⟩
end Go.Proofs.Ytbmcflmflmlmaaa
