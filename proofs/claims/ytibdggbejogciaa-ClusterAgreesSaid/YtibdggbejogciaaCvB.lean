/- The walk of made of package seepagelaw21: the view of links. Conditions: the links are in range. -/
import Derived.Test.YtibdggbejogciaaCm
import Derived.Test.YtibdggbejogciaaBlt
namespace Go.Proofs.Ytibdggbejogciaa
open Go.RowKit

theorem blt_err {n : Nat} {L : List Lk} (hn : 0 < n) (hn2 : n ≤ 4096) (hl : L.length ≤ 16384) : gErr n (bltE n L) = 0 := gErr_ok (bltE_ok hn hn2 hl)
/-- what made answers -/
def MdRes (L : List Lk) (w : World) (e : Ending) (w' : World) : Prop := ∃ vb : Nat, e = .returned (.pointer (some ⟨vb, 0, none⟩)) ∧ VwAt w' w'.heap.size vb 30 (bltE 30 L) ∧ Below w.heap.size w w'
set_option maxRecDepth 100000 in
set_option maxHeartbeats 1000000 in
theorem made_any (B : Nat) (a : Option Addr) (cap : Nat) (A : Nat → Addr) (L : List Lk) (w : World) (hS : LS w B (.slice a L.length cap) L A) (hB : B ≤ w.heap.size) (hr : LkR L) (hl : L.length ≤ 120) :
    Calls Try.prog 10 #[.slice a L.length cap] w (MdRes L w) := by
  have HS := Lib.hid hS; have HR := Lib.hid hr
  clear hS hr
  go_enter Try.func10, Try.ntmps10
  go_wp2_with fail
  refine (built_any B a cap 30 A L w HS.out hB HR.out (by omega) (by decide) (by decide)).mono ?_
  rintro e w1 ⟨v, rfl, ho, b1⟩
  obtain ⟨ea, ec, EA, rfl, hE⟩ := ho.rd
  have hln := bltE_len 30 L
  have HE := Lib.hid hE; have B1 := Lib.hid b1
  clear hE b1 ho
  go_wp2_with fail
  refine (cnew_any w1.heap.size _ _ EA 30 _ w1 HE.out (Nat.le_refl _) (by omega)).mono ?_
  rintro e w2 ⟨b2, ⟨h0, _⟩ | ⟨k, vb, hk, G, rfl, hv⟩⟩
  · exact absurd (blt_err (by decide) (by decide) (by omega)) h0
  obtain rfl : k = 30 := by omega
  have HV := Lib.hid hv
  have B2 := Lib.hid (B1.out.trans (b2.mono B1.out.size))
  clear b2 hv
  go_wp2_with fail
  go_ret
  exact ⟨_, rfl, HV.out, B2.out⟩
end Go.Proofs.Ytibdggbejogciaa
