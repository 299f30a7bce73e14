/- A case of the statements about modular in its box; whether it is small; the graph that it has, if it fits. No conditions. -/
import Derived.Test.YtemcilmefknbbaaModWk
import Derived.BigQuiet
namespace Go.Proofs.Ytemcilmefknbbaa
open Go.RowKit Go.Shelf

/-- the graph of a number and edges, if it is accepted -/
def gO (n : Int) (E : List Ed) : Option (Nat × List Ed) := if gErr n E = 0 then some (n.toNat, E) else none
theorem gO_some {n : Nat} {E : List Ed} (G : GOk n E) : gO n E = some (n, E) := by rw [gO, if_pos (gErr_ok G), Int.toNat_natCast]
theorem gO_none {n : Int} {E : List Ed} (h : gErr n E ≠ 0) : gO n E = none := by rw [gO, if_neg h]
/-- a case in its box -/
structure CB (w : World) (b : Nat) (n : Int) (x y : Value) : Prop where
  c0 : w.cell? ⟨b, 0, none⟩ = some (.int .i64 n)
  c1 : w.cell? ⟨b, 1, none⟩ = some x
  c2 : w.cell? ⟨b, 2, none⟩ = some y
section
variable {w w' : World} {b B : Nat} {n : Int} {x y : Value}
theorem CB.new (w : World) (n : Int) (a : Option Addr) (l c : Nat) (la : Option Addr) (ll lc : Nat) (t : TypeId) : CB (w.alloc (.cells #[.int .i64 n, .slice a l c, .slice la ll lc] t)) w.heap.size n (.slice a l c) (.slice la ll lc) :=
  ⟨by go_simp, by go_simp, by go_simp⟩
theorem CB.below (h : CB w b n x y) (hb : Below B w w') (hB : b < B) : CB w' b n x y :=
  ⟨(hb.cell hB).trans h.c0, (hb.cell hB).trans h.c1, (hb.cell hB).trans h.c2⟩
theorem CB.lt (h : CB w b n x y) : b < w.heap.size := World.block_lt_of_cell? w ⟨b, 0, none⟩ h.c0
end
/-- what a case has is below a block -/
structure CS (w : World) (B : Nat) (a : Option Addr) (c : Nat) (E : List Ed) (la : Option Addr) (lc : Nat) (L : List Int) : Prop where
  e : ∃ A, ES w B (.slice a E.length c) E A
  l : ∃ A, Sl 23 .i64 w B (.slice la L.length lc) L A
  el : E.length ≤ 9223372036854775807
  ll : L.length ≤ 9223372036854775807
  wf : LWf L
theorem CS.below {w w' : World} {B : Nat} {a : Option Addr} {c : Nat} {E : List Ed} {la : Option Addr} {lc : Nat} {L : List Int} (h : CS w B a c E la lc L) (hb : Below B w w') : CS w' B a c E la lc L :=
  ⟨by obtain ⟨A, h1⟩ := h.e; exact ⟨A, h1.below hb⟩, by obtain ⟨A, h1⟩ := h.l; exact ⟨A, h1.below hb⟩, h.el, h.ll, h.wf⟩
theorem CS.mono {w : World} {B B' : Nat} {a : Option Addr} {c : Nat} {E : List Ed} {la : Option Addr} {lc : Nat} {L : List Int} (h : CS w B a c E la lc L) (hB : B ≤ B') : CS w B' a c E la lc L :=
  ⟨by obtain ⟨A, h1⟩ := h.e; exact ⟨A, h1.mono hB⟩, by obtain ⟨A, h1⟩ := h.l; exact ⟨A, h1.mono hB⟩, h.el, h.ll, h.wf⟩

set_option maxHeartbeats 1000000 in
theorem small_any (n : Int) (a : Option Addr) (len c : Nat) (la : Option Addr) (ll lc : Nat) (x y : Int) (w : World) (hx : 0 ≤ x ∧ x ≤ 1000) :
    Calls Try.prog 13 #[.agg #[.int .i64 n, .slice a len c, .slice la ll lc], .int .i64 x, .int .i64 y] w fun e w' => e = .returned (.bool (decide (n ≤ x ∧ (len : Int) ≤ y ∧ (ll : Int) ≤ x + 1))) ∧ Below w.heap.size w w' := by
  have hC := CB.new w n a len c la ll lc 25
  have hb : Below w.heap.size w (w.alloc (.cells #[.int .i64 n, .slice a len c, .slice la ll lc] 25)) := (Below.refl _ _).alloc (Nat.le_refl _) _
  have c0 := hC.c0; have c1 := hC.c1; have c2 := hC.c2
  clear hC
  have hw : IntKind.i64.wrap (x + 1) = x + 1 := IntWalk.i64_in _ (by omega)
  by_cases g1 : n ≤ x
  · by_cases g2 : (len : Int) ≤ y
    · go_enter Try.func13, Try.ntmps13
      go_wp2_with fail
      go_ret
      exact ⟨by simp [g1, g2], hb⟩
    · go_enter Try.func13, Try.ntmps13
      go_wp2_with fail
      go_ret
      exact ⟨by simp; omega, hb⟩
  · go_enter Try.func13, Try.ntmps13
    go_wp2_with fail
    go_ret
    exact ⟨by simp; omega, hb⟩

/-- a case fits: there is its graph, and as many labels as vertices -/
def fitB (n : Int) (E : List Ed) (L : List Int) : Bool := decide (gErr n E = 0) && decide ((L.length : Int) = n)
def FitG (n : Int) (E : List Ed) (L : List Int) (w : World) (e : Ending) (w' : World) : Prop :=
  ∃ p, e = .returned (.tuple #[.pointer p, .bool (fitB n E L)]) ∧ GV w' w'.heap.size (.pointer p) (gO n E) ∧ Below w.heap.size w w'
set_option maxHeartbeats 1000000 in
theorem fits_any (B : Nat) (n : Int) (a : Option Addr) (c : Nat) (E : List Ed) (la : Option Addr) (lc : Nat) (L : List Int) (w : World) (hS : CS w B a c E la lc L) (hB : B ≤ w.heap.size) :
    Calls Try.prog 23 #[.agg #[.int .i64 n, .slice a E.length c, .slice la L.length lc]] w (FitG n E L w) := by
  have hC := CB.new w n a E.length c la L.length lc 25
  have hb : Below w.heap.size w (w.alloc (.cells #[.int .i64 n, .slice a E.length c, .slice la L.length lc] 25)) := (Below.refl _ _).alloc (Nat.le_refl _) _
  have hs : (w.alloc (.cells #[.int .i64 n, .slice a E.length c, .slice la L.length lc] 25)).heap.size = w.heap.size + 1 := by simp
  obtain ⟨A, hA⟩ := (hS.below (hb.mono hB)).e
  have HN := Lib.hid (gnew_any B a c A n E _ hA (by omega) hS.el)
  have hll := hS.ll
  have HC := Lib.hid hC
  have c0 := hC.c0; have c1 := hC.c1; have c2 := hC.c2
  have hlt := hC.lt
  clear hS hA hC
  go_enter Try.func23, Try.ntmps23
  go_wp2_with fail
  generalize w.alloc (.cells #[.int .i64 n, .slice a E.length c, .slice la L.length lc] 25) = W0 at *
  refine HN.out.mono ?_
  rintro e w1 ⟨hb1, h1⟩
  have hC1 := HC.out.below hb1 hlt
  have k0 := hC1.c0; have k1 := hC1.c1; have k2 := hC1.c2
  have bel : Below w.heap.size w w1 := hb.trans (hb1.mono (by omega))
  rcases h1 with ⟨h1, rfl⟩ | ⟨b, k, rfl, hok, rfl, hG⟩
  · have HF := Lib.hid (show fitB n E L = false by simp [fitB, h1])
    have h1' : (gErr n E == 0) = false := by simpa using h1
    have HV := Lib.hid (show GV w1 w1.heap.size (.pointer none) (gO n E) by rw [gO_none h1]; exact .inl rfl)
    clear h1 hC1 HN
    go_wp2_with fail
    go_quiet (fail)
    go_wp2_with fail
    go_ret2
    exact ⟨none, by rw [HF.out]; rfl, (HV.out.below (below_drewN (Below.refl _ _) _)).mono (Nat.le_refl _), below_drewN bel _⟩
  · have HV := Lib.hid (show GV w1 w1.heap.size (.pointer (some ⟨b, 0, none⟩)) (gO k E) by rw [gO_some hok]; exact ⟨b, rfl, hG⟩)
    have HE := Lib.hid (gErr_ok hok)
    clear hC1 HN hG
    by_cases hl : (L.length : Int) = k
    · have HF := Lib.hid (show fitB k E L = true by simp [fitB, HE.out, hl])
      go_wp2_with fail
      go_quiet (fail)
      go_wp2_with fail
      go_ret2
      exact ⟨some ⟨b, 0, none⟩, by rw [HF.out]; rfl, (HV.out.below (below_drewN (Below.refl _ _) _)).mono (Nat.le_refl _), below_drewN bel _⟩
    · have HF := Lib.hid (show fitB k E L = false by simp [fitB, hl])
      have hl' : ((L.length : Int) == k) = false := by simpa using hl
      go_wp2_with fail
      go_quiet (fail)
      go_wp2_with fail
      go_ret2
      exact ⟨some ⟨b, 0, none⟩, by rw [HF.out]; rfl, (HV.out.below (below_drewN (Below.refl _ _) _)).mono (Nat.le_refl _), below_drewN bel _⟩
end Go.Proofs.Ytemcilmefknbbaa
