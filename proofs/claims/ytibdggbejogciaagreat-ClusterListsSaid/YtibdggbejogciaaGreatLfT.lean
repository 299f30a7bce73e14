/- How a table of package lift lies in memory, and the walks of its small methods: Len, has, Depth. Conditions: the table was made by New, or it is nil or zero. -/
import Derived.Test.YtibdggbejogciaaGreatMe
import Derived.Test.YtibdggbejogciaaGreatLf
import Derived.WalkKit
import Derived.WalkSpells
import Derived.WalkLawsBesides
import Derived.Lib.Hide
namespace Go.Proofs.YtibdggbejogciaaGreat
open Go.RowKit

/-- a table of a forest, below block B -/
structure TabAt (w : World) (B b : Nat) (p : List Int) : Prop where
  tree : Tree p
  small : p.length ≤ 8192
  lt : b < B
  made : w.cell? ⟨b, 0, none⟩ = some (.bool true)
  dep : ∃ db, db < B ∧ w.cell? ⟨b, 1, none⟩ = some (.slice (some ⟨db, 0, none⟩) p.length p.length) ∧ ∀ i, i < p.length → w.cell? ⟨db, i, none⟩ = some (.int .i64 (dp p i : Nat))
  jmp : ∃ jb : Nat → Nat, ∀ j, j < 13 → jb j < B ∧ w.cell? ⟨b, 2 + j, none⟩ = some (.slice (some ⟨jb j, 0, none⟩) p.length p.length) ∧ ∀ i, i < p.length → w.cell? ⟨jb j, i, none⟩ = some (.int .i64 (oi (anc p (2 ^ j) i)))

theorem TabAt.below {w w' : World} {B b : Nat} {p : List Int} (h : TabAt w B b p) (hb : Below B w w') : TabAt w' B b p where
  tree := h.tree
  small := h.small
  lt := h.lt
  made := by rw [hb.cell h.lt]; exact h.made
  dep := by
    obtain ⟨db, h1, h2, h3⟩ := h.dep
    exact ⟨db, h1, by rw [hb.cell h.lt]; exact h2, fun i hi => by rw [hb.cell h1]; exact h3 i hi⟩
  jmp := by
    obtain ⟨jb, hj⟩ := h.jmp
    exact ⟨jb, fun j hj' => ⟨(hj j hj').1, by rw [hb.cell h.lt]; exact (hj j hj').2.1, fun i hi => by rw [hb.cell (hj j hj').1]; exact (hj j hj').2.2 i hi⟩⟩
theorem TabAt.mono {w : World} {B B' b : Nat} {p : List Int} (h : TabAt w B b p) (hB : B ≤ B') : TabAt w B' b p where
  tree := h.tree
  small := h.small
  lt := Nat.lt_of_lt_of_le h.lt hB
  made := h.made
  dep := by
    obtain ⟨db, h1, h2, h3⟩ := h.dep
    exact ⟨db, Nat.lt_of_lt_of_le h1 hB, h2, h3⟩
  jmp := by
    obtain ⟨jb, hj⟩ := h.jmp
    exact ⟨jb, fun j hj' => ⟨Nat.lt_of_lt_of_le (hj j hj').1 hB, (hj j hj').2.1, (hj j hj').2.2⟩⟩

set_option maxHeartbeats 400000 in
theorem len_tab (b B : Nat) (p : List Int) (w : World) (h : TabAt w B b p) :
    Calls Tryz.prog 62 #[.pointer (some ⟨b, 0, none⟩)] w fun e w' => e = .returned (.int .i64 p.length) ∧ w = w' := by
  have h1 := h.made
  obtain ⟨db, _, h2, _⟩ := h.dep
  clear h
  go_enter Tryz.func62, Tryz.ntmps62
  go_wp2
  go_ret
  exact ⟨rfl, rfl⟩

def inB (p : List Int) (v : Int) : Bool := decide (0 ≤ v ∧ v < p.length)

set_option maxHeartbeats 400000 in
theorem has_tab (b B : Nat) (p : List Int) (v : Int) (w : World) (h : TabAt w B b p) :
    Calls Tryz.prog 61 #[.pointer (some ⟨b, 0, none⟩), .int .i64 v] w fun e w' => e = .returned (.bool (inB p v)) ∧ w = w' := by
  by_cases h0 : 0 ≤ v
  · go_enter Tryz.func61, Tryz.ntmps61
    go_wp2_with (go_at_call 62; refine (len_tab _ _ _ _ h).mono ?_; rintro e w' ⟨rfl, rfl⟩)
    go_ret
    exact ⟨by simp [inB, h0], rfl⟩
  · go_enter Tryz.func61, Tryz.ntmps61
    go_wp2
    go_ret
    exact ⟨by simp [inB]; omega, rfl⟩
/-- the same where the answer is known -/
theorem has_is {b B : Nat} {p : List Int} {v : Int} {w : World} {x : Bool} (hx : inB p v = x) (h : TabAt w B b p) :
    Calls Tryz.prog 61 #[.pointer (some ⟨b, 0, none⟩), .int .i64 v] w fun e w' => e = .returned (.bool x) ∧ w = w' := by
  subst hx; exact has_tab _ _ _ _ _ h
end Go.Proofs.YtibdggbejogciaaGreat
