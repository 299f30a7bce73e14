/- The walk of works: the example of the chapter. Conditions: the library's table of de Bruijn is as its initialiser lays it. -/
import Derived.Test.YtbjakjgabolkeaaDoorClimb2
namespace Go.Proofs.YtbjakjgabolkeaaDoor
open Go.RowKit Go.Shelf

theorem Sl.lit {k : IntKind} {w : World} {B b o cap : Nat} {l : List Int} (hb : b < B) (hc : ∀ i, i < l.length → w.cell? ⟨b, o + i, none⟩ = some (.int k (nth l i))) :
    Sl 25 k w B (.slice (some ⟨b, o, none⟩) l.length cap) l (fun i => ⟨b, o + i, none⟩) where
  ix := fun i hi w' => by
    have h1 : (0 : Int) ≤ (i : Int) ∧ (i : Int) < (l.length : Int) := by omega
    go_simp
  lt := fun _ _ => hb
  cell := hc
theorem Key.lit {w : World} {B b o cap : Nat} {l : List Int} (hb : b < B) (hc : ∀ i, i < l.length → w.cell? ⟨b, o + i, none⟩ = some (.int .i64 (nth l i))) :
    Key w B (.slice (some ⟨b, o, none⟩) l.length cap) l (fun i => ⟨b, o + i, none⟩) where
  ix := fun i hi w' => by
    have h1 : (0 : Int) ≤ (i : Int) ∧ (i : Int) < (l.length : Int) := by omega
    go_simp
  lt := fun _ _ => hb
  cell := hc
/-- a row that has just been laid -/
theorem cell_laid (w : World) (cs : Array Value) (t : TypeId) (i : Nat) : (w.alloc (.cells cs t)).cell? ⟨w.heap.size, i, none⟩ = cs[i]? := by
  have := heap_alloc_new w (.cells cs t)
  simp only [World.cell?, this, Option.isSome_none, Bool.false_eq_true, if_false]
def p0 : List Int := [-1, 0, 0, 1, 1, 4, -1]
def k0 : List Int := [9, 4, 0, 0, 3, 8, 0]
theorem laid_at {w : World} {l : List Int} {t : TypeId} (i : Nat) (hi : i < l.length) : (w.alloc (.cells (l.map (Value.int .i64)).toArray t)).cell? ⟨w.heap.size, 0 + i, none⟩ = some (.int .i64 (nth l i)) := by
  rw [Nat.zero_add, cell_laid]; simp [nth, hi]

/-- where a law stands, a table at hand: what lay when it began lies as it lay -/
structure St (w0 : World) (B b : Nat) (p : List Int) (w : World) : Prop where
  tab : TabAt w B b p
  deb : DeB w
  le : B ≤ w.heap.size
  bel : Below w0.heap.size w0 w
theorem St.step {w0 w1 w2 : World} {B b : Nat} {p : List Int} (S : St w0 B b p w1) (hb : Below w1.heap.size w1 w2) : St w0 B b p w2 where
  tab := S.tab.below (hb.mono S.le)
  deb := S.deb.below hb S.deb.lt
  le := Nat.le_trans S.le hb.size
  bel := S.bel.trans (hb.mono S.bel.size)
variable {w0 w1 : World} {B b : Nat} {p : List Int}
theorem St.up (S : St w0 B b p w1) {v k x : Int} {y : Bool} (hx : upV p v k = x) (hy : upB p v k = y) :
    Calls Tryd.prog 20 #[.pointer (some ⟨b, 0, none⟩), .int .i64 v, .int .i64 k] w1 fun e w' => e = .returned (.tuple #[.int .i64 x, .bool y]) ∧ St w0 B b p w' :=
  (up_is hx hy S.tab S.le S.deb).mono fun _ _ ⟨h, hb⟩ => ⟨h, S.step hb⟩
theorem St.common (S : St w0 B b p w1) {v k x : Int} {y : Bool} (hx : coV p v k = x) (hy : coB p v k = y) :
    Calls Tryd.prog 14 #[.pointer (some ⟨b, 0, none⟩), .int .i64 v, .int .i64 k] w1 fun e w' => e = .returned (.tuple #[.int .i64 x, .bool y]) ∧ St w0 B b p w' := by
  subst hx; subst hy
  exact (common_tab _ _ _ _ _ _ S.tab S.le S.deb).mono fun _ _ ⟨h, hb⟩ => ⟨h, S.step hb⟩
theorem St.dist (S : St w0 B b p w1) {v k x : Int} {y : Bool} (hx : diV p v k = x) (hy : coB p v k = y) :
    Calls Tryd.prog 15 #[.pointer (some ⟨b, 0, none⟩), .int .i64 v, .int .i64 k] w1 fun e w' => e = .returned (.tuple #[.int .i64 x, .bool y]) ∧ St w0 B b p w' := by
  subst hx; subst hy
  exact (dist_tab _ _ _ _ _ _ S.tab S.le S.deb).mono fun _ _ ⟨h, hb⟩ => ⟨h, S.step hb⟩
theorem St.root (S : St w0 B b p w1) {v x : Int} {y : Bool} (hx : upV p v (dpV p v) = x) (hy : upB p v (dpV p v) = y) :
    Calls Tryd.prog 19 #[.pointer (some ⟨b, 0, none⟩), .int .i64 v] w1 fun e w' => e = .returned (.tuple #[.int .i64 x, .bool y]) ∧ St w0 B b p w' := by
  subst hx; subst hy
  exact (root_tab _ _ _ _ _ S.tab S.le S.deb).mono fun _ _ ⟨h, hb⟩ => ⟨h, S.step hb⟩
theorem St.above (S : St w0 B b p w1) {x v : Int} {y : Bool} (hy : abB p x v = y) :
    Calls Tryd.prog 18 #[.pointer (some ⟨b, 0, none⟩), .int .i64 x, .int .i64 v] w1 fun e w' => e = .returned (.bool y) ∧ St w0 B b p w' := by
  subst hy
  exact (above_tab _ _ _ _ _ _ S.tab S.le S.deb).mono fun _ _ ⟨h, hb⟩ => ⟨h, S.step hb⟩
theorem St.depth (S : St w0 B b p w1) {v x : Int} (hy : dpV p v = x) :
    Calls Tryd.prog 16 #[.pointer (some ⟨b, 0, none⟩), .int .i64 v] w1 fun e w' => e = .returned (.int .i64 x) ∧ St w0 B b p w' := by
  subst hy
  exact (depth_tab _ _ _ _ _ S.tab).mono fun _ _ ⟨h, hb⟩ => ⟨h, hb ▸ S⟩
theorem St.len (S : St w0 B b p w1) :
    Calls Tryd.prog 25 #[.pointer (some ⟨b, 0, none⟩)] w1 fun e w' => e = .returned (.int .i64 p.length) ∧ St w0 B b p w' :=
  (len_tab _ _ _ _ S.tab).mono fun _ _ ⟨h, hb⟩ => ⟨h, hb ▸ S⟩
theorem St.climb (S : St w0 B b p w1) {v m x : Int} {y : Int} {key : List Int} {a : Option Addr} {cap K : Nat} {A : Nat → Addr} (hx : clV p v key m = x) (hy : clE p v key = y) (hK : Key w1 K (.slice a key.length cap) key A) (hKB : K ≤ w1.heap.size) :
    Calls Tryd.prog 24 #[.pointer (some ⟨b, 0, none⟩), .int .i64 v, .slice a key.length cap, .int .i64 m] w1 fun e w' => e = .returned (.tuple #[.int .i64 x, .int .i64 y]) ∧ St w0 B b p w' ∧ Below w1.heap.size w1 w' := by
  subst hx; subst hy
  exact (climb_tab b w1.heap.size p key m a cap A v w1 (S.tab.mono S.le) ⟨hK.ix, fun i hi => Nat.lt_of_lt_of_le (hK.lt i hi) hKB, hK.cell⟩ (Nat.le_refl _)).mono fun _ _ ⟨h, hb⟩ => ⟨h, S.step hb, hb⟩

set_option maxRecDepth 100000 in
set_option maxHeartbeats 2000000 in
theorem works_any (w : World) (hT : DeB w) :
    Calls Tryd.prog 13 #[] w fun e w' => e = .returned (.bool true) ∧ Below w.heap.size w w' := by
  have hB0 : Below w.heap.size w (w.alloc (.cells (p0.map (Value.int .i64)).toArray 3)) := (Below.refl _ w).alloc (Nat.le_refl _) _
  have hS : Sl 25 .i64 (w.alloc (.cells (p0.map (Value.int .i64)).toArray 3)) (w.heap.size + 1) (.slice (some ⟨w.heap.size, 0, none⟩) p0.length 7) p0 (fun i => ⟨w.heap.size, 0 + i, none⟩) := Sl.lit (by omega) laid_at
  have hN := new_ok (by decide : newE p0 = 0) hS (by simp)
  have h1 := hT.lt
  go_enter Tryd.func13, Tryd.ntmps13
  go_wp2_with fail
  refine hN.mono ?_
  rintro e w1 ⟨b, rfl, hTab, hb1⟩
  have hb2 := hB0.trans (hb1.mono (by simp))
  have S : St w w1.heap.size b p0 w1 := ⟨hTab, hT.below hb2 h1, Nat.le_refl _, hb2⟩
  clear hS hB0 hb1 hb2 hTab hT hN
  go_wp2_with fail
  refine (S.up (x := 1) (y := true) (by decide) (by decide)).mono ?_
  rintro e w2 ⟨rfl, S2⟩
  go_wp2_with fail
  refine (S2.up (x := 0) (y := false) (by decide) (by decide)).mono ?_
  rintro e w3 ⟨rfl, S3⟩
  go_wp2_with fail
  refine (S3.common (x := 1) (y := true) (by decide) (by decide)).mono ?_
  rintro e w4 ⟨rfl, S4⟩
  go_wp2_with fail
  refine (S4.common (x := 0) (y := false) (by decide) (by decide)).mono ?_
  rintro e w5 ⟨rfl, S5⟩
  go_wp2_with fail
  refine (S5.dist (x := 3) (y := true) (by decide) (by decide)).mono ?_
  rintro e w6 ⟨rfl, S6⟩
  have S7 : St w w1.heap.size b p0 (w6.alloc (.cells (k0.map (Value.int .i64)).toArray 2)) := S6.step ((Below.refl _ _).alloc (Nat.le_refl _) _)
  have hK : Key (w6.alloc (.cells (k0.map (Value.int .i64)).toArray 2)) (w6.heap.size + 1) (.slice (some ⟨w6.heap.size, 0, none⟩) k0.length 7) k0 (fun i => ⟨w6.heap.size, 0 + i, none⟩) := Key.lit (by omega) laid_at
  go_wp2_with fail
  refine (S7.climb (x := 1) (y := 0) (by decide) (by decide) hK (by simp)).mono ?_
  rintro e w8 ⟨rfl, S8, _⟩
  go_wp2_with fail
  go_ret
  exact ⟨rfl, S8.bel⟩
end Go.Proofs.YtbjakjgabolkeaaDoor
