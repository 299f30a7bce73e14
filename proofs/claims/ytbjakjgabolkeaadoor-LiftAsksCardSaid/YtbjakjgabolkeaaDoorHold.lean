/- What a law holds while it asks: the table, and what else lies below. Conditions: those of the contracts that are passed on. -/
import Derived.Test.YtbjakjgabolkeaaDoorThree
namespace Go.Proofs.YtbjakjgabolkeaaDoor
open Go.RowKit Go.Shelf

/-- where a law stands, with more that lies below B -/
structure SQ (w0 : World) (B b : Nat) (p : List Int) (Q : World → Prop) (w : World) : Prop where
  st : St w0 B b p w
  q : Q w
  keep : ∀ w1 w2, Below B w1 w2 → Q w1 → Q w2
theorem SQ.step {w0 w1 w2 : World} {B b : Nat} {p : List Int} {Q : World → Prop} (S : SQ w0 B b p Q w1) (hb : Below w1.heap.size w1 w2) : SQ w0 B b p Q w2 :=
  ⟨S.st.step hb, S.keep _ _ (hb.mono S.st.le) S.q, S.keep⟩
theorem St.top {w0 w1 : World} {B b : Nat} {p : List Int} (S : St w0 B b p w1) : St w0 w1.heap.size b p w1 := ⟨S.tab.mono S.le, S.deb, Nat.le_refl _, S.bel⟩
theorem St.hold {w0 w1 : World} {B b : Nat} {p : List Int} {v : Value} {A : Nat → Addr} (S : St w0 B b p w1) (h : Sl 25 .i64 w1 B v p A) : SQ w0 B b p (fun w => Sl 25 .i64 w B v p A) w1 :=
  ⟨S, h, fun _ _ hb h => h.below hb⟩
variable {w0 w1 : World} {B b : Nat} {p : List Int} {Q : World → Prop}
theorem SQ.up (S : SQ w0 B b p Q w1) {v k x : Int} {y : Bool} (hx : upV p v k = x) (hy : upB p v k = y) :
    Calls Tryd.prog 20 #[.pointer (some ⟨b, 0, none⟩), .int .i64 v, .int .i64 k] w1 fun e w' => e = .returned (.tuple #[.int .i64 x, .bool y]) ∧ SQ w0 B b p Q w' :=
  (up_is hx hy S.st.tab S.st.le S.st.deb).mono fun _ _ ⟨h, hb⟩ => ⟨h, S.step hb⟩
theorem SQ.common (S : SQ w0 B b p Q w1) {v k x : Int} {y : Bool} (hx : coV p v k = x) (hy : coB p v k = y) :
    Calls Tryd.prog 14 #[.pointer (some ⟨b, 0, none⟩), .int .i64 v, .int .i64 k] w1 fun e w' => e = .returned (.tuple #[.int .i64 x, .bool y]) ∧ SQ w0 B b p Q w' := by
  subst hx; subst hy
  exact (common_tab _ _ _ _ _ _ S.st.tab S.st.le S.st.deb).mono fun _ _ ⟨h, hb⟩ => ⟨h, S.step hb⟩
theorem SQ.dist (S : SQ w0 B b p Q w1) {v k x : Int} {y : Bool} (hx : diV p v k = x) (hy : coB p v k = y) :
    Calls Tryd.prog 15 #[.pointer (some ⟨b, 0, none⟩), .int .i64 v, .int .i64 k] w1 fun e w' => e = .returned (.tuple #[.int .i64 x, .bool y]) ∧ SQ w0 B b p Q w' := by
  subst hx; subst hy
  exact (dist_tab _ _ _ _ _ _ S.st.tab S.st.le S.st.deb).mono fun _ _ ⟨h, hb⟩ => ⟨h, S.step hb⟩
theorem SQ.root (S : SQ w0 B b p Q w1) {v x : Int} {y : Bool} (hx : upV p v (dpV p v) = x) (hy : upB p v (dpV p v) = y) :
    Calls Tryd.prog 19 #[.pointer (some ⟨b, 0, none⟩), .int .i64 v] w1 fun e w' => e = .returned (.tuple #[.int .i64 x, .bool y]) ∧ SQ w0 B b p Q w' := by
  subst hx; subst hy
  exact (root_tab _ _ _ _ _ S.st.tab S.st.le S.st.deb).mono fun _ _ ⟨h, hb⟩ => ⟨h, S.step hb⟩
theorem SQ.above (S : SQ w0 B b p Q w1) {x v : Int} {y : Bool} (hy : abB p x v = y) :
    Calls Tryd.prog 18 #[.pointer (some ⟨b, 0, none⟩), .int .i64 x, .int .i64 v] w1 fun e w' => e = .returned (.bool y) ∧ SQ w0 B b p Q w' := by
  subst hy
  exact (above_tab _ _ _ _ _ _ S.st.tab S.st.le S.st.deb).mono fun _ _ ⟨h, hb⟩ => ⟨h, S.step hb⟩
theorem SQ.depth (S : SQ w0 B b p Q w1) {v x : Int} (hy : dpV p v = x) :
    Calls Tryd.prog 16 #[.pointer (some ⟨b, 0, none⟩), .int .i64 v] w1 fun e w' => e = .returned (.int .i64 x) ∧ SQ w0 B b p Q w' := by
  subst hy
  exact (depth_tab _ _ _ _ _ S.st.tab).mono fun _ _ ⟨h, hb⟩ => ⟨h, hb ▸ S⟩
theorem SQ.climb (S : SQ w0 B b p Q w1) {v m x : Int} {y : Int} {key : List Int} {a : Option Addr} {cap K : Nat} {A : Nat → Addr} (hx : clV p v key m = x) (hy : clE p v key = y) (hK : Key w1 K (.slice a key.length cap) key A) (hKB : K ≤ w1.heap.size) :
    Calls Tryd.prog 24 #[.pointer (some ⟨b, 0, none⟩), .int .i64 v, .slice a key.length cap, .int .i64 m] w1 fun e w' => e = .returned (.tuple #[.int .i64 x, .int .i64 y]) ∧ SQ w0 B b p Q w' :=
  (S.st.climb hx hy hK hKB).mono fun _ _ ⟨h, _, hb⟩ => ⟨h, S.step hb⟩
theorem SQ.works (S : SQ w0 B b p Q w1) :
    Calls Tryd.prog 13 #[] w1 fun e w' => e = .returned (.bool true) ∧ SQ w0 B b p Q w' :=
  (works_any _ S.st.deb).mono fun _ _ ⟨h, hb⟩ => ⟨h, S.step hb⟩
theorem SQ.drew (S : SQ w0 B b p Q w1) (n : Nat) : SQ w0 B b p Q (w1.drewN n) := S.step (below_drewN (Below.refl _ _) n)

theorem up_at {p : List Int} (F : Tree p) {v k : Nat} (hv : v < p.length) (hk : k ≤ dp p v) : ∃ u : Nat, u < p.length ∧ anc p k v = some u ∧ dp p v = dp p u + k ∧ upV p v k = u ∧ upB p v k = true := by
  obtain ⟨u, hu⟩ := anc_some F k v hv hk
  have hi : inB p v = true := inB_iff.2 ⟨v, rfl, hv⟩
  have hb : upB p v k = true := by simp [upB, hi, hk]
  exact ⟨u, anc_lt F hv hu, hu, anc_d F hv hu, by rw [upV, hb, if_pos rfl, Int.toNat_natCast, Int.toNat_natCast, hu]; rfl, hb⟩
theorem up_no {p : List Int} {v k : Nat} (hk : dp p v < k) : upV p v k = 0 ∧ upB p v k = false := by
  have hb : upB p v k = false := by simp [upB, hk]
  exact ⟨by rw [upV, hb]; rfl, hb⟩
theorem up_add {p : List Int} (F : Tree p) {v k u j : Nat} (hv : v < p.length) (hu : anc p k v = some u) : upV p u j = upV p v ((k : Int) + j) ∧ upB p u j = upB p v ((k : Int) + j) := by
  have hul := anc_lt F hv hu
  have hd := anc_d F hv hu
  have e : (k : Int) + j = ((k + j : Nat) : Int) := by omega
  rw [e]
  by_cases hj : j ≤ dp p u
  · obtain ⟨x, _, x1, _, x2, x3⟩ := up_at F hul hj
    obtain ⟨y, _, y1, _, y2, y3⟩ := up_at F hv (show k + j ≤ dp p v by omega)
    rw [anc_add, hu] at y1
    simp only [Option.bind_some] at y1
    rw [x1] at y1
    cases y1
    exact ⟨by rw [x2, y2], by rw [x3, y3]⟩
  · obtain ⟨x1, x2⟩ := up_no (p := p) (v := u) (k := j) (by omega)
    obtain ⟨y1, y2⟩ := up_no (p := p) (v := v) (k := k + j) (by omega)
    exact ⟨by rw [x1, y1], by rw [x2, y2]⟩
theorem pa_of_root {p : List Int} (F : Tree p) {v : Nat} (hv : v < p.length) : pa p (rootOf p v) = none := by
  cases h : pa p (rootOf p v) with
  | none => rfl
  | some u => have := F.up _ u (rootOf_lt F hv) h; have := rootOf_dep F hv; omega
/-- Root's answers -/
theorem root_at {p : List Int} (F : Tree p) {v : Nat} (hv : v < p.length) : upV p v (dp p v) = rootOf p v ∧ upB p v (dp p v) = true := by
  obtain ⟨u, _, hu, _, h1, h2⟩ := up_at F hv (Nat.le_refl (dp p v))
  rw [rootOf_anc F hv] at hu
  cases hu
  exact ⟨h1, h2⟩
theorem made_range (L : List Int) (turned : Bool) : InRange (madeL L turned) := (newE_zero (newE_made L turned)).2.1
theorem dp0 {p : List Int} (h : p.length = 0) : dpV p 0 = 0 := by
  have : inB p 0 = false := by simp [inB, h]
  rw [dpV, this]; rfl
end Go.Proofs.YtbjakjgabolkeaaDoor
