/- Plain mathematics of the search for the lowest common ancestor by jumps. No program is in sight. No conditions. -/
import Derived.Test.YtbjakjgabolkeaaDoorForest
namespace Go.Proofs.YtbjakjgabolkeaaDoor

theorem oi_inj {x y : Option Nat} : oi x = oi y ↔ x = y := by
  cases x <;> cases y <;> simp [oi] <;> omega

/-- the two nodes of the lesser depth -/
structure Level (p : List Int) (a b a0 b0 : Nat) : Prop where
  ha : a < p.length
  hb : b < p.length
  ea : anc p (dp p a - min (dp p a) (dp p b)) a = some a0
  eb : anc p (dp p b - min (dp p a) (dp p b)) b = some b0

theorem Level.facts {p : List Int} (F : Tree p) {a b a0 b0 : Nat} (L : Level p a b a0 b0) :
    a0 < p.length ∧ b0 < p.length ∧ dp p a0 = dp p b0 ∧ dp p a0 = min (dp p a) (dp p b) ∧ isAnc p a0 a = true ∧ isAnc p b0 b = true := by
  have h1 := anc_dep F _ _ _ L.ha L.ea
  have h2 := anc_dep F _ _ _ L.hb L.eb
  exact ⟨h1.1, h2.1, by omega, by omega, (isAnc_iff F L.ha).2 ⟨_, L.ea⟩, (isAnc_iff F L.hb).2 ⟨_, L.eb⟩⟩

theorem com_same {p : List Int} (F : Tree p) {a b a0 : Nat} (L : Level p a b a0 a0) : com p a b = some a0 := by
  obtain ⟨h1, h2, h3, h4, h5, h6⟩ := L.facts F
  refine com_of F L.ha h5 h6 fun x hx hy => ?_
  have := isAnc_dep F L.ha hx
  have := isAnc_dep F L.hb hy
  omega

/-- where the search stands -/
structure Seek (p : List Int) (a0 b0 m i x y : Nat) : Prop where
  ex : anc p m a0 = some x
  ey : anc p m b0 = some y
  ne : x ≠ y
  top : anc p (m + 2 ^ i) a0 = anc p (m + 2 ^ i) b0

theorem Seek.start {p : List Int} (F : Tree p) (hs : p.length ≤ 8192) {a b a0 b0 : Nat} (L : Level p a b a0 b0) (hne : a0 ≠ b0) : Seek p a0 b0 0 13 a0 b0 := by
  obtain ⟨h1, h2, h3, h4, h5, h6⟩ := L.facts F
  refine ⟨rfl, rfl, hne, ?_⟩
  have d1 := dep_lt F h1
  have d2 := dep_lt F h2
  rw [(anc_none F h1).2 (by omega), (anc_none F h2).2 (by omega)]
theorem Seek.lt {p : List Int} (F : Tree p) {a b a0 b0 m i x y : Nat} (L : Level p a b a0 b0) (S : Seek p a0 b0 m i x y) : x < p.length ∧ y < p.length := by
  obtain ⟨h1, h2, _⟩ := L.facts F
  exact ⟨anc_lt F h1 S.ex, anc_lt F h2 S.ey⟩
theorem Seek.same {p : List Int} {a0 b0 m j x y : Nat} (S : Seek p a0 b0 m (j + 1) x y) (h : oi (anc p (2 ^ j) x) = oi (anc p (2 ^ j) y)) : Seek p a0 b0 m j x y := by
  refine ⟨S.ex, S.ey, S.ne, ?_⟩
  rw [anc_add, anc_add, S.ex, S.ey]
  exact oi_inj.1 h
theorem Seek.go {p : List Int} (F : Tree p) {a b a0 b0 m j x y : Nat} (L : Level p a b a0 b0) (S : Seek p a0 b0 m (j + 1) x y) (h : oi (anc p (2 ^ j) x) ≠ oi (anc p (2 ^ j) y)) :
    ∃ x' y', oi (anc p (2 ^ j) x) = (x' : Nat) ∧ oi (anc p (2 ^ j) y) = (y' : Nat) ∧ Seek p a0 b0 (m + 2 ^ j) j x' y' := by
  obtain ⟨h1, h2, h3, h4, h5, h6⟩ := L.facts F
  obtain ⟨lx, ly⟩ := S.lt F L
  have dx := anc_d F h1 S.ex
  have dy := anc_d F h2 S.ey
  cases ex : anc p (2 ^ j) x with
  | none =>
    exfalso
    have e1 := (anc_none F lx).1 ex
    have e2 := (anc_none F ly (k := 2 ^ j)).2 (by omega)
    rw [ex, e2] at h; exact h rfl
  | some x' =>
    cases ey : anc p (2 ^ j) y with
    | none =>
      exfalso
      have e1 := (anc_none F ly).1 ey
      have e2 := (anc_none F lx (k := 2 ^ j)).2 (by omega)
      rw [ex] at e2; cases e2
    | some y' =>
      refine ⟨x', y', rfl, rfl, ⟨?_, ?_, ?_, ?_⟩⟩
      · rw [anc_add, S.ex]; exact ex
      · rw [anc_add, S.ey]; exact ey
      · intro e; rw [ex, ey, e] at h; exact h rfl
      · have := S.top; rw [Nat.pow_succ] at this
        rw [show m + 2 ^ j + 2 ^ j = m + 2 ^ j * 2 from by omega]; exact this
theorem Seek.done {p : List Int} (F : Tree p) {a b a0 b0 m x y : Nat} (L : Level p a b a0 b0) (S : Seek p a0 b0 m 0 x y) : com p a b = pa p x := by
  obtain ⟨h1, h2, h3, h4, h5, h6⟩ := L.facts F
  obtain ⟨lx, ly⟩ := S.lt F L
  have dx := anc_d F h1 S.ex
  have dy := anc_d F h2 S.ey
  have ax : isAnc p x a = true := isAnc_trans F L.ha ((isAnc_iff F h1).2 ⟨_, S.ex⟩) h5
  have ay : isAnc p y b = true := isAnc_trans F L.hb ((isAnc_iff F h2).2 ⟨_, S.ey⟩) h6
  have hno : ∀ z, isAnc p z a = true → isAnc p z b = true → dp p z < dp p x := by
    intro z hza hzb
    by_cases hd : dp p z < dp p x
    · exact hd
    · exfalso
      have hz := isAnc_lt F L.ha hza
      have q1 := isAnc_chain F L.ha ax hza (by omega)
      have q2 := isAnc_chain F L.hb ay hzb (by omega)
      exact S.ne (isAnc_eq F hz q1 q2 (by omega))
  have ht := S.top
  rw [Nat.pow_zero, anc_succ, anc_succ, S.ex, S.ey] at ht
  have ht : pa p x = pa p y := ht
  cases hp : pa p x with
  | none =>
    refine com_none F L.ha fun z hza hzb => ?_
    have := hno z hza hzb
    have := F.root x lx hp
    omega
  | some c =>
    have hc := F.rng x c lx hp
    have hd := F.up x c lx hp
    refine com_of F L.ha (isAnc_trans F L.ha ((isAnc_iff F lx).2 ⟨1, hp⟩) ax) (isAnc_trans F L.hb ((isAnc_iff F ly).2 ⟨1, ht.symm.trans hp⟩) ay) fun z hza hzb => ?_
    have := hno z hza hzb
    omega
end Go.Proofs.YtbjakjgabolkeaaDoor
