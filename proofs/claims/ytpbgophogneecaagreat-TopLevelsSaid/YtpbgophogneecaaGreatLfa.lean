/- Plain mathematics of rooted forests given by a list of parents: ancestors, depths, lowest common ancestors. No program is in sight. No conditions. -/
import Derived.Test.YtpbgophogneecaaGreatMe
import Derived.WalkKit
import Derived.WalkSpells
import Derived.WalkLawsBesides
import Derived.Lib.Hide
import Derived.Deep.OwnRows
import Derived.Maps.AppendAt
import Derived.Deep.LoopGhost
import Derived.RegionTactic
import Derived.BigRegion
import Derived.ChangeAlike
import Derived.BigQuiet
import Derived.Deep.QuietTactic
import Derived.Sort.BigQuietIn
namespace Go.Proofs.YtpbgophogneecaaGreat

/-- the parent of a node; none for a root and beyond the list -/
def pa (p : List Int) (v : Nat) : Option Nat :=
  match p[v]? with
  | some (.ofNat u) => some u
  | _ => none
/-- the ancestor so many steps up -/
def anc (p : List Int) : Nat → Nat → Option Nat
  | 0, v => some v
  | k + 1, v => (anc p k v).bind (pa p)
/-- as the tables hold it -/
def oi : Option Nat → Int
  | none => -1
  | some u => u
/-- depth by fuel -/
def dpF (p : List Int) : Nat → Nat → Nat
  | 0, _ => 0
  | f + 1, v => match pa p v with
    | none => 0
    | some u => dpF p f u + 1
def dp (p : List Int) (v : Nat) : Nat := dpF p p.length v

structure Forest (p : List Int) (d : Nat → Nat) : Prop where
  rng : ∀ v u, v < p.length → pa p v = some u → u < p.length
  up : ∀ v u, v < p.length → pa p v = some u → d v = d u + 1
  root : ∀ v, v < p.length → pa p v = none → d v = 0

theorem pa_some {p : List Int} {v u : Nat} : pa p v = some u ↔ p[v]? = some (u : Int) := by
  unfold pa
  split
  · rename_i w h; rw [h]; simp only [Option.some.injEq, Int.ofNat_eq_natCast]; omega
  · rename_i h
    constructor
    · intro h'; cases h'
    · intro h'; exact absurd h' (h u)
theorem pa_lt {p : List Int} {v u : Nat} (h : pa p v = some u) : v < p.length := by
  rw [pa_some] at h; exact (List.getElem?_eq_some_iff.1 h).1
theorem pa_none {p : List Int} {v : Nat} (hv : v < p.length) : pa p v = none ↔ p[v] < 0 := by
  unfold pa
  rw [List.getElem?_eq_getElem hv]
  cases h : p[v] with
  | ofNat u => simp
  | negSucc u => simp
/-- what lies in the list is the parent, as the tables hold it -/
theorem oi_pa {p : List Int} {v : Nat} (hv : v < p.length) (h : -1 ≤ p[v]) : oi (pa p v) = p[v] := by
  by_cases h0 : p[v] < 0
  · rw [(pa_none hv).2 h0]; simp only [oi]; omega
  · have : pa p v = some p[v].toNat := by
      rw [pa_some, List.getElem?_eq_getElem hv]; congr 1; omega
    rw [this]; simp only [oi]; omega

@[simp] theorem anc_zero (p : List Int) (v : Nat) : anc p 0 v = some v := rfl
theorem anc_succ (p : List Int) (k v : Nat) : anc p (k + 1) v = (anc p k v).bind (pa p) := rfl
theorem anc_add (p : List Int) (j k v : Nat) : anc p (j + k) v = (anc p j v).bind (anc p k) := by
  induction k with
  | zero => cases anc p j v <;> rfl
  | succ k ih => rw [← Nat.add_assoc, anc_succ, ih]; cases anc p j v <;> simp [anc_succ]
theorem anc_one (p : List Int) (v : Nat) : anc p 1 v = pa p v := rfl
theorem anc_succ' (p : List Int) (k v : Nat) : anc p (k + 1) v = (pa p v).bind (anc p k) := by
  rw [Nat.add_comm, anc_add, anc_one]

theorem anc_dep {p : List Int} {d : Nat → Nat} (F : Forest p d) : ∀ k v u, v < p.length → anc p k v = some u → u < p.length ∧ d v = d u + k := by
  intro k
  induction k with
  | zero => intro v u hv h; simp at h; subst h; exact ⟨hv, by omega⟩
  | succ k ih =>
    intro v u hv h
    rw [anc_succ] at h
    cases hm : anc p k v with
    | none => rw [hm] at h; cases h
    | some m =>
      rw [hm] at h
      have ⟨h1, h2⟩ := ih v m hv hm
      have h3 : pa p m = some u := h
      exact ⟨F.rng m u h1 h3, by have := F.up m u h1 h3; omega⟩
theorem anc_some {p : List Int} {d : Nat → Nat} (F : Forest p d) : ∀ k v, v < p.length → k ≤ d v → ∃ u, anc p k v = some u := by
  intro k
  induction k with
  | zero => intro v _ _; exact ⟨v, rfl⟩
  | succ k ih =>
    intro v hv hk
    obtain ⟨m, hm⟩ := ih v hv (by omega)
    have ⟨h1, h2⟩ := anc_dep F k v m hv hm
    cases hp : pa p m with
    | none => have := F.root m h1 hp; omega
    | some u => exact ⟨u, by rw [anc_succ, hm]; exact hp⟩
theorem anc_none {p : List Int} {d : Nat → Nat} (F : Forest p d) {k v : Nat} (hv : v < p.length) : anc p k v = none ↔ d v < k := by
  constructor
  · intro h
    by_cases hk : k ≤ d v
    · obtain ⟨u, hu⟩ := anc_some F k v hv hk; rw [h] at hu; cases hu
    · omega
  · intro h
    cases hu : anc p k v with
    | none => rfl
    | some u => have := (anc_dep F k v u hv hu).2; omega
theorem anc_lt {p : List Int} {d : Nat → Nat} (F : Forest p d) {k v u : Nat} (hv : v < p.length) (h : anc p k v = some u) : u < p.length := (anc_dep F k v u hv h).1
theorem anc_d {p : List Int} {d : Nat → Nat} (F : Forest p d) {k v u : Nat} (hv : v < p.length) (h : anc p k v = some u) : d v = d u + k := (anc_dep F k v u hv h).2

/-- a list of different numbers below n has at most n of them -/
theorem nodup_le : ∀ (n : Nat) (l : List Nat), l.Nodup → (∀ x ∈ l, x < n) → l.length ≤ n := by
  intro n
  induction n with
  | zero => intro l _ h; cases l with
    | nil => simp
    | cons x t => have := h x (by simp); omega
  | succ n ih =>
    intro l hn h
    have h1 := ih (l.filter (· != n)) (hn.filter _) (fun x hx => by
      rw [List.mem_filter] at hx; have h2 := h x hx.1; have h3 : x ≠ n := by simpa using hx.2
      omega)
    have h2 : l.length ≤ (l.filter (· != n)).length + 1 := by
      have e := @List.length_eq_countP_add_countP Nat (fun x => x != n) l
      rw [← List.countP_eq_length_filter]
      have : List.countP (fun a => decide ¬(a != n) = true) l ≤ 1 := by
        have h3 : List.countP (fun a => decide ¬(a != n) = true) l = l.count n := by
          rw [List.count]; apply List.countP_congr; intro x _; simp
        rw [h3]; exact List.nodup_iff_count.1 hn n
      omega
    omega

/-- the nodes of the way up, as many as there are within k steps -/
def way (p : List Int) (v : Nat) (k : Nat) : List Nat := (List.range k).filterMap (fun i => anc p i v)

theorem dep_lt {p : List Int} {d : Nat → Nat} (F : Forest p d) {v : Nat} (hv : v < p.length) : d v < p.length := by
  have hl : ∀ k, k ≤ d v + 1 → (way p v k).length = k := by
    intro k hk
    unfold way
    induction k with
    | zero => rfl
    | succ k ih =>
      obtain ⟨u, hu⟩ := anc_some F k v hv (by omega)
      rw [List.range_succ, List.filterMap_append, List.length_append, ih (by omega)]
      simp [hu]
  have hn : (way p v (d v + 1)).Nodup := by
    unfold way
    rw [List.Nodup, List.pairwise_filterMap]
    refine List.Pairwise.imp ?_ List.pairwise_lt_range
    intro i j hij u hu w hw e
    subst e
    have h1 := anc_d F hv hu
    have h2 := anc_d F hv hw
    omega
  have := nodup_le p.length _ hn (fun x hx => by
    unfold way at hx; rw [List.mem_filterMap] at hx
    obtain ⟨i, _, hi⟩ := hx
    exact anc_lt F hv hi)
  rw [hl (d v + 1) (by omega)] at this
  omega

theorem dpF_eq {p : List Int} {d : Nat → Nat} (F : Forest p d) : ∀ f v, v < p.length → d v < f → dpF p f v = d v := by
  intro f
  induction f with
  | zero => intro v _ h; omega
  | succ f ih =>
    intro v hv h
    rw [dpF]
    cases hp : pa p v with
    | none => simp only; exact (F.root v hv hp).symm
    | some u =>
      have h1 := F.up v u hv hp
      have h2 := F.rng v u hv hp
      show dpF p f u + 1 = d v
      rw [ih u h2 (by omega), h1]
theorem dp_eq {p : List Int} {d : Nat → Nat} (F : Forest p d) {v : Nat} (hv : v < p.length) : dp p v = d v := dpF_eq F _ v hv (dep_lt F hv)
theorem Forest.dp {p : List Int} {d : Nat → Nat} (F : Forest p d) : Forest p (dp p) where
  rng := F.rng
  up := fun v u hv h => by rw [dp_eq F hv, dp_eq F (F.rng v u hv h)]; exact F.up v u hv h
  root := fun v hv h => by rw [dp_eq F hv]; exact F.root v hv h
/-- a forest: there is a depth -/
def Tree (p : List Int) : Prop := Forest p (dp p)
theorem Forest.tree {p : List Int} {d : Nat → Nat} (F : Forest p d) : Tree p := F.dp

/-- parents of smaller rank make a forest -/
theorem tree_of_rank {p : List Int} (r : Nat → Nat) (hb : ∀ v u, pa p v = some u → u < p.length ∧ r u < r v) : Tree p := by
  have hF : ∀ N v, r v < N → ∀ f g, r v < f → r v < g → dpF p f v = dpF p g v := by
    intro N
    induction N with
    | zero => intro v h; omega
    | succ N ih =>
      intro v h f g hf hg
      cases f with
      | zero => omega
      | succ f => cases g with
        | zero => omega
        | succ g =>
          rw [dpF, dpF]
          cases hp : pa p v with
          | none => rfl
          | some u =>
            have h1 := (hb v u hp).2
            show dpF p f u + 1 = dpF p g u + 1
            rw [ih u (by omega) f g (by omega) (by omega)]
  have F : Forest p (fun v => dpF p (r v + 1) v) := by
    refine ⟨fun v u _ h => (hb v u h).1, fun v u _ h => ?_, fun v _ h => ?_⟩
    · have h1 := (hb v u h).2
      show dpF p (r v + 1) v = _
      rw [dpF, h]
      show dpF p (r v) u + 1 = dpF p (r u + 1) u + 1
      rw [hF (r u + 1) u (by omega) (r v) (r u + 1) (by omega) (by omega)]
    · show dpF p (r v + 1) v = 0
      rw [dpF, h]
  exact F.tree

/-- a test that can be run -/
def treeB (p : List Int) : Bool := (List.range p.length).all fun v => match pa p v with
  | none => dp p v == 0
  | some u => decide (u < p.length) && dp p v == dp p u + 1
theorem tree_of_B {p : List Int} (h : treeB p = true) : Tree p := by
  unfold treeB at h
  rw [List.all_eq_true] at h
  refine ⟨fun v u hv hp => ?_, fun v u hv hp => ?_, fun v hv hp => ?_⟩ <;>
  · have := h v (by simpa using hv)
    rw [hp] at this
    simp at this
    omega

/-- x is above v, or v itself -/
def isAnc (p : List Int) (x v : Nat) : Bool := (List.range (dp p v + 1)).any fun k => anc p k v == some x
theorem isAnc_iff {p : List Int} (F : Tree p) {x v : Nat} (hv : v < p.length) : isAnc p x v = true ↔ ∃ k, anc p k v = some x := by
  unfold isAnc
  rw [List.any_eq_true]
  constructor
  · rintro ⟨k, _, h⟩; exact ⟨k, by simpa using h⟩
  · rintro ⟨k, h⟩
    refine ⟨k, ?_, by simpa using h⟩
    have := anc_d F hv h
    simp; omega
/-- how it is told by depths -/
theorem isAnc_iff' {p : List Int} (F : Tree p) {x v : Nat} (hv : v < p.length) : isAnc p x v = true ↔ dp p x ≤ dp p v ∧ anc p (dp p v - dp p x) v = some x := by
  rw [isAnc_iff F hv]
  constructor
  · rintro ⟨k, h⟩
    have := anc_d F hv h
    refine ⟨by omega, ?_⟩
    rw [show dp p v - dp p x = k from by omega]; exact h
  · rintro ⟨_, h⟩; exact ⟨_, h⟩
theorem isAnc_self {p : List Int} (F : Tree p) {v : Nat} (hv : v < p.length) : isAnc p v v = true := (isAnc_iff F hv).2 ⟨0, rfl⟩
theorem isAnc_lt {p : List Int} (F : Tree p) {x v : Nat} (hv : v < p.length) (h : isAnc p x v = true) : x < p.length := by
  obtain ⟨k, hk⟩ := (isAnc_iff F hv).1 h; exact anc_lt F hv hk
theorem isAnc_trans {p : List Int} (F : Tree p) {x y v : Nat} (hv : v < p.length) (h : isAnc p x y = true) (h' : isAnc p y v = true) : isAnc p x v = true := by
  have hy := isAnc_lt F hv h'
  obtain ⟨j, hj⟩ := (isAnc_iff F hy).1 h
  obtain ⟨k, hk⟩ := (isAnc_iff F hv).1 h'
  exact (isAnc_iff F hv).2 ⟨k + j, by rw [anc_add, hk]; exact hj⟩
/-- what is above one node is a chain -/
theorem isAnc_chain {p : List Int} (F : Tree p) {x y v : Nat} (hv : v < p.length) (hx : isAnc p x v = true) (hy : isAnc p y v = true) (h : dp p x ≤ dp p y) : isAnc p x y = true := by
  have hyl := isAnc_lt F hv hy
  obtain ⟨j, hj⟩ := (isAnc_iff F hv).1 hx
  obtain ⟨k, hk⟩ := (isAnc_iff F hv).1 hy
  have h1 := anc_d F hv hj
  have h2 := anc_d F hv hk
  refine (isAnc_iff F hyl).2 ⟨j - k, ?_⟩
  have h3 : anc p (k + (j - k)) v = some x := by rw [show k + (j - k) = j from by omega]; exact hj
  rw [anc_add, hk] at h3; exact h3
theorem isAnc_eq {p : List Int} (F : Tree p) {x y v : Nat} (hv : v < p.length) (hx : isAnc p x v = true) (hy : isAnc p y v = true) (h : dp p x = dp p y) : x = y := by
  obtain ⟨j, hj⟩ := (isAnc_iff F hv).1 hx
  obtain ⟨k, hk⟩ := (isAnc_iff F hv).1 hy
  have h1 := anc_d F hv hj
  have h2 := anc_d F hv hk
  obtain rfl : j = k := by omega
  rw [hj] at hk; exact Option.some.inj hk
theorem isAnc_dep {p : List Int} (F : Tree p) {x v : Nat} (hv : v < p.length) (hx : isAnc p x v = true) : dp p x ≤ dp p v := ((isAnc_iff' F hv).1 hx).1

/-- the root above a node -/
def rootOf (p : List Int) (v : Nat) : Nat := (anc p (dp p v) v).getD 0
theorem rootOf_anc {p : List Int} (F : Tree p) {v : Nat} (hv : v < p.length) : anc p (dp p v) v = some (rootOf p v) := by
  obtain ⟨u, hu⟩ := anc_some F (dp p v) v hv (Nat.le_refl _)
  unfold rootOf; rw [hu]; rfl
theorem rootOf_lt {p : List Int} (F : Tree p) {v : Nat} (hv : v < p.length) : rootOf p v < p.length := anc_lt F hv (rootOf_anc F hv)
theorem rootOf_dep {p : List Int} (F : Tree p) {v : Nat} (hv : v < p.length) : dp p (rootOf p v) = 0 := by have := anc_d F hv (rootOf_anc F hv); omega
theorem rootOf_isAnc {p : List Int} (F : Tree p) {v : Nat} (hv : v < p.length) : isAnc p (rootOf p v) v = true := (isAnc_iff F hv).2 ⟨_, rootOf_anc F hv⟩
theorem rootOf_of {p : List Int} (F : Tree p) {x v : Nat} (hv : v < p.length) (h : isAnc p x v = true) : rootOf p x = rootOf p v := by
  have hx := isAnc_lt F hv h
  exact isAnc_eq F hv (isAnc_trans F hv (rootOf_isAnc F hx) h) (rootOf_isAnc F hv) (by rw [rootOf_dep F hx, rootOf_dep F hv])

/-- the first node of one's way up that is above the other -/
def com (p : List Int) (a b : Nat) : Option Nat := (List.range (dp p a + 1)).findSome? fun k => match anc p k a with
  | some x => if isAnc p x b then some x else none
  | none => none
theorem com_of {p : List Int} (F : Tree p) {a b c : Nat} (ha : a < p.length) (h1 : isAnc p c a = true) (h2 : isAnc p c b = true)
    (h3 : ∀ x, isAnc p x a = true → isAnc p x b = true → dp p x ≤ dp p c) : com p a b = some c := by
  obtain ⟨k, hk⟩ := (isAnc_iff F ha).1 h1
  have hd := anc_d F ha hk
  unfold com
  rw [List.findSome?_eq_some_iff]
  refine ⟨List.range k, k, List.map (k + 1 + ·) (List.range (dp p a - k)), ?_, ?_, ?_⟩
  · rw [show dp p a + 1 = (k + 1) + (dp p a - k) from by omega, List.range_add, List.range_succ, List.append_assoc]; rfl
  · rw [hk]; simp [h2]
  · intro i hi
    have hi : i < k := by simpa using hi
    cases hx : anc p i a with
    | none => rfl
    | some x =>
      by_cases hb : isAnc p x b = true
      · have := h3 x ((isAnc_iff F ha).2 ⟨i, hx⟩) hb
        have := anc_d F ha hx
        omega
      · simp [hb]
theorem com_none {p : List Int} (F : Tree p) {a b : Nat} (ha : a < p.length) (h : ∀ x, isAnc p x a = true → ¬ isAnc p x b = true) : com p a b = none := by
  unfold com
  rw [List.findSome?_eq_none_iff]
  intro i _
  cases hx : anc p i a with
  | none => rfl
  | some x => simp [h x ((isAnc_iff F ha).2 ⟨i, hx⟩)]
theorem com_some {p : List Int} (F : Tree p) {a b c : Nat} (ha : a < p.length) (h : com p a b = some c) :
    isAnc p c a = true ∧ isAnc p c b = true ∧ ∀ x, isAnc p x a = true → isAnc p x b = true → isAnc p x c = true := by
  unfold com at h
  rw [List.findSome?_eq_some_iff] at h
  obtain ⟨l1, k, l2, he, hk, hl⟩ := h
  cases hx : anc p k a with
  | none => rw [hx] at hk; cases hk
  | some x =>
    rw [hx] at hk
    by_cases hbx : isAnc p x b = true
    · simp [hbx] at hk
      subst hk
      have hxa := (isAnc_iff F ha).2 ⟨k, hx⟩
      refine ⟨hxa, hbx, fun y hya hyb => ?_⟩
      refine isAnc_chain F ha hya hxa ?_
      obtain ⟨j, hj⟩ := (isAnc_iff F ha).1 hya
      have d1 := anc_d F ha hj
      have d2 := anc_d F ha hx
      have hln : l1.length = k := by
        have := congrArg (fun l => l[l1.length]?) he
        simp only [List.getElem?_append_right (Nat.le_refl _), Nat.sub_self, List.getElem?_cons_zero] at this
        rw [List.getElem?_eq_some_iff] at this
        obtain ⟨_, h'⟩ := this
        simpa using h'
      by_cases hjk : j < k
      · exfalso
        have hm : j ∈ l1 := by
          have h4 : l1[j]? = some j := by
            have := congrArg (fun l => l[j]?) he
            simp only [List.getElem?_append_left (show j < l1.length from by omega)] at this
            rw [← this, List.getElem?_eq_some_iff]
            have : k ∈ List.range (dp p a + 1) := by rw [he]; simp
            have : k < dp p a + 1 := by simpa using this
            exact ⟨by simp; omega, by simp⟩
          exact List.mem_of_getElem? h4
        have := hl j hm
        rw [hj] at this
        simp [hyb] at this
      · omega
    · simp [hbx] at hk
theorem com_isSome {p : List Int} (F : Tree p) {a b x : Nat} (ha : a < p.length) (h1 : isAnc p x a = true) (h2 : isAnc p x b = true) : ∃ c, com p a b = some c := by
  cases h : com p a b with
  | some c => exact ⟨c, rfl⟩
  | none =>
    exfalso
    unfold com at h
    rw [List.findSome?_eq_none_iff] at h
    obtain ⟨k, hk⟩ := (isAnc_iff F ha).1 h1
    have hd := anc_d F ha hk
    have := h k (by simp; omega)
    rw [hk] at this
    simp [h2] at this
theorem com_root {p : List Int} (F : Tree p) {a b : Nat} (ha : a < p.length) (hb : b < p.length) : (com p a b).isSome = true ↔ rootOf p a = rootOf p b := by
  constructor
  · intro h
    obtain ⟨c, hc⟩ := Option.isSome_iff_exists.1 h
    have ⟨h1, h2, _⟩ := com_some F ha hc
    rw [← rootOf_of F ha h1, rootOf_of F hb h2]
  · intro h
    obtain ⟨c, hc⟩ := com_isSome F ha (rootOf_isAnc F ha) (by rw [h]; exact rootOf_isAnc F hb)
    rw [hc]; rfl
theorem com_symm {p : List Int} (F : Tree p) {a b : Nat} (ha : a < p.length) (hb : b < p.length) : com p a b = com p b a := by
  cases h : com p a b with
  | none =>
    symm; apply com_none F hb
    intro x h1 h2
    obtain ⟨c, hc⟩ := com_isSome F ha h2 h1
    rw [h] at hc; cases hc
  | some c =>
    have ⟨h1, h2, h3⟩ := com_some F ha h
    symm; apply com_of F hb h2 h1
    intro x hx hy
    have hcl := isAnc_lt F ha h1
    exact isAnc_dep F hcl (h3 x hy hx)
theorem com_self {p : List Int} (F : Tree p) {a : Nat} (ha : a < p.length) : com p a a = some a :=
  com_of F ha (isAnc_self F ha) (isAnc_self F ha) (fun _ hx _ => isAnc_dep F ha hx)

end Go.Proofs.YtpbgophogneecaaGreat

/- How a table of package lift lies in memory, and the walks of its small methods: Len, has, Depth. Conditions: the table was made by New, or it is nil or zero. -/
namespace Go.Proofs.YtpbgophogneecaaGreat
open Go.RowKit

/-- a table of a forest, below block B -/
structure TabAt (w : World) (B b : Nat) (p : List Int) : Prop where
  tree : Tree p
  small : p.length ≤ 8192
  lt : b < B
  made : w.cell? ⟨b, 0, none⟩ = some (.bool true)
  dep : ∃ db, db < B ∧ w.cell? ⟨b, 1, none⟩ = some (.slice (some ⟨db, 0, none⟩) p.length p.length) ∧ ∀ i, i < p.length → w.cell? ⟨db, i, none⟩ = some (.int .i64 (dp p i : Nat))
  jmp : ∃ jb : Nat → Nat, ∀ j, j < 13 → jb j < B ∧ w.cell? ⟨b, 2 + j, none⟩ = some (.slice (some ⟨jb j, 0, none⟩) p.length p.length) ∧ ∀ i, i < p.length → w.cell? ⟨jb j, i, none⟩ = some (.int .i64 (oi (anc p (2 ^ j) i)))

theorem TabAt.below {w w' : World} {B b : Nat} {p : List Int} (h : TabAt w B b p) (hb : Below B w w') : TabAt w' B b p where
  tree := h.tree
  small := h.small
  lt := h.lt
  made := by rw [hb.cell h.lt]; exact h.made
  dep := by
    obtain ⟨db, h1, h2, h3⟩ := h.dep
    exact ⟨db, h1, by rw [hb.cell h.lt]; exact h2, fun i hi => by rw [hb.cell h1]; exact h3 i hi⟩
  jmp := by
    obtain ⟨jb, hj⟩ := h.jmp
    exact ⟨jb, fun j hj' => ⟨(hj j hj').1, by rw [hb.cell h.lt]; exact (hj j hj').2.1, fun i hi => by rw [hb.cell (hj j hj').1]; exact (hj j hj').2.2 i hi⟩⟩
theorem TabAt.mono {w : World} {B B' b : Nat} {p : List Int} (h : TabAt w B b p) (hB : B ≤ B') : TabAt w B' b p where
  tree := h.tree
  small := h.small
  lt := Nat.lt_of_lt_of_le h.lt hB
  made := h.made
  dep := by
    obtain ⟨db, h1, h2, h3⟩ := h.dep
    exact ⟨db, Nat.lt_of_lt_of_le h1 hB, h2, h3⟩
  jmp := by
    obtain ⟨jb, hj⟩ := h.jmp
    exact ⟨jb, fun j hj' => ⟨Nat.lt_of_lt_of_le (hj j hj').1 hB, (hj j hj').2.1, (hj j hj').2.2⟩⟩

def inB (p : List Int) (v : Int) : Bool := decide (0 ≤ v ∧ v < p.length)

end Go.Proofs.YtpbgophogneecaaGreat

/- Slices in memory: a slice that reads as a list of numbers, whatever its address; rows that a call owns, and a family of them that grows by append. No conditions. -/
namespace Go.Proofs.YtpbgophogneecaaGreat
open Go.RowKit

/-- a number of a list of natural numbers -/
def nat64 (u : Nat) : Value := .int .i64 u

/-- a row other than the one that was appended to lies apart from the new one, too -/
theorem own_sep {w : World} {base : Nat} {e : TypeId} {size : Nat} {v x : Value} {m g : Nat} {ys : List Value} {n cap : Nat} (hx : w.ownsRow base e size x m ys) (hv : Moved w v g)
    (h : x.ownBlock = none ∨ x.ownBlock ≠ v.ownBlock) : x.ownBlock = none ∨ x.ownBlock ≠ (Value.slice (some ⟨g, 0, none⟩) n cap).ownBlock := by
  rcases h with h | h
  · exact .inl h
  · right
    show x.ownBlock ≠ some g
    rcases hv with hv | hv
    · rw [← hv]; exact h
    · intro e
      have := (hx.lt _ e).2
      omega
theorem own_sep' {w : World} {base : Nat} {e : TypeId} {size : Nat} {v x : Value} {m g : Nat} {ys : List Value} {n cap : Nat} (hx : w.ownsRow base e size x m ys) (hv : Moved w v g)
    (h : x.ownBlock = none ∨ x.ownBlock ≠ v.ownBlock) : (Value.slice (some ⟨g, 0, none⟩) n cap).ownBlock = none ∨ (Value.slice (some ⟨g, 0, none⟩) n cap).ownBlock ≠ x.ownBlock := by
  rcases own_sep (n := n) (cap := cap) hx hv h with h | h
  · right; rw [h]; intro e; cases e
  · exact .inr (fun e => h e.symm)

theorem Tryz.infoLI : (Tryz.prog.info? 46).map (fun i => (i.zero, i.size, i.bytes)) = some (some (.slice none 0 0), 1, 24) := by kernel_rfl

/-- what a row that a call owns looks like -/
theorem own_view {w : World} {base : Nat} {e : TypeId} {v : Value} {n : Nat} {xs : List Value} (h : w.ownsRow base e 1 v n xs) :
    ∃ a cap, v = .slice a n cap ∧ ∀ i u, xs[i]? = some u → ∃ g, a = some ⟨g, 0, none⟩ ∧ base ≤ g ∧ g < w.heap.size ∧ w.cell? ⟨g, i, none⟩ = some u ∧ w.frozen? ⟨g, i, none⟩ = false := by
  have hl := h.1
  rcases h.2 with ⟨rfl, h0⟩ | ⟨g, cap, cur, rfl, hb, hg, hn, hm, hs, ht⟩
  · subst h0
    exact ⟨none, 0, rfl, fun i u hi => absurd (List.getElem?_eq_some_iff.1 hi).1 (by omega)⟩
  · refine ⟨_, cap, rfl, fun i u hi => ⟨g, rfl, hb, (Array.getElem?_eq_some_iff.1 hg).1, ?_, by simp [World.frozen?, hg]⟩⟩
    simp only [World.cell?, hg, Option.isSome_none, Bool.false_eq_true, if_false]
    rw [← ht, List.getElem?_take] at hi
    split at hi
    · rw [Array.getElem?_toList] at hi; exact hi
    · cases hi
theorem map_at {l : List Nat} {i : Nat} (h : i < l.length) : (l.map nat64)[i]? = some (nat64 l[i]) := by simp [h]
/-- the family of the rows of children, and the queue -/
structure Fam (w : World) (base c n : Nat) (V : Nat → Value) (K : Nat → List Nat) (q : Value) (Q : List Nat) : Prop where
  row : w.rowIs c 46 n V
  cb : c < base
  own : ∀ u, u < n → w.ownsRow base 3 1 (V u) (K u).length ((K u).map nat64)
  qown : w.ownsRow base 3 1 q Q.length (Q.map nat64)
  sep : ∀ u u', u < n → u' < n → u ≠ u' → (V u).ownBlock = none ∨ (V u).ownBlock ≠ (V u').ownBlock
  sepq : ∀ u, u < n → (V u).ownBlock = none ∨ (V u).ownBlock ≠ q.ownBlock

variable {w : World} {base c n : Nat} {V : Nat → Value} {K : Nat → List Nat} {q : Value} {Q : List Nat}

theorem Fam.start (hr : w.rowIs c 46 n (fun _ => .slice none 0 0)) (hc : c < base) : Fam w base c n (fun _ => .slice none 0 0) (fun _ => []) (.slice none 0 0) [] where
  row := hr
  cb := hc
  own := fun _ _ => World.ownsRow_nil _ _ _ _
  qown := World.ownsRow_nil _ _ _ _
  sep := fun _ _ _ _ _ => .inl rfl
  sepq := fun _ _ => .inl rfl
theorem Fam.alloc (F : Fam w base c n V K q Q) (o : Obj) : Fam (w.alloc o) base c n V K q Q where
  row := F.row.alloc o
  cb := F.cb
  own := fun u hu => (F.own u hu).alloc o
  qown := F.qown.alloc o
  sep := F.sep
  sepq := F.sepq
/-- a store below the rows, beside the block of their values -/
theorem Fam.store (F : Fam w base c n V K q Q) {a : Addr} (ha : a.block < base) (hc : c ≠ a.block) (x : Value) : Fam (w.setCell a x) base c n V K q Q where
  row := F.row.setOther hc x
  cb := F.cb
  own := fun u hu => ownsRow_setCell_below (F.own u hu) ha x
  qown := ownsRow_setCell_below F.qown ha x
  sep := F.sep
  sepq := F.sepq
/-- the queue has been appended to -/
theorem Fam.push (F : Fam w base c n V K q Q) {w1 : World} {g m cap x : Nat} (hown : w1.ownsRow base 3 1 (.slice (some ⟨g, 0, none⟩) m cap) (Q.length + 1) (Q.map nat64 ++ [nat64 x])) (hg : w.grownBy w1 q.ownBlock)
    (hv : Moved w q g) : Fam w1 base c n V K (.slice (some ⟨g, 0, none⟩) m cap) (Q ++ [x]) where
  row := F.row.of_block (hg.block c F.row.lt (fun e => by have := (F.qown.lt c e.symm).1; have := F.cb; omega))
  cb := F.cb
  own := fun u hu => (F.own u hu).kept hg (F.sepq u hu)
  qown := by simpa using hown
  sep := F.sep
  sepq := fun u hu => own_sep (F.own u hu) hv (F.sepq u hu)
/-- the block of the rows' values lies as it lay when a row is appended to -/
theorem Fam.still (F : Fam w base c n V K q Q) {w1 : World} {p : Nat} (hp : p < n) (hg : w.grownBy w1 (V p).ownBlock) : w1.rowIs c 46 n V :=
  F.row.of_block (hg.block c F.row.lt (fun e => by have := ((F.own p hp).lt c e.symm).1; have := F.cb; omega))
/-- a row of the family has been appended to, and its new value stored -/
theorem Fam.add (F : Fam w base c n V K q Q) {w1 : World} {g m cap : Nat} {p x : Nat} (hp : p < n) (hown : w1.ownsRow base 3 1 (.slice (some ⟨g, 0, none⟩) m cap) ((K p).length + 1) ((K p).map nat64 ++ [nat64 x])) (hg : w.grownBy w1 (V p).ownBlock)
    (hv : Moved w (V p) g) : Fam (w1.setCell ⟨c, p, none⟩ (.slice (some ⟨g, 0, none⟩) m cap)) base c n (fun u => if u = p then .slice (some ⟨g, 0, none⟩) m cap else V u) (fun u => if u = p then K u ++ [x] else K u) q Q where
  row := (F.still hp hg).set p _
  cb := F.cb
  own := fun u hu => by
    refine ownsRow_setCell_below ?_ (by exact F.cb) _
    by_cases e : u = p
    · subst e; simpa using hown
    · simp only [if_neg e]; exact (F.own u hu).kept hg (F.sep u p hu hp e)
  qown := by
    refine ownsRow_setCell_below ?_ (by exact F.cb) _
    refine F.qown.kept hg ?_
    rcases F.sepq p hp with h | h
    · cases hq : q.ownBlock with
      | none => exact .inl rfl
      | some b => right; rw [h]; simp
    · exact .inr (fun e => h e.symm)
  sep := fun u u' hu hu' hne => by
    by_cases e : u = p
    · subst e
      have e' : u' ≠ u := fun h => hne h.symm
      simp only [if_true, if_neg e']
      exact own_sep' (F.own u' hu') hv (F.sep u' u hu' hu e')
    · simp only [if_neg e]
      by_cases e' : u' = p
      · subst e'; simp only [if_true]; exact own_sep (F.own u hu) hv (F.sep u u' hu hu' e)
      · simp only [if_neg e']; exact F.sep u u' hu hu' hne
  sepq := fun u hu => by
    by_cases e : u = p
    · subst e
      simp only [if_true]
      right
      show some g ≠ q.ownBlock
      rcases hv with hv | hv
      · rw [← hv]
        rcases F.sepq u hu with h | h
        · rw [hv] at h; cases h
        · exact h
      · intro e2
        have := (F.qown.lt _ e2.symm).2; omega
    · simp only [if_neg e]; exact F.sepq u hu
end Go.Proofs.YtpbgophogneecaaGreat

/- Plain mathematics of the breadth first search that finds the depths of a forest, and finds out whether there is one. No program is in sight. No conditions. -/
namespace Go.Proofs.YtpbgophogneecaaGreat

/-- the roots among the first k nodes, the children among the first k nodes -/
def rootsTo (p : List Int) (k : Nat) : List Nat := (List.range k).filter fun u => pa p u == none
def kidsTo (p : List Int) (k v : Nat) : List Nat := (List.range k).filter fun u => pa p u == some v
def kids (p : List Int) (v : Nat) : List Nat := kidsTo p p.length v

theorem rootsTo_succ (p : List Int) (k : Nat) : rootsTo p (k + 1) = if pa p k = none then rootsTo p k ++ [k] else rootsTo p k := by
  simp only [rootsTo, List.range_succ, List.filter_append, List.filter_cons, List.filter_nil]
  by_cases h : pa p k = none <;> simp [h]
theorem kidsTo_succ (p : List Int) (k v : Nat) : kidsTo p (k + 1) v = if pa p k = some v then kidsTo p k v ++ [k] else kidsTo p k v := by
  simp only [kidsTo, List.range_succ, List.filter_append, List.filter_cons, List.filter_nil]
  by_cases h : pa p k = some v <;> simp [h]
theorem rootsTo_len (p : List Int) (k : Nat) : (rootsTo p k).length ≤ k := by
  have := List.length_filter_le (fun u => pa p u == none) (List.range k); simpa [rootsTo] using this
theorem kidsTo_len (p : List Int) (k v : Nat) : (kidsTo p k v).length ≤ k := by
  have := List.length_filter_le (fun u => pa p u == some v) (List.range k); simpa [kidsTo] using this
theorem mem_kids {p : List Int} {v u : Nat} : u ∈ kids p v ↔ pa p u = some v := by
  simp only [kids, kidsTo, List.mem_filter, List.mem_range, beq_iff_eq]
  exact ⟨fun h => h.2, fun h => ⟨pa_lt h, h⟩⟩
theorem kids_nodup (p : List Int) (v : Nat) : (kids p v).Nodup := List.nodup_range.filter _

/-- the queue, when i of its nodes have been taken -/
structure Bfs (p : List Int) (i : Nat) (Q : List Nat) : Prop where
  nodup : Q.Nodup
  lt : ∀ u ∈ Q, u < p.length
  le : i ≤ Q.length
  root : ∀ u, u < p.length → pa p u = none → u ∈ Q
  kid : ∀ u x, pa p u = some x → (u ∈ Q ↔ x ∈ Q.take i)

theorem Bfs.start (p : List Int) : Bfs p 0 (rootsTo p p.length) where
  nodup := List.nodup_range.filter _
  lt := fun u h => by simp [rootsTo] at h; exact h.1
  le := Nat.zero_le _
  root := fun u h h' => by simp [rootsTo, h, h']
  kid := fun u x h => by simp [rootsTo, h]

theorem Bfs.fresh {p : List Int} {i : Nat} {Q : List Nat} (B : Bfs p i Q) (hi : i < Q.length) {u : Nat} (h : pa p u = some Q[i]) : u ∉ Q := by
  rw [B.kid u _ h]
  intro hm
  obtain ⟨j, hj, he⟩ := List.mem_iff_getElem.1 hm
  have hj' : j < i := by simp at hj; omega
  rw [List.getElem_take] at he
  have := (List.nodup_iff_pairwise_ne.1 B.nodup)
  rw [List.pairwise_iff_getElem] at this
  exact this j i (by omega) hi hj' he

theorem Bfs.step {p : List Int} {i : Nat} {Q : List Nat} (B : Bfs p i Q) (hi : i < Q.length) : Bfs p (i + 1) (Q ++ kids p Q[i]) where
  nodup := by
    rw [List.nodup_append]
    refine ⟨B.nodup, kids_nodup p _, fun a ha b hb e => ?_⟩
    subst e
    exact B.fresh hi (mem_kids.1 hb) ha
  lt := fun u h => by
    rw [List.mem_append] at h
    rcases h with h | h
    · exact B.lt u h
    · exact pa_lt (mem_kids.1 h)
  le := by simp; omega
  root := fun u h h' => List.mem_append_left _ (B.root u h h')
  kid := fun u x h => by
    have e : (Q ++ kids p Q[i]).take (i + 1) = Q.take i ++ [Q[i]] := by
      rw [List.take_append_of_le_length (by omega), List.take_succ_eq_append_getElem hi]
    rw [e, List.mem_append, List.mem_append, B.kid u x h, mem_kids, h]
    simp only [Option.some.injEq, List.mem_singleton]

theorem Bfs.len {p : List Int} {i : Nat} {Q : List Nat} (B : Bfs p i Q) : Q.length ≤ p.length := nodup_le _ _ B.nodup B.lt

/-- a list of n different numbers below n holds them all -/
theorem full_of_len {n : Nat} {l : List Nat} (hn : l.Nodup) (h : ∀ x ∈ l, x < n) (hl : l.length = n) : ∀ u, u < n → u ∈ l := by
  intro u hu
  by_cases hm : u ∈ l
  · exact hm
  · exfalso
    have := nodup_le n (u :: l) (List.nodup_cons.2 ⟨hm, hn⟩) (fun x hx => by
      rcases List.mem_cons.1 hx with e | hx
      · omega
      · exact h x hx)
    simp at this; omega

/-- the depths that have been found -/
structure Dep (p : List Int) (Q : List Nat) (D : Nat → Nat) : Prop where
  root : ∀ u ∈ Q, pa p u = none → D u = 0
  kid : ∀ u ∈ Q, ∀ x, pa p u = some x → x ∈ Q ∧ D u = D x + 1
  le : ∀ u, D u ≤ Q.length

theorem Dep.start (p : List Int) : Dep p (rootsTo p p.length) (fun _ => 0) where
  root := fun _ _ _ => rfl
  kid := fun u h x hx => by simp [rootsTo, hx] at h
  le := fun _ => Nat.zero_le _
theorem Dep.step {p : List Int} {Q : List Nat} {D : Nat → Nat} (h : Dep p Q D) {c v : Nat} (hc : c ∉ Q) (hv : v ∈ Q) (hp : pa p c = some v) : Dep p (Q ++ [c]) (fun u => if u = c then D v + 1 else D u) where
  root := fun u hu hr => by
    rw [List.mem_append, List.mem_singleton] at hu
    by_cases e : u = c
    · subst e; rw [hp] at hr; cases hr
    · rw [if_neg e]; exact h.root u (hu.resolve_right e) hr
  kid := fun u hu x hx => by
    rw [List.mem_append, List.mem_singleton] at hu
    by_cases e : u = c
    · subst e
      rw [hp] at hx; cases hx
      have : v ≠ u := fun e => hc (e ▸ hv)
      exact ⟨List.mem_append_left _ hv, by rw [if_pos rfl, if_neg this]⟩
    · have h1 := h.kid u (hu.resolve_right e) x hx
      have : x ≠ c := fun e => hc (e ▸ h1.1)
      exact ⟨List.mem_append_left _ h1.1, by rw [if_neg e, if_neg this]; exact h1.2⟩
  le := fun u => by
    have h1 := h.le v
    have h2 := h.le u
    simp only [List.length_append, List.length_cons, List.length_nil]
    by_cases e : u = c
    · rw [if_pos e]; omega
    · rw [if_neg e]; omega

/-- at the end: all nodes have been found exactly if it is a forest, and the depths are those of the forest -/
theorem Bfs.done_tree {p : List Int} {Q : List Nat} (B : Bfs p Q.length Q) (F : Tree p) : Q.length = p.length := by
  have all : ∀ k u, u < p.length → dp p u = k → u ∈ Q := by
    intro k
    induction k with
    | zero =>
      intro u hu hd
      cases hp : pa p u with
      | none => exact B.root u hu hp
      | some x => have := F.up u x hu hp; omega
    | succ k ih =>
      intro u hu hd
      cases hp : pa p u with
      | none => exact B.root u hu hp
      | some x =>
        have h1 := F.up u x hu hp
        rw [B.kid u x hp, List.take_length]
        exact ih x (F.rng u x hu hp) (by omega)
  have h1 := B.len
  have h2 := nodup_le Q.length (List.range p.length) List.nodup_range
  by_cases e : Q.length = p.length
  · exact e
  · exfalso
    -- were there fewer, a node would be missing
    have h3 : p.length ≤ Q.length := by
      have hsub : ∀ x ∈ List.range p.length, x ∈ Q := fun x hx => all _ x (by simpa using hx) rfl
      have := (List.nodup_range (n := p.length)).length_le_of_subset hsub
      simpa using this
    omega
theorem Bfs.done_forest {p : List Int} {Q : List Nat} {D : Nat → Nat} (B : Bfs p Q.length Q) (hD : Dep p Q D) (hr : ∀ v u, pa p v = some u → u < p.length) (hl : Q.length = p.length) : Forest p D := by
  have all := full_of_len B.nodup B.lt hl
  exact ⟨fun v u _ h => hr v u h, fun v u hv h => (hD.kid v (all v hv) u h).2, fun v hv h => hD.root v (all v hv) h⟩
end Go.Proofs.YtpbgophogneecaaGreat

/- The walk of depths of package lift: the breadth first search. Conditions: at most 8193 parents, each -1 or a node. -/
namespace Go.Proofs.YtpbgophogneecaaGreat
open Go.RowKit

/-- each parent is -1 or a node -/
def InRange (p : List Int) : Prop := ∀ i, i < p.length → -1 ≤ nth p i ∧ nth p i < p.length
theorem nth_pa {p : List Int} {i : Nat} (hi : i < p.length) (h : InRange p) : nth p i = oi (pa p i) := by
  rw [oi_pa hi, nth_eq hi]
  rw [← nth_eq hi]; exact (h i hi).1
theorem InRange.lt {p : List Int} (h : InRange p) {u x : Nat} (hx : pa p u = some x) : x < p.length := by
  have hu := pa_lt hx
  have h1 := (h u hu).2
  rw [nth_pa hu h, hx] at h1
  simp only [oi] at h1; omega

/-- what depths leaves -/
def DepthsPost (p : List Int) (w : World) (e : Ending) (w' : World) : Prop :=
  ∃ (D : Nat → Nat) (ok : Bool) (db : Nat), e = .returned (.tuple #[.slice (some ⟨db, 0, none⟩) p.length p.length, .bool ok]) ∧ w.heap.size ≤ db ∧ w'.rowIs db 3 p.length (fun i => nat64 (D i)) ∧ Below w.heap.size w w' ∧
    (ok = true → Forest p D) ∧ (Tree p → ok = true)

set_option maxRecDepth 100000 in
set_option maxHeartbeats 4000000 in
theorem depths_any (B : Nat) (a : Option Addr) (cap : Nat) (A : Nat → Addr) (p : List Int) (w : World) (hp : p.length ≤ 8193) (hR : InRange p) (hS : Sl 46 .i64 w B (.slice a p.length cap) p A) (hB : B ≤ w.heap.size) :
    Calls Tryz.prog 40 #[.slice a p.length cap] w (DepthsPost p w) := by
  have hmk1 := run_make_row' (P := Tryz.prog) 68 46 (.slice none 0 0) 24 Tryz.underlying68 Tryz.infoLI rfl .i64 .i64 p.length (by omega) (by omega)
  have hmk2 := run_make_row' (P := Tryz.prog) 46 3 (.int .i64 0) 8 Tryz.underlying46 Tryz.infoI rfl .i64 .i64 p.length (by omega) (by omega)
  go_enter Tryz.func40, Tryz.ntmps40
  go_wp2
  have hB2 : Below w.heap.size w ((w.alloc (.cells (madeCells #[.slice none 0 0] p.length) 46)).alloc (.cells (madeCells #[.int .i64 0] p.length) 3)) := ((Below.refl _ w).alloc (Nat.le_refl _) _).alloc (by simp) _
  have hF0 : Fam ((w.alloc (.cells (madeCells #[.slice none 0 0] p.length) 46)).alloc (.cells (madeCells #[.int .i64 0] p.length) 3)) (w.heap.size + 2) w.heap.size p.length (fun _ => .slice none 0 0) (fun _ => []) (.slice none 0 0) [] :=
    Fam.start ((World.rowIs_made w _ _ _).alloc _) (by omega)
  have hD0 : ((w.alloc (.cells (madeCells #[.slice none 0 0] p.length) 46)).alloc (.cells (madeCells #[.int .i64 0] p.length) 3)).rowIs (w.heap.size + 1) 3 p.length (fun _ => nat64 0) := by
    have := World.rowIs_made (w.alloc (.cells (madeCells #[.slice none 0 0] p.length) 46)) (.int .i64 0) p.length 3
    rw [World.size_alloc] at this; exact this
  have hsz0 : ((w.alloc (.cells (madeCells #[.slice none 0 0] p.length) 46)).alloc (.cells (madeCells #[.int .i64 0] p.length) 3)).heap.size = w.heap.size + 2 := by simp
  generalize ((w.alloc (.cells (madeCells #[.slice none 0 0] p.length) 46)).alloc (.cells (madeCells #[.int .i64 0] p.length) 3)) = W0 at *
  clear hmk1 hmk2
  go_loopw [7, 22] (fun q i wr => ∃ (k : Nat) (V : Nat → Value), k ≤ p.length ∧ i = .int .i64 k ∧ Fam wr (w.heap.size + 2) w.heap.size p.length V (fun u => kidsTo p k u) q (rootsTo p k) ∧ wr.rowIs (w.heap.size + 1) 3 p.length (fun _ => nat64 0) ∧ Below w.heap.size w wr ∧ w.heap.size + 2 ≤ wr.heap.size)
    (fun _ i _ => p.length - (intOf i).toNat)
  case atStart => exact ⟨0, _, Nat.zero_le _, rfl, hF0, hD0, hB2, by omega⟩
  case round =>
    obtain ⟨k, V, hk, rfl, hF, hD, hBr, hzr⟩ := hrel
    by_cases hlt : k < p.length
    · have hix := hS.ix k hlt
      have hc0 := Sl.at (hS.below (hBr.mono hB)) hlt
      have hnx := nth_pa hlt hR
      cases hpk : pa p k with
      | none =>
        rw [hpk] at hnx
        rw [hnx] at hc0
        replace hc0 : wr.cell? (A k) = some (.int .i64 (-1)) := hc0
        have HR := Lib.hid (rootsTo_succ p k)
        have HK := Lib.hid (kidsTo_succ p k)
        have HP := Lib.hid hpk
        have hlen := rootsTo_len p k
        clear hnx hpk
        go_wp2_with (at_builtin; refine push etI rfl _ _ rfl (w.heap.size + 2) _ _ _ hF.qown rfl #[nat64 k] _ rfl rfl rfl (by simp [nat64, Value.oneCell']) (by omega) (by omega) (by omega) ?_; intro g cp w1 hown1 hg1 hv1)
        have hF1 := hF.push hown1 hg1 hv1
        have hlb := hF.qown.lt
        clear hown1 hv1
        go_roundw
        case rel =>
          refine ⟨k + 1, V, by omega, by go_num, ?_, hD.of_block (hg1.block _ hD.lt (fun e => by have := (hlb _ e.symm).1; omega)), hBr.grown hg1 hBr.size (fun j e => by have := (hlb j e).1; omega), by have := hg1.size; omega⟩
          have e1 : rootsTo p (k + 1) = rootsTo p k ++ [k] := by rw [HR.out, if_pos HP.out]
          have e2 : (fun u => kidsTo p (k + 1) u) = fun u => kidsTo p k u := by funext u; rw [HK.out, HP.out, if_neg (by simp)]
          rw [e1, e2]; exact hF1
        case measure => simp [intOf]; omega
      | some x =>
        rw [hpk] at hnx
        rw [hnx] at hc0
        replace hc0 : wr.cell? (A k) = some (.int .i64 x) := hc0
        have hxl := hR.lt hpk
        have hxi : (0 : Int) ≤ x ∧ (x : Int) < p.length := by omega
        have hcx := hF.row.cell hxl
        have HR := Lib.hid (rootsTo_succ p k)
        have HK := Lib.hid (kidsTo_succ p k)
        have HP := Lib.hid hpk
        have hlen := kidsTo_len p k x
        clear hnx hpk
        go_wp2_with (at_builtin; refine push etI rfl _ _ rfl (w.heap.size + 2) _ _ _ (hF.own x hxl) rfl #[nat64 k] _ rfl rfl rfl (by simp [nat64, Value.oneCell']) (by omega) (by omega) (by omega) ?_; intro g cp w1 hown1 hg1 hv1; have hst := hF.still hxl hg1; have hcell1 := hst.cell hxl; have hfr1 := hst.frozen x; have hF1 := hF.add hxl hown1 hg1 hv1; have hlb := (hF.own x hxl).lt; clear hst hown1 hv1)
        go_roundw
        case rel =>
          refine ⟨k + 1, fun u => if u = x then .slice (some ⟨g, 0, none⟩) ((kidsTo p k x).length + 1) cp else V u, by omega, by go_num, ?_, (hD.of_block (hg1.block _ hD.lt (fun e => by have := (hlb _ e.symm).1; omega))).setOther (by simp) _,
            (hBr.grown hg1 hBr.size (fun j e => by have := (hlb j e).1; omega)).setCell (p := ⟨w.heap.size, x, none⟩) (Nat.le_refl _) _, by have := hg1.size; simp; omega⟩
          have e1 : rootsTo p (k + 1) = rootsTo p k := by rw [HR.out, HP.out, if_neg (by simp)]
          have e2 : (fun u => kidsTo p (k + 1) u) = fun u => if u = x then kidsTo p k u ++ [k] else kidsTo p k u := by
            funext u; rw [HK.out, HP.out]
            by_cases hu : u = x
            · rw [if_pos hu, if_pos (by rw [hu])]
            · rw [if_neg hu, if_neg (by simpa using fun e => hu e.symm)]
          rw [e1, e2]; exact hF1
        case measure => simp [intOf]; omega
    · obtain rfl : k = p.length := by omega
      clear hF0 hD0 hsz0 hB2 hlt hk
      have hFk : Fam wr (w.heap.size + 2) w.heap.size p.length V (kids p) u7 (rootsTo p p.length) := hF
      clear hF
      go_wp2
      go_loopw [7, 10] (fun q i wx => ∃ (k : Nat) (Q : List Nat) (D : Nat → Nat), i = .int .i64 k ∧ Bfs p k Q ∧ Dep p Q D ∧ Fam wx (w.heap.size + 2) w.heap.size p.length V (kids p) q Q ∧ wx.rowIs (w.heap.size + 1) 3 p.length (fun i => nat64 (D i)) ∧ Below w.heap.size w wx ∧ w.heap.size + 2 ≤ wx.heap.size)
        (fun _ i _ => p.length - (intOf i).toNat)
      case atStart => exact ⟨0, _, _, rfl, Bfs.start p, Dep.start p, hFk, hD, hBr, hzr⟩
      case round =>
        clear hFk hD hBr hzr
        obtain ⟨i, Q, D, rfl, hQ, hDep, hF, hD, hBr, hzr⟩ := hrel
        obtain ⟨wo, rfl⟩ : ∃ wo : World, wo = wr := ⟨_, rfl⟩
        have hQl := hQ.len
        have hil := hQ.le
        obtain ⟨aq, cq, hqv, hqc⟩ := own_view hF.qown
        by_cases hlt : i < Q.length
        · have hul := hQ.lt _ (List.getElem_mem hlt)
          obtain ⟨gq, rfl, _, _, hcq, _⟩ := hqc i _ (map_at hlt)
          have hfresh := fun c (h : pa p c = some Q[i]) => hQ.fresh hlt h
          have hum : Q[i] ∈ Q := List.getElem_mem hlt
          have HQ := Lib.hid (hQ.step hlt)
          clear hQ hqc
          generalize Q[i] = u at *
          obtain ⟨au, cu, hVu, hVc⟩ := own_view (hF.own u hul)
          have hcu := hF.row.cell hul
          rw [hVu] at hcu
          have hui : (0 : Int) ≤ u ∧ (u : Int) < p.length := by omega
          have hii : (0 : Int) ≤ i ∧ (i : Int) < Q.length := by omega
          have hkl := kidsTo_len p p.length u
          replace hkl : (kids p u).length ≤ p.length := hkl
          have HV := Lib.hid hVu
          replace hcq : wo.cell? ⟨gq, i, none⟩ = some (.int .i64 u) := hcq
          clear hVu
          rw [hqv] at hF ⊢
          clear hqv
          go_wp2
          go_loopw [7, 59] (fun q jv wx => ∃ (j : Nat) (D : Nat → Nat), j ≤ (kids p u).length ∧ jv = .int .i64 j ∧ Dep p (Q ++ (kids p u).take j) D ∧ Fam wx (w.heap.size + 2) w.heap.size p.length V (kids p) q (Q ++ (kids p u).take j) ∧ wx.rowIs (w.heap.size + 1) 3 p.length (fun i => nat64 (D i)) ∧ Below w.heap.size w wx ∧ w.heap.size + 2 ≤ wx.heap.size)
            (fun _ jv _ => (kids p u).length - (intOf jv).toNat)
          case atStart => exact ⟨0, D, Nat.zero_le _, rfl, by simpa using hDep, by simpa using hF, hD, hBr, hzr⟩
          case round =>
            clear hDep hF hD hBr hzr hcq hcu hVc
            obtain ⟨j, E, hj, rfl, hDep, hF, hD, hBr, hzr⟩ := hrel
            have hEl := hDep.le u
            have hDl := hD.cell hul
            by_cases hjl : j < (kids p u).length
            · have hck : (kids p u)[j] ∈ kids p u := List.getElem_mem hjl
              have hpc := mem_kids.1 hck
              have hcl := pa_lt hpc
              have hown := hF.own u hul
              rw [HV.out] at hown
              obtain ⟨au', cu', hVe, hVc⟩ := own_view hown
              obtain ⟨gu, hau, _, _, hcc, _⟩ := hVc j _ (map_at hjl)
              simp only [Value.slice.injEq] at hVe
              obtain ⟨rfl, _, _⟩ := hVe
              subst hau
              have htk : (kids p u).take (j + 1) = (kids p u).take j ++ [(kids p u)[j]] := List.take_succ_eq_append_getElem hjl
              have hnew : (kids p u)[j] ∉ Q ++ (kids p u).take j := by
                rw [List.mem_append]
                rintro (h | h)
                · exact hfresh _ hpc h
                · have hnd := kids_nodup p u
                  rw [← List.take_append_drop j (kids p u), List.nodup_append] at hnd
                  exact hnd.2.2 _ h _ (by rw [List.drop_eq_getElem_cons hjl]; exact List.mem_cons_self) rfl
              have HT := Lib.hid htk
              have HDS := Lib.hid (hDep.step hnew (List.mem_append_left _ hum) hpc)
              have hlq : (Q ++ (kids p u).take j).length ≤ p.length + p.length := by simp; omega
              clear htk hck hVc hnew hpc hDep
              generalize (kids p u)[j] = c at *
              have hci : (0 : Int) ≤ c ∧ (c : Int) < p.length := by omega
              have hji : (0 : Int) ≤ j ∧ (j : Int) < (kids p u).length := by omega
              have hDc := hD.cell hcl
              have hDf := hD.frozen c
              replace hcc : wr.cell? ⟨gu, j, none⟩ = some (.int .i64 c) := hcc
              replace hDl : wr.cell? ⟨w.heap.size + 1, u, none⟩ = some (.int .i64 (E u)) := hDl
              have hF2 := hF.store (a := ⟨w.heap.size + 1, c, none⟩) (by simp) (by simp) (.int .i64 ((E u : Int) + 1))
              go_wp2_with (at_builtin; refine push etI rfl _ _ rfl (w.heap.size + 2) _ _ _ hF2.qown rfl #[nat64 c] _ rfl (by simp) rfl (by simp [nat64, Value.oneCell']) (by omega) (by omega) (by simp; omega) ?_; intro g cp w1 hown1 hg1 hv1)
              have hF3 := hF2.push hown1 hg1 hv1
              have hle2 : (Q ++ (kids p u).take j).length = Q.length + j := by simp; omega
              rw [hle2] at hF3
              have hlb := hF.qown.lt
              have hD2 := hD.set c (nat64 (E u + 1))
              have hD3 := hD2.of_block (hg1.block _ hD2.lt (fun e => by have := (hlb _ e.symm).1; omega))
              have hB3 := (hBr.setCell (p := ⟨w.heap.size + 1, c, none⟩) (by simp) (.int .i64 ((E u : Int) + 1))).grown hg1 (by have := hBr.size; simp; omega) (fun j e => by have := (hlb j e).1; omega)
              have hz3 := hg1.size
              rw [World.size_setCell] at hz3
              refine ⟨⟨_, _, _, ⟨j + 1, by omega, rfl, _, by rw [HT.out, ← List.append_assoc]; exact HDS.out, by rw [HT.out, ← List.append_assoc]; exact hF3, ?_, hB3, by omega⟩, rfl, rfl, by go_num⟩, by simp [intOf]; omega⟩
              exact hD3.congr (fun i _ => by by_cases e : i = c <;> simp [e])
            · obtain rfl : j = (kids p u).length := by omega
              rw [List.take_length] at hDep hF
              go_wp2
              go_roundw
              case rel => exact ⟨i + 1, _, _, by go_num, HQ.out, hDep, hF, hD, hBr, hzr⟩
              case measure => simp [intOf]; omega
        · obtain rfl : i = Q.length := by omega
          have hdone1 := Lib.hid (fun F => hQ.done_tree F)
          have hdone2 := Lib.hid (fun h => hQ.done_forest hDep (fun v u h => hR.lt h) h)
          clear hQ hDep
          rw [hqv]
          clear hqv hqc hF
          go_wp2
          go_ret2
          exact ⟨D, ((Q.length : Int) == (p.length : Int)), w.heap.size + 1, rfl, by omega, hD, hBr, fun h => hdone2.out (by have := eq_of_beq h; omega), fun F => by rw [hdone1.out F]; simp⟩
end Go.Proofs.YtpbgophogneecaaGreat

/- The walk of New of package lift. Conditions: at most 8193 parents are given as cells; the answer is an error exactly where there is no such forest. -/
namespace Go.Proofs.YtpbgophogneecaaGreat
open Go.RowKit

def inRB (p : List Int) : Bool := (List.range p.length).all fun i => decide (-1 ≤ nth p i ∧ nth p i < p.length)
theorem inRB_iff {p : List Int} : inRB p = true ↔ InRange p := by
  simp [inRB, InRange]
theorem treeB_iff {p : List Int} : treeB p = true ↔ Tree p := by
  refine ⟨tree_of_B, fun F => ?_⟩
  unfold treeB
  rw [List.all_eq_true]
  intro v hv
  have hv : v < p.length := by simpa using hv
  cases hp : pa p v with
  | none => simpa using F.root v hv hp
  | some u => simp only [Bool.and_eq_true, decide_eq_true_eq, beq_iff_eq]; exact ⟨F.rng v u hv hp, F.up v u hv hp⟩
/-- the error that New returns -/
def newE (p : List Int) : Int := if 8192 < p.length then 2 else if inRB p then (if treeB p then 0 else 9) else 3

set_option maxHeartbeats 1000000 in
theorem new_arg (a : Option Addr) (n cap : Nat) (w : World) (hn : 8192 < n) (hm : n ≤ 9223372036854775807) :
    Calls Tryz.prog 16 #[.slice a n cap] w fun e w' => e = .returned (.tuple #[.pointer none, .int .i64 2]) ∧ w = w' := by
  have hb : decide (8192 < n) = true := by simpa using hn
  go_enter Tryz.func16, Tryz.ntmps16
  go_wp2
  go_ret2
  exact ⟨rfl, rfl⟩

set_option maxHeartbeats 1000000 in
theorem new_range (B : Nat) (a : Option Addr) (cap : Nat) (A : Nat → Addr) (p : List Int) (w : World) (hp : p.length ≤ 8192) (hR : ¬ InRange p) (hS : Sl 46 .i64 w B (.slice a p.length cap) p A) :
    Calls Tryz.prog 16 #[.slice a p.length cap] w fun e w' => e = .returned (.tuple #[.pointer none, .int .i64 3]) ∧ w = w' := by
  go_enter Tryz.func16, Tryz.ntmps16
  go_wp2
  go_loop [19] (fun i => ∃ k : Nat, k ≤ p.length ∧ i = .int .i64 k ∧ ∀ i, i < k → -1 ≤ nth p i ∧ nth p i < p.length) (fun i => p.length - (intOf i).toNat)
  case atStart => exact ⟨0, Nat.zero_le _, rfl, fun i hi => absurd hi (by omega)⟩
  case round =>
    obtain ⟨k, hk, rfl, hall⟩ := hrel
    by_cases hlt : k < p.length
    · have hix := hS.ix k hlt
      have hc := Sl.at hS hlt
      have HA := Lib.hid hall
      clear hall
      by_cases h1 : nth p k < -1
      · go_wp2
        go_ret2
        exact ⟨rfl, rfl⟩
      · by_cases h2 : (p.length : Int) ≤ nth p k
        · go_wp2
          go_ret2
          exact ⟨rfl, rfl⟩
        · go_wp2
          go_round
          case rel => exact ⟨k + 1, by omega, by go_num, fun i hi => by
            by_cases e : i = k
            · subst e; omega
            · exact HA.out i (by omega)⟩
          case measure => simp [intOf]; omega
    · exfalso
      obtain rfl : k = p.length := by omega
      exact hR hall

/-- a table while it is made: j of its rows of jumps stand -/
structure Making (w : World) (b db j : Nat) (jb : Nat → Nat) (p : List Int) : Prop where
  tab : w.rowIs b 97 15 (fun c => if c = 0 then .bool true else if c = 1 then .slice (some ⟨db, 0, none⟩) p.length p.length else if c < 2 + j then .slice (some ⟨jb (c - 2), 0, none⟩) p.length p.length else .slice none 0 0)
  dep : w.rowIs db 3 p.length (fun i => nat64 (dp p i))
  jmp : ∀ i, i < j → w.rowIs (jb i) 3 p.length (fun v => .int .i64 (oi (anc p (2 ^ i) v)))

theorem Making.start {w : World} {db : Nat} {p : List Int} (jb : Nat → Nat) (hd : w.rowIs db 3 p.length (fun i => nat64 (dp p i))) :
    Making (w.alloc (.cells #[.bool true, .slice (some ⟨db, 0, none⟩) p.length p.length, .slice none 0 0, .slice none 0 0, .slice none 0 0, .slice none 0 0, .slice none 0 0, .slice none 0 0, .slice none 0 0, .slice none 0 0, .slice none 0 0, .slice none 0 0, .slice none 0 0, .slice none 0 0, .slice none 0 0] 97)) w.heap.size db 0 jb p where
  tab := by
    refine World.rowIs_alloc w _ 97 _ (fun i hi => ?_)
    have hi : i < 15 := hi
    match i, hi with
    | 0, _ => rfl
    | 1, _ => rfl
    | 2, _ => rfl
    | 3, _ => rfl
    | 4, _ => rfl
    | 5, _ => rfl
    | 6, _ => rfl
    | 7, _ => rfl
    | 8, _ => rfl
    | 9, _ => rfl
    | 10, _ => rfl
    | 11, _ => rfl
    | 12, _ => rfl
    | 13, _ => rfl
    | 14, _ => rfl
  dep := hd.alloc _
  jmp := fun i hi => absurd hi (by omega)

/-- while its k-th row is filled: v of its cells hold what they shall -/
structure Half (w : World) (b db k v : Nat) (jb : Nat → Nat) (p : List Int) : Prop where
  tab : w.rowIs b 97 15 (fun c => if c = 0 then .bool true else if c = 1 then .slice (some ⟨db, 0, none⟩) p.length p.length else if c < 2 + (k + 1) then .slice (some ⟨jb (c - 2), 0, none⟩) p.length p.length else .slice none 0 0)
  dep : w.rowIs db 3 p.length (fun i => nat64 (dp p i))
  jmp : ∀ i, i < k → w.rowIs (jb i) 3 p.length (fun v => .int .i64 (oi (anc p (2 ^ i) v)))
  cur : w.rowIs (jb k) 3 p.length (fun i => .int .i64 (if i < v then oi (anc p (2 ^ k) i) else 0))
  db_b : db < b
  b_jb : ∀ i, i < k + 1 → b < jb i
  top : ∀ i, i < k → jb i < jb k

theorem Half.start {w : World} {b db k : Nat} {jb : Nat → Nat} {p : List Int} (M : Making w b db k jb p) (hk : k < 13) (hdb : db < b) (hb : b < w.heap.size) (hjb : ∀ i, i < k → b < jb i) :
    Half (((w.setCell ⟨b, 2 + k, none⟩ (.slice (some ⟨w.heap.size, 0, none⟩) p.length p.length)).alloc (.cells (madeCells #[.int .i64 0] p.length) 3)).drew) b db k 0 (fun i => if i = k then w.heap.size else jb i) p where
  tab := by
    refine (((M.tab.set (2 + k) _).alloc _).drew).congr (fun c hc => ?_)
    by_cases e : c = 2 + k
    · subst e
      rw [if_pos rfl, if_neg (by omega), if_neg (by omega), if_pos (by omega), if_pos (by omega)]
    · rw [if_neg e]
      by_cases e0 : c = 0
      · rw [if_pos e0, if_pos e0]
      · by_cases e1 : c = 1
        · rw [if_neg e0, if_neg e0, if_pos e1, if_pos e1]
        · rw [if_neg e0, if_neg e0, if_neg e1, if_neg e1]
          by_cases e2 : c < 2 + k
          · rw [if_pos e2, if_pos (by omega), if_neg (by omega)]
          · rw [if_neg e2, if_neg (by omega)]
  dep := ((M.dep.setOther (by show db ≠ b; omega) _).alloc _).drew
  jmp := fun i hi => by rw [if_neg (by omega)]; exact (((M.jmp i hi).setOther (by show jb i ≠ b; have := hjb i hi; omega) _).alloc _).drew
  cur := by
    rw [if_pos rfl]
    have := World.rowIs_made (w.setCell ⟨b, 2 + k, none⟩ (.slice (some ⟨w.heap.size, 0, none⟩) p.length p.length)) (.int .i64 0) p.length 3
    rw [World.size_setCell] at this
    exact this.congr (fun i _ => by rw [if_neg (by omega)])
  db_b := hdb
  b_jb := fun i hi => by
    by_cases e : i = k
    · rw [if_pos e]; exact hb
    · rw [if_neg e]; exact hjb i (by omega)
  top := fun i hi => by rw [if_neg (by omega), if_pos rfl]; exact (M.jmp i hi).lt
theorem Half.store {w : World} {b db k v : Nat} {jb : Nat → Nat} {p : List Int} (M : Half w b db k v jb p) {x : Int} (hx : x = oi (anc p (2 ^ k) v)) : Half (w.setCell ⟨jb k, v, none⟩ (.int .i64 x)) b db k (v + 1) jb p where
  tab := M.tab.setOther (by have := M.b_jb k (by omega); show b ≠ jb k; omega) _
  dep := M.dep.setOther (by have := M.b_jb k (by omega); have := M.db_b; show db ≠ jb k; omega) _
  jmp := fun i hi => (M.jmp i hi).setOther (by have := M.top i hi; show jb i ≠ jb k; omega) _
  cur := (M.cur.set v _).congr (fun i _ => by
    by_cases e : i = v
    · subst e; rw [if_pos rfl, if_pos (by omega), hx]
    · rw [if_neg e]
      by_cases e2 : i < v
      · rw [if_pos e2, if_pos (by omega)]
      · rw [if_neg e2, if_neg (by omega)])
  db_b := M.db_b
  b_jb := M.b_jb
  top := M.top
theorem Half.drew {w : World} {b db k v : Nat} {jb : Nat → Nat} {p : List Int} (M : Half w b db k v jb p) : Half w.drew b db k v jb p := ⟨M.tab, M.dep, M.jmp, M.cur, M.db_b, M.b_jb, M.top⟩
theorem Half.done {w : World} {b db k : Nat} {jb : Nat → Nat} {p : List Int} (M : Half w b db k p.length jb p) : Making w b db (k + 1) jb p where
  tab := M.tab
  dep := M.dep
  jmp := fun i hi => by
    by_cases e : i = k
    · subst e; exact M.cur.congr (fun i hi => by rw [if_pos hi])
    · exact M.jmp i (by omega)
theorem Half.slot {w : World} {b db k v i : Nat} {jb : Nat → Nat} {p : List Int} (M : Half w b db k v jb p) (hi : i < k + 1) (hk : k < 13) : w.cell? ⟨b, 2 + i, none⟩ = some (.slice (some ⟨jb i, 0, none⟩) p.length p.length) := by
  have := M.tab.cell (i := 2 + i) (by omega)
  rw [if_neg (by omega), if_neg (by omega), if_pos (by omega), show 2 + i - 2 = i from by omega] at this
  exact this
theorem Making.tabAt {w : World} {b db : Nat} {jb : Nat → Nat} {p : List Int} (M : Making w b db 13 jb p) (F : Tree p) (hs : p.length ≤ 8192) : TabAt w w.heap.size b p where
  tree := F
  small := hs
  lt := M.tab.lt
  made := M.tab.cell (i := 0) (by omega)
  dep := ⟨db, M.dep.lt, M.tab.cell (i := 1) (by omega), fun i hi => M.dep.cell hi⟩
  jmp := ⟨jb, fun j hj => ⟨(M.jmp j hj).lt, by
    have := M.tab.cell (i := 2 + j) (by omega)
    rw [if_neg (by omega), if_neg (by omega), if_pos (by omega), show 2 + j - 2 = j from by omega] at this
    exact this, fun i hi => (M.jmp j hj).cell hi⟩⟩

/-- what holds in every world that has the same blocks from base on -/
def Held (base : Nat) (w : World) (P : World → Prop) : Prop := ∀ W : World, (∀ j, base ≤ j → j < w.heap.size → W.heap[j]? = w.heap[j]?) → P W
theorem Held.self {base : Nat} {w : World} {P : World → Prop} (h : Held base w P) : P w := h w fun _ _ _ => rfl
theorem Held.lower {base base' : Nat} {w : World} {P : World → Prop} (h : Held base w P) (hb : base' ≤ base) : Held base' w P := fun W hW => h W fun j h1 h2 => hW j (Nat.le_trans hb h1) h2
theorem Making.held {w : World} {b db lo : Nat} {jb : Nat → Nat} {p : List Int} (M : Making w b db 13 jb p) (F : Tree p) (hs : p.length ≤ 8192) (h1 : lo ≤ b) (h2 : lo ≤ db) (h3 : ∀ i, i < 13 → lo ≤ jb i) : Held lo w fun W => TabAt W w.heap.size b p := fun W hW =>
  have M' : Making W b db 13 jb p := ⟨M.tab.of_block (hW b h1 M.tab.lt), M.dep.of_block (hW db h2 M.dep.lt), fun i hi => (M.jmp i hi).of_block (hW _ (h3 i hi) (M.jmp i hi).lt)⟩
  { tree := F
    small := hs
    lt := M.tab.lt
    made := M'.tab.cell (i := 0) (by omega)
    dep := ⟨db, M.dep.lt, M'.tab.cell (i := 1) (by omega), fun i hi => M'.dep.cell hi⟩
    jmp := ⟨jb, fun j hj => ⟨(M.jmp j hj).lt, by
      have := M'.tab.cell (i := 2 + j) (by omega)
      rw [if_neg (by omega), if_neg (by omega), if_pos (by omega), show 2 + j - 2 = j from by omega] at this
      exact this, fun i hi => (M'.jmp j hj).cell hi⟩⟩ }

set_option maxRecDepth 100000 in
set_option maxHeartbeats 4000000 in
theorem new_in (B : Nat) (a : Option Addr) (cap : Nat) (A : Nat → Addr) (p : List Int) (w : World) (hp : p.length ≤ 8192) (hR : InRange p) (hS : Sl 46 .i64 w B (.slice a p.length cap) p A) (hB : B ≤ w.heap.size) :
    Calls Tryz.prog 16 #[.slice a p.length cap] w fun e w' => Below w.heap.size w w' ∧ ((treeB p = false ∧ e = .returned (.tuple #[.pointer none, .int .i64 9])) ∨ (treeB p = true ∧ ∃ b, e = .returned (.tuple #[.pointer (some ⟨b, 0, none⟩), .int .i64 0]) ∧ Held w.heap.size w' fun W => TabAt W w'.heap.size b p)) := by
  have hmk2 := run_make_row' (P := Tryz.prog) 46 3 (.int .i64 0) 8 Tryz.underlying46 Tryz.infoI rfl .i64 .i64 p.length (by omega) (by omega)
  have HR := Lib.hid hR
  clear hR
  go_enter Tryz.func16, Tryz.ntmps16
  go_wp2_with fail
  go_loop [19] (fun i => ∃ k : Nat, k ≤ p.length ∧ i = .int .i64 k) (fun i => p.length - (intOf i).toNat)
  case atStart => exact ⟨0, Nat.zero_le _, rfl⟩
  case round =>
    obtain ⟨k, hk, rfl⟩ := hrel
    by_cases hlt : k < p.length
    · have hix := hS.ix k hlt
      have hc := Sl.at hS hlt
      have h1 := HR.out k hlt
      go_wp2_with fail
      go_round
      case rel => exact ⟨k + 1, by omega, by go_num⟩
      case measure => simp [intOf]; omega
    · obtain rfl : k = p.length := by omega
      go_wp2_with fail
      refine (depths_any B a cap A p w (by omega) HR.out hS hB).mono ?_
      rintro e w1 ⟨D, ok, db, rfl, hdb, hD, hB1, ho1, ho2⟩
      have hB1s := hB1.size
      have hdbl := hD.lt
      cases ok with
      | false =>
        have hT : treeB p = false := by
          cases h : treeB p with
          | false => rfl
          | true => exact absurd (ho2 (tree_of_B h)) (by simp)
        have HT := Lib.hid hT
        clear hT ho1 ho2
        go_wp2_with fail
        go_ret2
        exact ⟨hB1, .inl ⟨HT.out, rfl⟩⟩
      | true =>
        have F := ho1 rfl
        have hT : Tree p := F.tree
        have hdp := hD.congr (g := fun i => nat64 (dp p i)) (fun i hi => by rw [dp_eq F hi])
        have HT := Lib.hid hT
        clear ho1 ho2 hD F hT
        go_wp2_with fail
        have hM0 := Making.start (w := w1) (db := db) (p := p) (fun _ => 0) hdp
        have hBW : Below w.heap.size w (w1.alloc (.cells #[.bool true, .slice (some ⟨db, 0, none⟩) p.length p.length, .slice none 0 0, .slice none 0 0, .slice none 0 0, .slice none 0 0, .slice none 0 0, .slice none 0 0, .slice none 0 0, .slice none 0 0, .slice none 0 0, .slice none 0 0, .slice none 0 0, .slice none 0 0, .slice none 0 0] 97)) := hB1.alloc hB1s _
        have hsW : (w1.alloc (.cells #[.bool true, .slice (some ⟨db, 0, none⟩) p.length p.length, .slice none 0 0, .slice none 0 0, .slice none 0 0, .slice none 0 0, .slice none 0 0, .slice none 0 0, .slice none 0 0, .slice none 0 0, .slice none 0 0, .slice none 0 0, .slice none 0 0, .slice none 0 0, .slice none 0 0] 97)).heap.size = w1.heap.size + 1 := by simp
        generalize (w1.alloc (.cells #[.bool true, .slice (some ⟨db, 0, none⟩) p.length p.length, .slice none 0 0, .slice none 0 0, .slice none 0 0, .slice none 0 0, .slice none 0 0, .slice none 0 0, .slice none 0 0, .slice none 0 0, .slice none 0 0, .slice none 0 0, .slice none 0 0, .slice none 0 0, .slice none 0 0] 97)) = W0 at *
        clear hdp hB1
        generalize w1.heap.size = b at *
        go_loopw [41] (fun j wr => ∃ (k : Nat) (jb : Nat → Nat), k ≤ 13 ∧ j = .int .i64 k ∧ Making wr b db k jb p ∧ Below w.heap.size w wr ∧ b < wr.heap.size ∧ ∀ i, i < k → b < jb i) (fun j _ => 13 - (intOf j).toNat)
        case atStart => exact ⟨0, _, by omega, rfl, hM0, hBW, by omega, fun i hi => absurd hi (by omega)⟩
        case round =>
          clear hM0 hBW hsW
          obtain ⟨k, jb, hk, rfl, hM, hBr, hbr, hjb⟩ := hrel
          by_cases hlt : k < 13
          · have hki : (0 : Int) ≤ k ∧ (k : Int) < 13 := by omega
            have hca : ∀ o, (wr.alloc o).cell? ⟨b, 2 + k, none⟩ = some (.slice none 0 0) := fun o => by
              have := (hM.tab.alloc o).cell (i := 2 + k) (by omega)
              rw [if_neg (by omega), if_neg (by omega), if_neg (by omega)] at this; exact this
            have hfa : ∀ o, (wr.alloc o).frozen? ⟨b, 2 + k, none⟩ = false := fun o => (hM.tab.alloc o).frozen _
            go_wp2_with fail
            go_region
            go_wp2_with fail
            have hH0 := Half.start hM hlt hdbl hbr hjb
            have hBn : Below w.heap.size w ((wr.setCell ⟨b, 2 + k, none⟩ (.slice (some ⟨wr.heap.size, 0, none⟩) p.length p.length)).alloc (.cells (madeCells #[.int .i64 0] p.length) 3)).drew := ((hBr.setCell (p := ⟨b, 2 + k, none⟩) hB1s _).alloc (by rw [World.size_setCell]; exact hBr.size) _).drew
            have hsn : ((wr.setCell ⟨b, 2 + k, none⟩ (.slice (some ⟨wr.heap.size, 0, none⟩) p.length p.length)).alloc (.cells (madeCells #[.int .i64 0] p.length) 3)).drew.heap.size = wr.heap.size + 1 := by simp
            generalize ((wr.setCell ⟨b, 2 + k, none⟩ (.slice (some ⟨wr.heap.size, 0, none⟩) p.length p.length)).alloc (.cells (madeCells #[.int .i64 0] p.length) 3)).drew = W1 at *
            generalize hjbe : (fun i => if i = k then wr.heap.size else jb i) = jc at *
            have hjck : jc k = wr.heap.size := by rw [← hjbe]; simp
            have HJ := Lib.hid hjck
            clear hjck hjbe hM hca hfa hBr
            generalize wr.heap.size = J at *
            clear hjb
            obtain ⟨wo, rfl⟩ : ∃ wo : World, wo = wr := ⟨_, rfl⟩
            go_loopw [52] (fun vv wx => ∃ v : Nat, v ≤ p.length ∧ vv = .int .i64 v ∧ Half wx b db k v jc p ∧ Below w.heap.size w wx ∧ b < wx.heap.size) (fun vv _ => p.length - (intOf vv).toNat)
            case atStart => exact ⟨0, by omega, rfl, hH0, hBn, by omega⟩
            case round =>
              clear hH0 hBn hsn
              obtain ⟨v, hv, rfl, hH, hBx, hbx⟩ := hrel
              by_cases hvl : v < p.length
              · have hvi : (0 : Int) ≤ v ∧ (v : Int) < p.length := by omega
                have hsk := hH.slot (i := k) (by omega) hlt
                have hst := hH.cur.cell hvl
                have hsf := hH.cur.frozen v
                rw [HJ.out] at hsk hst hsf
                cases k with
                | zero =>
                  have hix := hS.ix v hvl
                  have hcv := Sl.at (hS.below (hBx.mono hB)) hvl
                  have hs0 : wr.cell? ⟨b, 2, none⟩ = some (.slice (some ⟨J, 0, none⟩) p.length p.length) := hsk
                  have hval := nth_pa hvl HR.out
                  have HV := Lib.hid hval
                  clear hval
                  go_wp2_with fail
                  go_region
                  go_wp2_with fail
                  go_roundw
                  case rel => exact ⟨v + 1, by omega, by go_num, by have h1 := (hH.store (x := nth p v) HV.out).drew; rw [HJ.out] at h1; exact h1, (hBx.setCell (p := ⟨J, v, none⟩) (by have := hB1s; show _ ≤ J; omega) _).drew, by simp; omega⟩
                  case measure => simp [intOf]; omega
                | succ k' =>
                  have hk0 : ((((k' + 1 : Nat) : Int)) == 0) = false := by simp; omega
                  have hsp := hH.slot (i := k') (by omega) hlt
                  have hki2 : (0 : Int) ≤ k' ∧ (k' : Int) < 13 := by omega
                  have hcp := (hH.jmp k' (by omega)).cell hvl
                  have hgen : ∀ (x : Int), x = oi (anc p (2 ^ (k' + 1)) v) → Half (wr.setCell ⟨J, v, none⟩ (.int .i64 x)) b db (k' + 1) (v + 1) jc p := fun x hx => by
                    have h1 := hH.store hx; rw [HJ.out] at h1; exact h1
                  have HG := Lib.hid hgen
                  clear hgen
                  cases hm : anc p (2 ^ k') v with
                  | none =>
                    have hval : (-1 : Int) = oi (anc p (2 ^ (k' + 1)) v) := by rw [Nat.pow_succ, Nat.mul_two, anc_add, hm]; rfl
                    rw [hm] at hcp
                    replace hcp : wr.cell? ⟨jc k', v, none⟩ = some (.int .i64 (-1)) := hcp
                    have HV := Lib.hid hval
                    clear hval hm
                    go_wp2_with fail
                    go_roundw
                    case rel => exact ⟨v + 1, by omega, by go_num, HG.out _ HV.out, hBx.setCell (p := ⟨J, v, none⟩) (by have := hB1s; show _ ≤ J; omega) _, by simp; omega⟩
                    case measure => simp [intOf]; omega
                  | some m =>
                    have hml := anc_lt HT.out hvl hm
                    have hmi : (0 : Int) ≤ m ∧ (m : Int) < p.length := by omega
                    have hcm := (hH.jmp k' (by omega)).cell hml
                    have hval : oi (anc p (2 ^ k') m) = oi (anc p (2 ^ (k' + 1)) v) := by rw [Nat.pow_succ, Nat.mul_two, anc_add, hm]; rfl
                    rw [hm] at hcp
                    replace hcp : wr.cell? ⟨jc k', v, none⟩ = some (.int .i64 m) := hcp
                    have HV := Lib.hid hval
                    clear hval hm
                    go_wp2_with fail
                    go_roundw
                    case rel => exact ⟨v + 1, by omega, by go_num, HG.out _ HV.out, hBx.setCell (p := ⟨J, v, none⟩) (by have := hB1s; show _ ≤ J; omega) _, by simp; omega⟩
                    case measure => simp [intOf]; omega
              · obtain rfl : v = p.length := by omega
                go_wp2_with fail
                go_roundw
                case rel => exact ⟨k + 1, jc, by omega, by go_num, hH.done, hBx, hbx, hH.b_jb⟩
                case measure => simp [intOf]; omega
          · obtain rfl : k = 13 := by omega
            go_wp2_with fail
            go_ret2
            exact ⟨hBr, .inr ⟨treeB_iff.2 HT.out, b, rfl, hM.held HT.out hp hB1s hdb fun i hi => Nat.le_trans hB1s (Nat.le_of_lt (hjb i hi))⟩⟩
end Go.Proofs.YtpbgophogneecaaGreat

/- The walk of Climb of package lift, and New in two parts. Conditions: the table was made by New; the keys are given as cells. -/
namespace Go.Proofs.YtpbgophogneecaaGreat
open Go.RowKit

theorem inB_iff {p : List Int} {v : Int} : inB p v = true ↔ ∃ u : Nat, v = u ∧ u < p.length := by
  simp only [inB, decide_eq_true_eq]
  constructor
  · intro h; exact ⟨v.toNat, by omega, by omega⟩
  · rintro ⟨u, rfl, h⟩; omega
theorem quiet_same {f : FuncId} {args : Array Value} {w : World} {n : Nat} {v : Value}
    (h : Calls Tryz.prog f args (w.drewN n) fun e w' => e = .returned v ∧ w.drewN n = w') : Calls Tryz.prog f args (w.drewN n) fun e w'' => e = .returned v ∧ ∃ m, w'' = w.drewN m :=
  h.mono fun _ _ ⟨he, hm⟩ => ⟨he, n, hm.symm⟩
theorem TabAt.drewN {w : World} {B b : Nat} {p : List Int} (h : TabAt w B b p) (n : Nat) : TabAt (w.drewN n) B b p := h.below (below_drewN (Below.refl _ _) n)
theorem new_bad {B : Nat} {a : Option Addr} {cap : Nat} {A : Nat → Addr} {p : List Int} {w : World} {c : Int} (hE : newE p = c) (hc : c ≠ 0) (hm : p.length ≤ 9223372036854775807) (hS : Sl 46 .i64 w B (.slice a p.length cap) p A) (hB : B ≤ w.heap.size) :
    Calls Tryz.prog 16 #[.slice a p.length cap] w fun e w' => e = .returned (.tuple #[.pointer none, .int .i64 c]) ∧ Below w.heap.size w w' := by
  unfold newE at hE
  by_cases h1 : 8192 < p.length
  · rw [if_pos h1] at hE
    subst hE
    exact (new_arg a p.length cap w h1 hm).mono fun e w' ⟨h2, h3⟩ => ⟨h2, h3 ▸ Below.refl _ _⟩
  · rw [if_neg h1] at hE
    by_cases h2 : inRB p = true
    · rw [if_pos h2] at hE
      by_cases h3 : treeB p = true
      · rw [if_pos h3] at hE; exact absurd hE.symm hc
      · rw [if_neg h3] at hE
        subst hE
        refine (new_in B a cap A p w (by omega) (inRB_iff.1 h2) hS hB).mono fun e w' ⟨h4, h5⟩ => ?_
        rcases h5 with ⟨_, h5⟩ | ⟨h5, _⟩
        · exact ⟨h5, h4⟩
        · exact absurd h5 h3
    · rw [if_neg h2] at hE
      subst hE
      exact (new_range B a cap A p w (by omega) (fun h => h2 (inRB_iff.2 h)) hS).mono fun e w' ⟨h2, h3⟩ => ⟨h2, h3 ▸ Below.refl _ _⟩
theorem newE_zero {p : List Int} (hE : newE p = 0) : p.length ≤ 8192 ∧ InRange p ∧ treeB p = true := by
  unfold newE at hE
  by_cases h1 : 8192 < p.length
  · rw [if_pos h1] at hE; omega
  · rw [if_neg h1] at hE
    by_cases h2 : inRB p = true
    · rw [if_pos h2] at hE
      by_cases h3 : treeB p = true
      · exact ⟨by omega, inRB_iff.1 h2, h3⟩
      · rw [if_neg h3] at hE; omega
    · rw [if_neg h2] at hE; omega
def NewOk (p : List Int) (w : World) (e : Ending) (w' : World) : Prop := ∃ b, e = .returned (.tuple #[.pointer (some ⟨b, 0, none⟩), .int .i64 0]) ∧ TabAt w' w'.heap.size b p ∧ Below w.heap.size w w' ∧ Held w.heap.size w' fun W => TabAt W w'.heap.size b p
theorem new_ok {B : Nat} {a : Option Addr} {cap : Nat} {A : Nat → Addr} {p : List Int} {w : World} (hE : newE p = 0) (hS : Sl 46 .i64 w B (.slice a p.length cap) p A) (hB : B ≤ w.heap.size) :
    Calls Tryz.prog 16 #[.slice a p.length cap] w (NewOk p w) := by
  obtain ⟨h1, h2, h3⟩ := newE_zero hE
  refine (new_in B a cap A p w h1 h2 hS hB).mono fun e w' ⟨h4, h5⟩ => ?_
  rcases h5 with ⟨h5, _⟩ | ⟨_, b, h5, h6⟩
  · rw [h3] at h5; cases h5
  · exact ⟨b, h5, h6.self, h4, h6⟩

/-- climbing: one step, and all of them -/
def onward (p key : List Int) (m : Int) (v : Nat) : Bool := match pa p v with
  | some u => decide (nth key u ≤ m)
  | none => false
def climbF (p key : List Int) (m : Int) : Nat → Nat → Nat
  | 0, v => v
  | f + 1, v => match pa p v with
    | some u => if nth key u ≤ m then climbF p key m f u else v
    | none => v
def climb (p key : List Int) (m : Int) (v : Nat) : Nat := climbF p key m (dp p v) v
/-- what Climb answers -/
def clE (p : List Int) (v : Int) (key : List Int) : Int := if inB p v then (if key.length = p.length then 0 else 2) else 3
def clV (p : List Int) (v : Int) (key : List Int) (m : Int) : Int := if clE p v key = 0 then climb p key m v.toNat else 0

theorem climb_stop {p key : List Int} {m : Int} {v : Nat} (h : onward p key m v = false) : climb p key m v = v := by
  unfold climb
  cases hd : dp p v with
  | zero => rfl
  | succ f =>
    rw [climbF]
    unfold onward at h
    cases hp : pa p v with
    | none => rfl
    | some u => rw [hp] at h; simp only [decide_eq_false_iff_not] at h; simp only [if_neg h]
theorem climb_go {p key : List Int} {m : Int} {v : Nat} (F : Tree p) (hv : v < p.length) (h : onward p key m v = true) : ∃ u, pa p v = some u ∧ u < p.length ∧ dp p v = dp p u + 1 ∧ climb p key m v = climb p key m u := by
  unfold onward at h
  cases hp : pa p v with
  | none => rw [hp] at h; cases h
  | some u =>
    rw [hp] at h
    have hd := F.up v u hv hp
    refine ⟨u, rfl, F.rng v u hv hp, hd, ?_⟩
    unfold climb
    rw [hd, climbF, hp]
    simp only [decide_eq_true_eq] at h
    simp only [if_pos h]

/-- a slice of 64 bit numbers  -/
structure Key (w : World) (B : Nat) (v : Value) (l : List Int) (A : Nat → Addr) : Prop where
  ix : ∀ i : Nat, i < l.length → ∀ w' : World, (Instr.indexAt 55 v (.int .i64 i)).run Tryz.prog w' = .ok (.pointer (some (A i))) w'
  lt : ∀ i : Nat, i < l.length → (A i).block < B
  cell : ∀ i : Nat, i < l.length → w.cell? (A i) = some (.int .i64 (nth l i))
theorem Key.below {w w' : World} {B : Nat} {v : Value} {l : List Int} {A : Nat → Addr} (h : Key w B v l A) (hb : Below B w w') : Key w' B v l A :=
  ⟨h.ix, h.lt, fun i hi => by rw [hb.cell (h.lt i hi)]; exact h.cell i hi⟩

theorem ret_ii {a b c d : Int} (h : a = b) (h' : c = d) : Ending.returned (.tuple #[.int .i64 a, .int .i64 c]) = .returned (.tuple #[.int .i64 b, .int .i64 d]) := by rw [h, h']
def Quiet (w : World) (v : Value) (e : Ending) (w' : World) : Prop := e = .returned v ∧ ∃ n, w.drewN n = w'

end Go.Proofs.YtpbgophogneecaaGreat
