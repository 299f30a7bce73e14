/- Plain mathematics of rooted forests given by a list of parents: ancestors, depths, lowest common ancestors. No program is in sight. No conditions. -/
namespace Go.Proofs.YtibdggbejogciaaGreat

/-- the parent of a node; none for a root and beyond the list -/
def pa (p : List Int) (v : Nat) : Option Nat :=
  match p[v]? with
  | some (.ofNat u) => some u
  | _ => none
/-- the ancestor so many steps up -/
def anc (p : List Int) : Nat → Nat → Option Nat
  | 0, v => some v
  | k + 1, v => (anc p k v).bind (pa p)
/-- as the tables hold it -/
def oi : Option Nat → Int
  | none => -1
  | some u => u
/-- depth by fuel -/
def dpF (p : List Int) : Nat → Nat → Nat
  | 0, _ => 0
  | f + 1, v => match pa p v with
    | none => 0
    | some u => dpF p f u + 1
def dp (p : List Int) (v : Nat) : Nat := dpF p p.length v

structure Forest (p : List Int) (d : Nat → Nat) : Prop where
  rng : ∀ v u, v < p.length → pa p v = some u → u < p.length
  up : ∀ v u, v < p.length → pa p v = some u → d v = d u + 1
  root : ∀ v, v < p.length → pa p v = none → d v = 0

theorem pa_some {p : List Int} {v u : Nat} : pa p v = some u ↔ p[v]? = some (u : Int) := by
  unfold pa
  split
  · rename_i w h; rw [h]; simp only [Option.some.injEq, Int.ofNat_eq_natCast]; omega
  · rename_i h
    constructor
    · intro h'; cases h'
    · intro h'; exact absurd h' (h u)
theorem pa_lt {p : List Int} {v u : Nat} (h : pa p v = some u) : v < p.length := by
  rw [pa_some] at h; exact (List.getElem?_eq_some_iff.1 h).1
theorem pa_none {p : List Int} {v : Nat} (hv : v < p.length) : pa p v = none ↔ p[v] < 0 := by
  unfold pa
  rw [List.getElem?_eq_getElem hv]
  cases h : p[v] with
  | ofNat u => simp
  | negSucc u => simp
/-- what lies in the list is the parent, as the tables hold it -/
theorem oi_pa {p : List Int} {v : Nat} (hv : v < p.length) (h : -1 ≤ p[v]) : oi (pa p v) = p[v] := by
  by_cases h0 : p[v] < 0
  · rw [(pa_none hv).2 h0]; simp only [oi]; omega
  · have : pa p v = some p[v].toNat := by
      rw [pa_some, List.getElem?_eq_getElem hv]; congr 1; omega
    rw [this]; simp only [oi]; omega

@[simp] theorem anc_zero (p : List Int) (v : Nat) : anc p 0 v = some v := rfl
theorem anc_succ (p : List Int) (k v : Nat) : anc p (k + 1) v = (anc p k v).bind (pa p) := rfl
theorem anc_add (p : List Int) (j k v : Nat) : anc p (j + k) v = (anc p j v).bind (anc p k) := by
  induction k with
  | zero => cases anc p j v <;> rfl
  | succ k ih => rw [← Nat.add_assoc, anc_succ, ih]; cases anc p j v <;> simp [anc_succ]
theorem anc_one (p : List Int) (v : Nat) : anc p 1 v = pa p v := rfl
theorem anc_succ' (p : List Int) (k v : Nat) : anc p (k + 1) v = (pa p v).bind (anc p k) := by
  rw [Nat.add_comm, anc_add, anc_one]

theorem anc_dep {p : List Int} {d : Nat → Nat} (F : Forest p d) : ∀ k v u, v < p.length → anc p k v = some u → u < p.length ∧ d v = d u + k := by
  intro k
  induction k with
  | zero => intro v u hv h; simp at h; subst h; exact ⟨hv, by omega⟩
  | succ k ih =>
    intro v u hv h
    rw [anc_succ] at h
    cases hm : anc p k v with
    | none => rw [hm] at h; cases h
    | some m =>
      rw [hm] at h
      have ⟨h1, h2⟩ := ih v m hv hm
      have h3 : pa p m = some u := h
      exact ⟨F.rng m u h1 h3, by have := F.up m u h1 h3; omega⟩
theorem anc_some {p : List Int} {d : Nat → Nat} (F : Forest p d) : ∀ k v, v < p.length → k ≤ d v → ∃ u, anc p k v = some u := by
  intro k
  induction k with
  | zero => intro v _ _; exact ⟨v, rfl⟩
  | succ k ih =>
    intro v hv hk
    obtain ⟨m, hm⟩ := ih v hv (by omega)
    have ⟨h1, h2⟩ := anc_dep F k v m hv hm
    cases hp : pa p m with
    | none => have := F.root m h1 hp; omega
    | some u => exact ⟨u, by rw [anc_succ, hm]; exact hp⟩
theorem anc_none {p : List Int} {d : Nat → Nat} (F : Forest p d) {k v : Nat} (hv : v < p.length) : anc p k v = none ↔ d v < k := by
  constructor
  · intro h
    by_cases hk : k ≤ d v
    · obtain ⟨u, hu⟩ := anc_some F k v hv hk; rw [h] at hu; cases hu
    · omega
  · intro h
    cases hu : anc p k v with
    | none => rfl
    | some u => have := (anc_dep F k v u hv hu).2; omega
theorem anc_lt {p : List Int} {d : Nat → Nat} (F : Forest p d) {k v u : Nat} (hv : v < p.length) (h : anc p k v = some u) : u < p.length := (anc_dep F k v u hv h).1
theorem anc_d {p : List Int} {d : Nat → Nat} (F : Forest p d) {k v u : Nat} (hv : v < p.length) (h : anc p k v = some u) : d v = d u + k := (anc_dep F k v u hv h).2

/-- a list of different numbers below n has at most n of them -/
theorem nodup_le : ∀ (n : Nat) (l : List Nat), l.Nodup → (∀ x ∈ l, x < n) → l.length ≤ n := by
  intro n
  induction n with
  | zero => intro l _ h; cases l with
    | nil => simp
    | cons x t => have := h x (by simp); omega
  | succ n ih =>
    intro l hn h
    have h1 := ih (l.filter (· != n)) (hn.filter _) (fun x hx => by
      rw [List.mem_filter] at hx; have h2 := h x hx.1; have h3 : x ≠ n := by simpa using hx.2
      omega)
    have h2 : l.length ≤ (l.filter (· != n)).length + 1 := by
      have e := @List.length_eq_countP_add_countP Nat (fun x => x != n) l
      rw [← List.countP_eq_length_filter]
      have : List.countP (fun a => decide ¬(a != n) = true) l ≤ 1 := by
        have h3 : List.countP (fun a => decide ¬(a != n) = true) l = l.count n := by
          rw [List.count]; apply List.countP_congr; intro x _; simp
        rw [h3]; exact List.nodup_iff_count.1 hn n
      omega
    omega

/-- the nodes of the way up, as many as there are within k steps -/
def way (p : List Int) (v : Nat) (k : Nat) : List Nat := (List.range k).filterMap (fun i => anc p i v)

theorem dep_lt {p : List Int} {d : Nat → Nat} (F : Forest p d) {v : Nat} (hv : v < p.length) : d v < p.length := by
  have hl : ∀ k, k ≤ d v + 1 → (way p v k).length = k := by
    intro k hk
    unfold way
    induction k with
    | zero => rfl
    | succ k ih =>
      obtain ⟨u, hu⟩ := anc_some F k v hv (by omega)
      rw [List.range_succ, List.filterMap_append, List.length_append, ih (by omega)]
      simp [hu]
  have hn : (way p v (d v + 1)).Nodup := by
    unfold way
    rw [List.Nodup, List.pairwise_filterMap]
    refine List.Pairwise.imp ?_ List.pairwise_lt_range
    intro i j hij u hu w hw e
    subst e
    have h1 := anc_d F hv hu
    have h2 := anc_d F hv hw
    omega
  have := nodup_le p.length _ hn (fun x hx => by
    unfold way at hx; rw [List.mem_filterMap] at hx
    obtain ⟨i, _, hi⟩ := hx
    exact anc_lt F hv hi)
  rw [hl (d v + 1) (by omega)] at this
  omega

theorem dpF_eq {p : List Int} {d : Nat → Nat} (F : Forest p d) : ∀ f v, v < p.length → d v < f → dpF p f v = d v := by
  intro f
  induction f with
  | zero => intro v _ h; omega
  | succ f ih =>
    intro v hv h
    rw [dpF]
    cases hp : pa p v with
    | none => simp only; exact (F.root v hv hp).symm
    | some u =>
      have h1 := F.up v u hv hp
      have h2 := F.rng v u hv hp
      show dpF p f u + 1 = d v
      rw [ih u h2 (by omega), h1]
theorem dp_eq {p : List Int} {d : Nat → Nat} (F : Forest p d) {v : Nat} (hv : v < p.length) : dp p v = d v := dpF_eq F _ v hv (dep_lt F hv)
theorem Forest.dp {p : List Int} {d : Nat → Nat} (F : Forest p d) : Forest p (dp p) where
  rng := F.rng
  up := fun v u hv h => by rw [dp_eq F hv, dp_eq F (F.rng v u hv h)]; exact F.up v u hv h
  root := fun v hv h => by rw [dp_eq F hv]; exact F.root v hv h
/-- a forest: there is a depth -/
def Tree (p : List Int) : Prop := Forest p (dp p)
theorem Forest.tree {p : List Int} {d : Nat → Nat} (F : Forest p d) : Tree p := F.dp

/-- parents of smaller rank make a forest -/
theorem tree_of_rank {p : List Int} (r : Nat → Nat) (hb : ∀ v u, pa p v = some u → u < p.length ∧ r u < r v) : Tree p := by
  have hF : ∀ N v, r v < N → ∀ f g, r v < f → r v < g → dpF p f v = dpF p g v := by
    intro N
    induction N with
    | zero => intro v h; omega
    | succ N ih =>
      intro v h f g hf hg
      cases f with
      | zero => omega
      | succ f => cases g with
        | zero => omega
        | succ g =>
          rw [dpF, dpF]
          cases hp : pa p v with
          | none => rfl
          | some u =>
            have h1 := (hb v u hp).2
            show dpF p f u + 1 = dpF p g u + 1
            rw [ih u (by omega) f g (by omega) (by omega)]
  have F : Forest p (fun v => dpF p (r v + 1) v) := by
    refine ⟨fun v u _ h => (hb v u h).1, fun v u _ h => ?_, fun v _ h => ?_⟩
    · have h1 := (hb v u h).2
      show dpF p (r v + 1) v = _
      rw [dpF, h]
      show dpF p (r v) u + 1 = dpF p (r u + 1) u + 1
      rw [hF (r u + 1) u (by omega) (r v) (r u + 1) (by omega) (by omega)]
    · show dpF p (r v + 1) v = 0
      rw [dpF, h]
  exact F.tree

/-- a test that can be run -/
def treeB (p : List Int) : Bool := (List.range p.length).all fun v => match pa p v with
  | none => dp p v == 0
  | some u => decide (u < p.length) && dp p v == dp p u + 1
theorem tree_of_B {p : List Int} (h : treeB p = true) : Tree p := by
  unfold treeB at h
  rw [List.all_eq_true] at h
  refine ⟨fun v u hv hp => ?_, fun v u hv hp => ?_, fun v hv hp => ?_⟩ <;>
  · have := h v (by simpa using hv)
    rw [hp] at this
    simp at this
    omega

/-- x is above v, or v itself -/
def isAnc (p : List Int) (x v : Nat) : Bool := (List.range (dp p v + 1)).any fun k => anc p k v == some x
theorem isAnc_iff {p : List Int} (F : Tree p) {x v : Nat} (hv : v < p.length) : isAnc p x v = true ↔ ∃ k, anc p k v = some x := by
  unfold isAnc
  rw [List.any_eq_true]
  constructor
  · rintro ⟨k, _, h⟩; exact ⟨k, by simpa using h⟩
  · rintro ⟨k, h⟩
    refine ⟨k, ?_, by simpa using h⟩
    have := anc_d F hv h
    simp; omega
/-- how it is told by depths -/
theorem isAnc_iff' {p : List Int} (F : Tree p) {x v : Nat} (hv : v < p.length) : isAnc p x v = true ↔ dp p x ≤ dp p v ∧ anc p (dp p v - dp p x) v = some x := by
  rw [isAnc_iff F hv]
  constructor
  · rintro ⟨k, h⟩
    have := anc_d F hv h
    refine ⟨by omega, ?_⟩
    rw [show dp p v - dp p x = k from by omega]; exact h
  · rintro ⟨_, h⟩; exact ⟨_, h⟩
theorem isAnc_self {p : List Int} (F : Tree p) {v : Nat} (hv : v < p.length) : isAnc p v v = true := (isAnc_iff F hv).2 ⟨0, rfl⟩
theorem isAnc_lt {p : List Int} (F : Tree p) {x v : Nat} (hv : v < p.length) (h : isAnc p x v = true) : x < p.length := by
  obtain ⟨k, hk⟩ := (isAnc_iff F hv).1 h; exact anc_lt F hv hk
theorem isAnc_trans {p : List Int} (F : Tree p) {x y v : Nat} (hv : v < p.length) (h : isAnc p x y = true) (h' : isAnc p y v = true) : isAnc p x v = true := by
  have hy := isAnc_lt F hv h'
  obtain ⟨j, hj⟩ := (isAnc_iff F hy).1 h
  obtain ⟨k, hk⟩ := (isAnc_iff F hv).1 h'
  exact (isAnc_iff F hv).2 ⟨k + j, by rw [anc_add, hk]; exact hj⟩
/-- what is above one node is a chain -/
theorem isAnc_chain {p : List Int} (F : Tree p) {x y v : Nat} (hv : v < p.length) (hx : isAnc p x v = true) (hy : isAnc p y v = true) (h : dp p x ≤ dp p y) : isAnc p x y = true := by
  have hyl := isAnc_lt F hv hy
  obtain ⟨j, hj⟩ := (isAnc_iff F hv).1 hx
  obtain ⟨k, hk⟩ := (isAnc_iff F hv).1 hy
  have h1 := anc_d F hv hj
  have h2 := anc_d F hv hk
  refine (isAnc_iff F hyl).2 ⟨j - k, ?_⟩
  have h3 : anc p (k + (j - k)) v = some x := by rw [show k + (j - k) = j from by omega]; exact hj
  rw [anc_add, hk] at h3; exact h3
theorem isAnc_eq {p : List Int} (F : Tree p) {x y v : Nat} (hv : v < p.length) (hx : isAnc p x v = true) (hy : isAnc p y v = true) (h : dp p x = dp p y) : x = y := by
  obtain ⟨j, hj⟩ := (isAnc_iff F hv).1 hx
  obtain ⟨k, hk⟩ := (isAnc_iff F hv).1 hy
  have h1 := anc_d F hv hj
  have h2 := anc_d F hv hk
  obtain rfl : j = k := by omega
  rw [hj] at hk; exact Option.some.inj hk
theorem isAnc_dep {p : List Int} (F : Tree p) {x v : Nat} (hv : v < p.length) (hx : isAnc p x v = true) : dp p x ≤ dp p v := ((isAnc_iff' F hv).1 hx).1

/-- the root above a node -/
def rootOf (p : List Int) (v : Nat) : Nat := (anc p (dp p v) v).getD 0
theorem rootOf_anc {p : List Int} (F : Tree p) {v : Nat} (hv : v < p.length) : anc p (dp p v) v = some (rootOf p v) := by
  obtain ⟨u, hu⟩ := anc_some F (dp p v) v hv (Nat.le_refl _)
  unfold rootOf; rw [hu]; rfl
theorem rootOf_lt {p : List Int} (F : Tree p) {v : Nat} (hv : v < p.length) : rootOf p v < p.length := anc_lt F hv (rootOf_anc F hv)
theorem rootOf_dep {p : List Int} (F : Tree p) {v : Nat} (hv : v < p.length) : dp p (rootOf p v) = 0 := by have := anc_d F hv (rootOf_anc F hv); omega
theorem rootOf_isAnc {p : List Int} (F : Tree p) {v : Nat} (hv : v < p.length) : isAnc p (rootOf p v) v = true := (isAnc_iff F hv).2 ⟨_, rootOf_anc F hv⟩
theorem rootOf_of {p : List Int} (F : Tree p) {x v : Nat} (hv : v < p.length) (h : isAnc p x v = true) : rootOf p x = rootOf p v := by
  have hx := isAnc_lt F hv h
  exact isAnc_eq F hv (isAnc_trans F hv (rootOf_isAnc F hx) h) (rootOf_isAnc F hv) (by rw [rootOf_dep F hx, rootOf_dep F hv])

/-- the first node of one's way up that is above the other -/
def com (p : List Int) (a b : Nat) : Option Nat := (List.range (dp p a + 1)).findSome? fun k => match anc p k a with
  | some x => if isAnc p x b then some x else none
  | none => none
theorem com_of {p : List Int} (F : Tree p) {a b c : Nat} (ha : a < p.length) (h1 : isAnc p c a = true) (h2 : isAnc p c b = true)
    (h3 : ∀ x, isAnc p x a = true → isAnc p x b = true → dp p x ≤ dp p c) : com p a b = some c := by
  obtain ⟨k, hk⟩ := (isAnc_iff F ha).1 h1
  have hd := anc_d F ha hk
  unfold com
  rw [List.findSome?_eq_some_iff]
  refine ⟨List.range k, k, List.map (k + 1 + ·) (List.range (dp p a - k)), ?_, ?_, ?_⟩
  · rw [show dp p a + 1 = (k + 1) + (dp p a - k) from by omega, List.range_add, List.range_succ, List.append_assoc]; rfl
  · rw [hk]; simp [h2]
  · intro i hi
    have hi : i < k := by simpa using hi
    cases hx : anc p i a with
    | none => rfl
    | some x =>
      by_cases hb : isAnc p x b = true
      · have := h3 x ((isAnc_iff F ha).2 ⟨i, hx⟩) hb
        have := anc_d F ha hx
        omega
      · simp [hb]
theorem com_none {p : List Int} (F : Tree p) {a b : Nat} (ha : a < p.length) (h : ∀ x, isAnc p x a = true → ¬ isAnc p x b = true) : com p a b = none := by
  unfold com
  rw [List.findSome?_eq_none_iff]
  intro i _
  cases hx : anc p i a with
  | none => rfl
  | some x => simp [h x ((isAnc_iff F ha).2 ⟨i, hx⟩)]
theorem com_some {p : List Int} (F : Tree p) {a b c : Nat} (ha : a < p.length) (h : com p a b = some c) :
    isAnc p c a = true ∧ isAnc p c b = true ∧ ∀ x, isAnc p x a = true → isAnc p x b = true → isAnc p x c = true := by
  unfold com at h
  rw [List.findSome?_eq_some_iff] at h
  obtain ⟨l1, k, l2, he, hk, hl⟩ := h
  cases hx : anc p k a with
  | none => rw [hx] at hk; cases hk
  | some x =>
    rw [hx] at hk
    by_cases hbx : isAnc p x b = true
    · simp [hbx] at hk
      subst hk
      have hxa := (isAnc_iff F ha).2 ⟨k, hx⟩
      refine ⟨hxa, hbx, fun y hya hyb => ?_⟩
      refine isAnc_chain F ha hya hxa ?_
      obtain ⟨j, hj⟩ := (isAnc_iff F ha).1 hya
      have d1 := anc_d F ha hj
      have d2 := anc_d F ha hx
      have hln : l1.length = k := by
        have := congrArg (fun l => l[l1.length]?) he
        simp only [List.getElem?_append_right (Nat.le_refl _), Nat.sub_self, List.getElem?_cons_zero] at this
        rw [List.getElem?_eq_some_iff] at this
        obtain ⟨_, h'⟩ := this
        simpa using h'
      by_cases hjk : j < k
      · exfalso
        have hm : j ∈ l1 := by
          have h4 : l1[j]? = some j := by
            have := congrArg (fun l => l[j]?) he
            simp only [List.getElem?_append_left (show j < l1.length from by omega)] at this
            rw [← this, List.getElem?_eq_some_iff]
            have : k ∈ List.range (dp p a + 1) := by rw [he]; simp
            have : k < dp p a + 1 := by simpa using this
            exact ⟨by simp; omega, by simp⟩
          exact List.mem_of_getElem? h4
        have := hl j hm
        rw [hj] at this
        simp [hyb] at this
      · omega
    · simp [hbx] at hk
theorem com_isSome {p : List Int} (F : Tree p) {a b x : Nat} (ha : a < p.length) (h1 : isAnc p x a = true) (h2 : isAnc p x b = true) : ∃ c, com p a b = some c := by
  cases h : com p a b with
  | some c => exact ⟨c, rfl⟩
  | none =>
    exfalso
    unfold com at h
    rw [List.findSome?_eq_none_iff] at h
    obtain ⟨k, hk⟩ := (isAnc_iff F ha).1 h1
    have hd := anc_d F ha hk
    have := h k (by simp; omega)
    rw [hk] at this
    simp [h2] at this
theorem com_root {p : List Int} (F : Tree p) {a b : Nat} (ha : a < p.length) (hb : b < p.length) : (com p a b).isSome = true ↔ rootOf p a = rootOf p b := by
  constructor
  · intro h
    obtain ⟨c, hc⟩ := Option.isSome_iff_exists.1 h
    have ⟨h1, h2, _⟩ := com_some F ha hc
    rw [← rootOf_of F ha h1, rootOf_of F hb h2]
  · intro h
    obtain ⟨c, hc⟩ := com_isSome F ha (rootOf_isAnc F ha) (by rw [h]; exact rootOf_isAnc F hb)
    rw [hc]; rfl
theorem com_symm {p : List Int} (F : Tree p) {a b : Nat} (ha : a < p.length) (hb : b < p.length) : com p a b = com p b a := by
  cases h : com p a b with
  | none =>
    symm; apply com_none F hb
    intro x h1 h2
    obtain ⟨c, hc⟩ := com_isSome F ha h2 h1
    rw [h] at hc; cases hc
  | some c =>
    have ⟨h1, h2, h3⟩ := com_some F ha h
    symm; apply com_of F hb h2 h1
    intro x hx hy
    have hcl := isAnc_lt F ha h1
    exact isAnc_dep F hcl (h3 x hy hx)
theorem com_self {p : List Int} (F : Tree p) {a : Nat} (ha : a < p.length) : com p a a = some a :=
  com_of F ha (isAnc_self F ha) (isAnc_self F ha) (fun _ hx _ => isAnc_dep F ha hx)

end Go.Proofs.YtibdggbejogciaaGreat

/- Plain mathematics of the breadth first search that finds the depths of a forest, and finds out whether there is one. No program is in sight. No conditions. -/
namespace Go.Proofs.YtibdggbejogciaaGreat

/-- the roots among the first k nodes, the children among the first k nodes -/
def rootsTo (p : List Int) (k : Nat) : List Nat := (List.range k).filter fun u => pa p u == none
def kidsTo (p : List Int) (k v : Nat) : List Nat := (List.range k).filter fun u => pa p u == some v
def kids (p : List Int) (v : Nat) : List Nat := kidsTo p p.length v

theorem rootsTo_succ (p : List Int) (k : Nat) : rootsTo p (k + 1) = if pa p k = none then rootsTo p k ++ [k] else rootsTo p k := by
  simp only [rootsTo, List.range_succ, List.filter_append, List.filter_cons, List.filter_nil]
  by_cases h : pa p k = none <;> simp [h]
theorem kidsTo_succ (p : List Int) (k v : Nat) : kidsTo p (k + 1) v = if pa p k = some v then kidsTo p k v ++ [k] else kidsTo p k v := by
  simp only [kidsTo, List.range_succ, List.filter_append, List.filter_cons, List.filter_nil]
  by_cases h : pa p k = some v <;> simp [h]
theorem rootsTo_len (p : List Int) (k : Nat) : (rootsTo p k).length ≤ k := by
  have := List.length_filter_le (fun u => pa p u == none) (List.range k); simpa [rootsTo] using this
theorem kidsTo_len (p : List Int) (k v : Nat) : (kidsTo p k v).length ≤ k := by
  have := List.length_filter_le (fun u => pa p u == some v) (List.range k); simpa [kidsTo] using this
theorem mem_kids {p : List Int} {v u : Nat} : u ∈ kids p v ↔ pa p u = some v := by
  simp only [kids, kidsTo, List.mem_filter, List.mem_range, beq_iff_eq]
  exact ⟨fun h => h.2, fun h => ⟨pa_lt h, h⟩⟩
theorem kids_nodup (p : List Int) (v : Nat) : (kids p v).Nodup := List.nodup_range.filter _

/-- the queue, when i of its nodes have been taken -/
structure Bfs (p : List Int) (i : Nat) (Q : List Nat) : Prop where
  nodup : Q.Nodup
  lt : ∀ u ∈ Q, u < p.length
  le : i ≤ Q.length
  root : ∀ u, u < p.length → pa p u = none → u ∈ Q
  kid : ∀ u x, pa p u = some x → (u ∈ Q ↔ x ∈ Q.take i)

theorem Bfs.start (p : List Int) : Bfs p 0 (rootsTo p p.length) where
  nodup := List.nodup_range.filter _
  lt := fun u h => by simp [rootsTo] at h; exact h.1
  le := Nat.zero_le _
  root := fun u h h' => by simp [rootsTo, h, h']
  kid := fun u x h => by simp [rootsTo, h]

theorem Bfs.fresh {p : List Int} {i : Nat} {Q : List Nat} (B : Bfs p i Q) (hi : i < Q.length) {u : Nat} (h : pa p u = some Q[i]) : u ∉ Q := by
  rw [B.kid u _ h]
  intro hm
  obtain ⟨j, hj, he⟩ := List.mem_iff_getElem.1 hm
  have hj' : j < i := by simp at hj; omega
  rw [List.getElem_take] at he
  have := (List.nodup_iff_pairwise_ne.1 B.nodup)
  rw [List.pairwise_iff_getElem] at this
  exact this j i (by omega) hi hj' he

theorem Bfs.step {p : List Int} {i : Nat} {Q : List Nat} (B : Bfs p i Q) (hi : i < Q.length) : Bfs p (i + 1) (Q ++ kids p Q[i]) where
  nodup := by
    rw [List.nodup_append]
    refine ⟨B.nodup, kids_nodup p _, fun a ha b hb e => ?_⟩
    subst e
    exact B.fresh hi (mem_kids.1 hb) ha
  lt := fun u h => by
    rw [List.mem_append] at h
    rcases h with h | h
    · exact B.lt u h
    · exact pa_lt (mem_kids.1 h)
  le := by simp; omega
  root := fun u h h' => List.mem_append_left _ (B.root u h h')
  kid := fun u x h => by
    have e : (Q ++ kids p Q[i]).take (i + 1) = Q.take i ++ [Q[i]] := by
      rw [List.take_append_of_le_length (by omega), List.take_succ_eq_append_getElem hi]
    rw [e, List.mem_append, List.mem_append, B.kid u x h, mem_kids, h]
    simp only [Option.some.injEq, List.mem_singleton]

theorem Bfs.len {p : List Int} {i : Nat} {Q : List Nat} (B : Bfs p i Q) : Q.length ≤ p.length := nodup_le _ _ B.nodup B.lt

/-- a list of n different numbers below n holds them all -/
theorem full_of_len {n : Nat} {l : List Nat} (hn : l.Nodup) (h : ∀ x ∈ l, x < n) (hl : l.length = n) : ∀ u, u < n → u ∈ l := by
  intro u hu
  by_cases hm : u ∈ l
  · exact hm
  · exfalso
    have := nodup_le n (u :: l) (List.nodup_cons.2 ⟨hm, hn⟩) (fun x hx => by
      rcases List.mem_cons.1 hx with e | hx
      · omega
      · exact h x hx)
    simp at this; omega

/-- the depths that have been found -/
structure Dep (p : List Int) (Q : List Nat) (D : Nat → Nat) : Prop where
  root : ∀ u ∈ Q, pa p u = none → D u = 0
  kid : ∀ u ∈ Q, ∀ x, pa p u = some x → x ∈ Q ∧ D u = D x + 1
  le : ∀ u, D u ≤ Q.length

theorem Dep.start (p : List Int) : Dep p (rootsTo p p.length) (fun _ => 0) where
  root := fun _ _ _ => rfl
  kid := fun u h x hx => by simp [rootsTo, hx] at h
  le := fun _ => Nat.zero_le _
theorem Dep.step {p : List Int} {Q : List Nat} {D : Nat → Nat} (h : Dep p Q D) {c v : Nat} (hc : c ∉ Q) (hv : v ∈ Q) (hp : pa p c = some v) : Dep p (Q ++ [c]) (fun u => if u = c then D v + 1 else D u) where
  root := fun u hu hr => by
    rw [List.mem_append, List.mem_singleton] at hu
    by_cases e : u = c
    · subst e; rw [hp] at hr; cases hr
    · rw [if_neg e]; exact h.root u (hu.resolve_right e) hr
  kid := fun u hu x hx => by
    rw [List.mem_append, List.mem_singleton] at hu
    by_cases e : u = c
    · subst e
      rw [hp] at hx; cases hx
      have : v ≠ u := fun e => hc (e ▸ hv)
      exact ⟨List.mem_append_left _ hv, by rw [if_pos rfl, if_neg this]⟩
    · have h1 := h.kid u (hu.resolve_right e) x hx
      have : x ≠ c := fun e => hc (e ▸ h1.1)
      exact ⟨List.mem_append_left _ h1.1, by rw [if_neg e, if_neg this]; exact h1.2⟩
  le := fun u => by
    have h1 := h.le v
    have h2 := h.le u
    simp only [List.length_append, List.length_cons, List.length_nil]
    by_cases e : u = c
    · rw [if_pos e]; omega
    · rw [if_neg e]; omega

/-- at the end: all nodes have been found exactly if it is a forest, and the depths are those of the forest -/
theorem Bfs.done_tree {p : List Int} {Q : List Nat} (B : Bfs p Q.length Q) (F : Tree p) : Q.length = p.length := by
  have all : ∀ k u, u < p.length → dp p u = k → u ∈ Q := by
    intro k
    induction k with
    | zero =>
      intro u hu hd
      cases hp : pa p u with
      | none => exact B.root u hu hp
      | some x => have := F.up u x hu hp; omega
    | succ k ih =>
      intro u hu hd
      cases hp : pa p u with
      | none => exact B.root u hu hp
      | some x =>
        have h1 := F.up u x hu hp
        rw [B.kid u x hp, List.take_length]
        exact ih x (F.rng u x hu hp) (by omega)
  have h1 := B.len
  have h2 := nodup_le Q.length (List.range p.length) List.nodup_range
  by_cases e : Q.length = p.length
  · exact e
  · exfalso
    -- were there fewer, a node would be missing
    have h3 : p.length ≤ Q.length := by
      have hsub : ∀ x ∈ List.range p.length, x ∈ Q := fun x hx => all _ x (by simpa using hx) rfl
      have := (List.nodup_range (n := p.length)).length_le_of_subset hsub
      simpa using this
    omega
theorem Bfs.done_forest {p : List Int} {Q : List Nat} {D : Nat → Nat} (B : Bfs p Q.length Q) (hD : Dep p Q D) (hr : ∀ v u, pa p v = some u → u < p.length) (hl : Q.length = p.length) : Forest p D := by
  have all := full_of_len B.nodup B.lt hl
  exact ⟨fun v u _ h => hr v u h, fun v u hv h => (hD.kid v (all v hv) u h).2, fun v hv h => hD.root v (all v hv) h⟩
end Go.Proofs.YtibdggbejogciaaGreat
