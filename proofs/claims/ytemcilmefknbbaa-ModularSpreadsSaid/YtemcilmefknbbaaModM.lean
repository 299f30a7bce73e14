/- The maps and the state of package modular in memory. No conditions. -/
import Derived.Test.YtemcilmefknbbaaModG
import Derived.Test.YtemcilmefknbbaaShelf
import Derived.Test.YtemcilmefknbbaaChk
import Derived.Maps.OwnIn
import Derived.Maps.OwnOps
namespace Go.Proofs.Ytemcilmefknbbaa
open Go.RowKit Go.Shelf Go.Maps Go.Sort

theorem lawI : Keyed Try.prog 3 := int_keyed Try.underlying3
theorem zeroI (w : World) : (zeroValue 2).run Try.prog w = .ok (.int .i64 0) w := by kernel_rfl
abbrev ky (x : Int) : Lit := .int .i64 x
abbrev i64D (x : Int) : DataW Unit := .lit (.int .i64 x)
theorem kyL (x : Int) : WideAt.IsKeyLit (ky x) := trivial
theorem i64D_inj {x y : Int} (h : i64D x = i64D y) : x = y := by simpa using h
theorem ky_ne {x y : Int} (h : x ≠ y) : ky x ≠ ky y := fun e => h (by simpa using e)
/-- a map of numbers: what stands at each key -/
structure MapA (D : DataW Unit) (f : Int → Int) : Prop where
  tidy : Tidy D
  at_ : ∀ x, D.atKey (ky x) (i64D 0) = i64D (f x)
  ints : ∀ es, D = .map es → ∀ p ∈ es, ∃ x, p.1 = ky x
theorem MapA.nil : MapA (.map []) (fun _ => 0) := ⟨tidy_empty, fun _ => rfl, fun es h p hp => by cases h; cases hp⟩
theorem ints_put {D : DataW Unit} (hD : IsMap D) (h : ∀ es, D = .map es → ∀ p ∈ es, ∃ x, p.1 = ky x) (x c : Int) : ∀ es, D.put (ky x) (i64D c) = .map es → ∀ p ∈ es, ∃ x, p.1 = ky x := by
  obtain ⟨es, rfl⟩ := hD
  intro fs hf p hp
  have h7 : DataW.insert (ky x, i64D c) (es.filter fun p => !p.1.sameKey (ky x)) = fs := by simpa [DataW.put] using hf
  rw [← h7] at hp
  rcases mem_insert_of hp with rfl | hp
  · exact ⟨_, rfl⟩
  · exact h es rfl p (List.mem_filter.1 hp).1
theorem ints_del {D : DataW Unit} (hD : IsMap D) (h : ∀ es, D = .map es → ∀ p ∈ es, ∃ x, p.1 = ky x) (x : Int) : ∀ es, D.del (ky x) = .map es → ∀ p ∈ es, ∃ x, p.1 = ky x := by
  obtain ⟨es, rfl⟩ := hD
  intro fs hf p hp
  have h7 : (es.filter fun p => !p.1.sameKey (ky x)) = fs := by simpa [DataW.del] using hf
  rw [← h7] at hp
  exact h es rfl p (List.mem_filter.1 hp).1
theorem MapA.put {D : DataW Unit} {f g : Int → Int} (h : MapA D f) (x c : Int) (hg : ∀ y, g y = if y = x then c else f y) : MapA (D.put (ky x) (i64D c)) g :=
  ⟨h.tidy.put (kyL x) _, fun y => by
    by_cases e : y = x
    · subst e; rw [atKey_put_same h.tidy.isMap (kyL _), hg, if_pos rfl]
    · rw [atKey_put_other (ky_ne e), h.at_, hg, if_neg e], ints_put h.tidy.isMap h.ints x c⟩
theorem Tidy_del {D : DataW Unit} (h : Tidy D) (k : Lit) : Tidy (D.del k) := by
  obtain ⟨es, rfl, hp⟩ := h
  exact ⟨_, rfl, hp.filter _⟩
theorem MapA.del {D : DataW Unit} {f : Int → Int} (h : MapA D f) (x : Int) (hx : f x = 0) : MapA (D.del (ky x)) f :=
  ⟨Tidy_del h.tidy _, fun y => by
    by_cases e : y = x
    · subst e; rw [atKey_del_same, hx]
    · rw [atKey_del_other (ky_ne e), h.at_], ints_del h.tidy.isMap h.ints x⟩
/-- a list without repeats that lies in another one is no longer -/
theorem nodup_le : ∀ {l r : List Int}, l.Nodup → (∀ x, x ∈ l → x ∈ r) → l.length ≤ r.length
  | [], _, _, _ => Nat.zero_le _
  | x :: l, r, hn, h => by
    obtain ⟨h1, h2⟩ := List.nodup_cons.1 hn
    have hx := h x (by simp)
    have := nodup_le (r := r.erase x) h2 fun y hy => (List.mem_erase_of_ne (fun e => h1 (by rw [← e]; exact hy))).2 (h y (by simp [hy]))
    have e := List.length_erase_of_mem hx
    have hp := List.length_pos_of_mem hx
    simp only [List.length_cons]; omega
theorem intKeys_nodup {D : DataW Unit} (ht : Tidy D) (h : ∀ es, D = .map es → ∀ p ∈ es, ∃ x, p.1 = ky x) : (intKeys D).Nodup ∧ (∀ x, x ∈ intKeys D ↔ Maps.has D (ky x) = true) ∧ (intKeys D).length = Maps.size D := by
  obtain ⟨es, rfl, hp⟩ := ht
  have hk := h es rfl
  refine ⟨?_, fun x => ?_, by simp [intKeys, Maps.size]⟩
  · show (es.map fun p => Go.intOf p.1).Nodup
    refine List.pairwise_map.2 (hp.imp_of_mem fun {p q} hp' hq' hne e => hne ?_)
    obtain ⟨a, ha⟩ := hk p hp'
    obtain ⟨b, hb⟩ := hk q hq'
    rw [ha, hb] at e ⊢
    exact congrArg _ e
  · rw [has_eq, List.any_eq_true]
    show x ∈ es.map (fun p => Go.intOf p.1) ↔ _
    rw [List.mem_map]
    constructor
    · rintro ⟨p, hp', rfl⟩
      obtain ⟨a, ha⟩ := hk p hp'
      exact ⟨p, hp', by rw [ha]; simp [Lit.sameKey, Go.intOf]⟩
    · rintro ⟨p, hp', hs⟩
      obtain ⟨a, ha⟩ := hk p hp'
      rw [ha] at hs
      exact ⟨p, hp', by rw [ha]; simpa [Lit.sameKey, Go.intOf] using hs⟩
theorem size_of_has {D : DataW Unit} (ht : Tidy D) (h : ∀ es, D = .map es → ∀ p ∈ es, ∃ x, p.1 = ky x) {r : List Int} (hr : ∀ x, Maps.has D (ky x) = true → x ∈ r) : Maps.size D ≤ r.length := by
  obtain ⟨h1, h2, h3⟩ := intKeys_nodup ht h
  rw [← h3]
  exact nodup_le h1 fun x hx => hr x ((h2 x).1 hx)
theorem ownsMap_tight {w : World} {k : TypeId} {R : Value → Option (DataW Unit × List MemPlace)} {b N : Nat} {D : DataW Unit} (h : w.ownsMap Try.prog k R b N D) {M : Nat} (hM : Maps.size D ≤ M) : w.ownsMap Try.prog k R b M D := by
  obtain ⟨es, clock, hb, F, hs, rfl⟩ := h
  exact ⟨es, clock, hb, F, by simpa [Maps.size, length_sorted] using hM, rfl⟩
/-- the degrees of the classes -/
structure DegM (D : DataW Unit) (f : Int → Int) : Prop where
  a : MapA D f
  has : ∀ x, Maps.has D (ky x) = true → f x ≠ 0
theorem DegM.nil : DegM (.map []) (fun _ => 0) := ⟨MapA.nil, fun x h => by simp [Maps.has] at h⟩
theorem DegM.put {D : DataW Unit} {f g : Int → Int} (h : DegM D f) (x c : Int) (hc : c ≠ 0) (hg : ∀ y, g y = if y = x then c else f y) : DegM (D.put (ky x) (i64D c)) g :=
  ⟨h.a.put x c hg, fun y hy => by
    by_cases e : y = x
    · rw [hg, if_pos e]; exact hc
    · rw [has_put_other (ky_ne e)] at hy; rw [hg, if_neg e]; exact h.has y hy⟩
/-- .. and nought is struck -/
theorem DegM.putDel {D : DataW Unit} {f g : Int → Int} (h : DegM D f) (x : Int) (hg : ∀ y, g y = if y = x then 0 else f y) : DegM ((D.put (ky x) (i64D 0)).del (ky x)) g :=
  ⟨(h.a.put x 0 hg).del x (by rw [hg, if_pos rfl]), fun y hy => by
    by_cases e : y = x
    · subst e; rw [has_del_same] at hy; cases hy
    · rw [has_del_other (ky_ne e), has_put_other (ky_ne e)] at hy; rw [hg, if_neg e]; exact h.has y hy⟩
theorem DegM.congr {D : DataW Unit} {f g : Int → Int} (h : DegM D f) (e : ∀ x, f x = g x) : DegM D g := by
  have : f = g := funext e
  rw [← this]; exact h
/-- the counts of labels -/
structure CntM (D : DataW Unit) (l : List Int) : Prop where
  a : MapA D (fun x => (l.count x : Nat))
  has : ∀ x, Maps.has D (ky x) = true ↔ x ∈ l
theorem CntM.nil : CntM (.map []) [] := ⟨MapA.nil, fun x => by simp [Maps.has]⟩
theorem CntM.snoc {D : DataW Unit} {l : List Int} (h : CntM D l) (x : Int) {c : Int} (hc : c = (l.count x : Nat) + 1) : CntM (D.put (ky x) (i64D c)) (l ++ [x]) :=
  ⟨h.a.put x c fun y => by
    by_cases e : y = x
    · subst e; rw [if_pos rfl, hc]; simp
    · have e' : ¬ x = y := fun e2 => e e2.symm
      rw [if_neg e]; simp [List.count_append, e'], fun y => by
    by_cases e : y = x
    · subst e; rw [has_put_same h.a.tidy.isMap (kyL _)]; simp
    · rw [has_put_other (ky_ne e), h.has]; simp [e]⟩
/-- the labels that occur, in rising order -/
def labs (D : DataW Unit) : List Int := (intKeys D).mergeSort leI
theorem CntM.labs {D : DataW Unit} {l : List Int} (h : CntM D l) : (labs D).Pairwise (· < ·) ∧ ∀ x, x ∈ labs D ↔ x ∈ l := by
  obtain ⟨h1, h2, _⟩ := intKeys_nodup h.a.tidy h.a.ints
  have tr : ∀ a b c : Int, leI a b = true → leI b c = true → leI a c = true := fun a b c h1 h2 => by simp only [leI, decide_eq_true_eq] at *; exact Int.le_trans h1 h2
  have tt : ∀ a b : Int, (leI a b || leI b a) = true := fun a b => by simp only [leI, Bool.or_eq_true, decide_eq_true_eq]; exact Int.le_total a b
  have hp := List.mergeSort_perm (intKeys D) leI
  refine ⟨?_, fun x => by rw [Proofs.Ytemcilmefknbbaa.labs, hp.mem_iff, h2, h.has]⟩
  have hs := List.pairwise_mergeSort tr tt (intKeys D)
  have hn : (Proofs.Ytemcilmefknbbaa.labs D).Nodup := hp.nodup_iff.2 h1
  exact (hs.and hn).imp fun ⟨a, b⟩ => by simp only [leI, decide_eq_true_eq] at a; omega
end Go.Proofs.Ytemcilmefknbbaa
