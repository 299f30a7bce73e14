/- Maps of numbers in memory, and the counts of labels. No conditions. -/
import Derived.Test.YtibdggbejogciaaGreatMe
import Derived.Test.YtibdggbejogciaaGreatLbs
import Derived.Test.YtibdggbejogciaaGreatDsGp
import Derived.Test.YtibdggbejogciaaGreatShelf
import Derived.Maps.OwnIn
import Derived.Maps.OwnOps
import Derived.Maps.OwnSet
import Derived.Lib.SlKeysI
namespace Go.Proofs.YtibdggbejogciaaGreat
open Go.RowKit Go.Shelf Go.Maps Go.Sort

theorem lawI : Keyed Tryz.prog 3 := int_keyed Tryz.underlying3
theorem zeroI (w : World) : (zeroValue 3).run Tryz.prog w = .ok (.int .i64 0) w := by kernel_rfl
theorem map_ptr : Tryz.prog.underlying 73 = some (.map 3 3) := Tryz.underlying73
abbrev ky (x : Int) : Lit := .int .i64 x
abbrev i64D (x : Int) : DataW Unit := .lit (.int .i64 x)
theorem kyL (x : Int) : WideAt.IsKeyLit (ky x) := trivial
theorem i64D_inj {x y : Int} (h : i64D x = i64D y) : x = y := by simpa using h
theorem ky_ne {x y : Int} (h : x ≠ y) : ky x ≠ ky y := fun e => h (by simpa using e)
/-- a map of numbers: what stands at each key -/
structure MapA (D : DataW Unit) (f : Int → Int) : Prop where
  tidy : Tidy D
  at_ : ∀ x, D.atKey (ky x) (i64D 0) = i64D (f x)
  ints : ∀ es, D = .map es → ∀ p ∈ es, ∃ x, p.1 = ky x
theorem MapA.nil : MapA (.map []) (fun _ => 0) := ⟨tidy_empty, fun _ => rfl, fun es h p hp => by cases h; cases hp⟩
theorem mem_insert_of {H : Type} {x : Lit × DataW H} : ∀ {l : List (Lit × DataW H)} {p : Lit × DataW H}, p ∈ DataW.insert x l → p = x ∨ p ∈ l
  | [], p, h => by simp only [DataW.insert, List.mem_singleton] at h; exact .inl h
  | y :: r, p, h => by
    simp only [DataW.insert] at h
    split at h
    · exact List.mem_cons.1 h
    · rcases List.mem_cons.1 h with h | h
      · exact .inr (by simp [h])
      · rcases mem_insert_of h with h | h
        · exact .inl h
        · exact .inr (by simp [h])
theorem ints_put {D : DataW Unit} (hD : IsMap D) (h : ∀ es, D = .map es → ∀ p ∈ es, ∃ x, p.1 = ky x) (x c : Int) : ∀ es, D.put (ky x) (i64D c) = .map es → ∀ p ∈ es, ∃ x, p.1 = ky x := by
  obtain ⟨es, rfl⟩ := hD
  intro fs hf p hp
  have h7 : DataW.insert (ky x, i64D c) (es.filter fun p => !p.1.sameKey (ky x)) = fs := by simpa [DataW.put] using hf
  rw [← h7] at hp
  rcases mem_insert_of hp with rfl | hp
  · exact ⟨_, rfl⟩
  · exact h es rfl p (List.mem_filter.1 hp).1
theorem MapA.put {D : DataW Unit} {f g : Int → Int} (h : MapA D f) (x c : Int) (hg : ∀ y, g y = if y = x then c else f y) : MapA (D.put (ky x) (i64D c)) g :=
  ⟨h.tidy.put (kyL x) _, fun y => by
    by_cases e : y = x
    · subst e; rw [atKey_put_same h.tidy.isMap (kyL _), hg, if_pos rfl]
    · rw [atKey_put_other (ky_ne e), h.at_, hg, if_neg e], ints_put h.tidy.isMap h.ints x c⟩
/-- a list without repeats that lies in another one is no longer -/
theorem nodup_leI : ∀ {l r : List Int}, l.Nodup → (∀ x, x ∈ l → x ∈ r) → l.length ≤ r.length
  | [], _, _, _ => Nat.zero_le _
  | x :: l, r, hn, h => by
    obtain ⟨h1, h2⟩ := List.nodup_cons.1 hn
    have hx := h x (by simp)
    have := nodup_leI (r := r.erase x) h2 fun y hy => (List.mem_erase_of_ne (fun e => h1 (by rw [← e]; exact hy))).2 (h y (by simp [hy]))
    have e := List.length_erase_of_mem hx
    have hp := List.length_pos_of_mem hx
    simp only [List.length_cons]; omega
theorem intKeys_nodup {D : DataW Unit} (ht : Tidy D) (h : ∀ es, D = .map es → ∀ p ∈ es, ∃ x, p.1 = ky x) : (intKeys D).Nodup ∧ (∀ x, x ∈ intKeys D ↔ Maps.has D (ky x) = true) ∧ (intKeys D).length = Maps.size D := by
  obtain ⟨es, rfl, hp⟩ := ht
  have hk := h es rfl
  refine ⟨?_, fun x => ?_, by simp [intKeys, Maps.size]⟩
  · show (es.map fun p => Go.intOf p.1).Nodup
    refine List.pairwise_map.2 (hp.imp_of_mem fun {p q} hp' hq' hne e => hne ?_)
    obtain ⟨a, ha⟩ := hk p hp'
    obtain ⟨b, hb⟩ := hk q hq'
    rw [ha, hb] at e ⊢
    exact congrArg _ e
  · rw [has_eq, List.any_eq_true]
    show x ∈ es.map (fun p => Go.intOf p.1) ↔ _
    rw [List.mem_map]
    constructor
    · rintro ⟨p, hp', rfl⟩
      obtain ⟨a, ha⟩ := hk p hp'
      exact ⟨p, hp', by rw [ha]; simp [Lit.sameKey, Go.intOf]⟩
    · rintro ⟨p, hp', hs⟩
      obtain ⟨a, ha⟩ := hk p hp'
      rw [ha] at hs
      exact ⟨p, hp', by rw [ha]; simpa [Lit.sameKey, Go.intOf] using hs⟩
theorem size_of_has {D : DataW Unit} (ht : Tidy D) (h : ∀ es, D = .map es → ∀ p ∈ es, ∃ x, p.1 = ky x) {r : List Int} (hr : ∀ x, Maps.has D (ky x) = true → x ∈ r) : Maps.size D ≤ r.length := by
  obtain ⟨h1, h2, h3⟩ := intKeys_nodup ht h
  rw [← h3]
  exact nodup_leI h1 fun x hx => hr x ((h2 x).1 hx)
theorem ownsMap_tight {w : World} {k : TypeId} {R : Value → Option (DataW Unit × List MemPlace)} {b N : Nat} {D : DataW Unit} (h : w.ownsMap Tryz.prog k R b N D) {M : Nat} (hM : Maps.size D ≤ M) : w.ownsMap Tryz.prog k R b M D := by
  obtain ⟨es, clock, hb, F, hs, rfl⟩ := h
  exact ⟨es, clock, hb, F, by simpa [Maps.size, length_sorted] using hM, rfl⟩
/-- the counts of labels -/
structure CntM (D : DataW Unit) (l : List Int) : Prop where
  a : MapA D (fun x => (l.count x : Nat))
  has : ∀ x, Maps.has D (ky x) = true ↔ x ∈ l
theorem CntM.nil : CntM (.map []) [] := ⟨MapA.nil, fun x => by simp [Maps.has]⟩
theorem CntM.snoc {D : DataW Unit} {l : List Int} (h : CntM D l) (x : Int) {c : Int} (hc : c = (l.count x : Nat) + 1) : CntM (D.put (ky x) (i64D c)) (l ++ [x]) :=
  ⟨h.a.put x c fun y => by
    by_cases e : y = x
    · subst e; rw [if_pos rfl, hc]; simp
    · have e' : ¬ x = y := fun e2 => e e2.symm
      rw [if_neg e]; simp [List.count_append, e'], fun y => by
    by_cases e : y = x
    · subst e; rw [has_put_same h.a.tidy.isMap (kyL _)]; simp
    · rw [has_put_other (ky_ne e), h.has]; simp [e]⟩
/-- a map of the call's own, of numbers -/
abbrev OwnM (w : World) (mb N : Nat) (D : DataW Unit) : Prop := w.ownsMap Tryz.prog 3 (plainElem (H := Unit) Tryz.prog 3) mb N D
theorem look_eq {w : World} {mb N : Nat} {D : DataW Unit} {f : Int → Int} (hown : OwnM w mb N D) (hA : MapA D f) {x : Int} (hx : (Lit.int .i64 x).wf = true) :
    (Instr.lookup 73 (.map (some mb)) (.int .i64 x) false).run Tryz.prog w = .ok (.int .i64 (f x)) w := by
  obtain ⟨c, hrun, hat, _⟩ := hown.lookup_int lawI map_ptr Tryz.underlying3 (zeroI _) (keyOf_int_mk Tryz.underlying3 hx)
  have e := i64D_inj (hat.symm.trans (hA.at_ x))
  rw [← e]; exact hrun
theorem ownM_of {w w' : World} {mb N : Nat} {D : DataW Unit} (h : OwnM w mb N D) (e : w'.heap[mb]? = w.heap[mb]?) : OwnM w' mb N D := by
  obtain ⟨es, ck, h1, h2⟩ := h
  exact ⟨es, ck, e.trans h1, h2⟩
/-- what is read lies as it lay when the map is written -/
theorem Rd.mapped {t : TypeId} {size : Nat} {w w' : World} {B mb N : Nat} {D : DataW Unit} {v : Value} {n : Nat} {f : Nat → Nat → Value} {A : Nat → Addr} (h : Rd t size w B v n f A) (hown : OwnM w mb N D) (hg : w.grownBy w' (some mb)) : Rd t size w' B v n f A :=
  ⟨h.ix, h.lt, fun i hi j hj => cell_kept (h.cell i hi j hj) hg (fun r e => by
    cases e
    obtain ⟨es, ck, h1, _⟩ := hown
    exact ⟨_, h1, rfl⟩)⟩
/-- what is read lies as it lay when another row grows -/
theorem Rd.grown {t : TypeId} {size : Nat} {w w' : World} {B : Nat} {v : Value} {n : Nat} {f : Nat → Nat → Value} {A : Nat → Addr} {row : Option Nat} (h : Rd t size w B v n f A) (hB : B ≤ w.heap.size) (hg : w.grownBy w' row) (hr : ∀ i, i < n → row ≠ some (A i).block) : Rd t size w' B v n f A :=
  ⟨h.ix, h.lt, fun i hi j hj => by
    rw [World.cell?_of_block (hg.block _ (by rw [add_block]; have := h.lt i hi; omega) (fun e => hr i hi (by rw [add_block] at e; exact e.symm)))]
    exact h.cell i hi j hj⟩
/-- the counts of the labels of vertices -/
theorem CntM.vals {D : DataW Unit} {n : Nat} {f : Nat → Nat} (h : CntM D (intsN (labs n f))) (hn : ∀ x, x < n → f x < n) (K : LabOk f) : (∀ x, x ∈ (intKeys D).mergeSort (fun x y => decide (x ≤ y)) ↔ x ∈ intsN (lbL f n)) := fun x => by
  obtain ⟨h1, h2, _⟩ := intKeys_nodup h.a.tidy h.a.ints
  rw [(List.mergeSort_perm (intKeys D) _).mem_iff, h2, h.has]
  unfold intsN labs lbL
  simp only [List.mem_map, List.mem_filter, List.mem_range, decide_eq_true_eq]
  constructor
  · rintro ⟨y, ⟨j, hj, rfl⟩, rfl⟩
    exact ⟨f j, ⟨hn j hj, K.idem j⟩, rfl⟩
  · rintro ⟨y, ⟨hy, hf⟩, rfl⟩
    exact ⟨y, ⟨y, hy, hf⟩, rfl⟩
theorem up_extI : ∀ {l m : List Int}, l.Pairwise (· < ·) → m.Pairwise (· < ·) → (∀ x, x ∈ l ↔ x ∈ m) → l = m
  | [], [], _, _, _ => rfl
  | [], b :: m, _, _, h => absurd ((h b).2 (by simp)) (by simp)
  | a :: l, [], _, _, h => absurd ((h a).1 (by simp)) (by simp)
  | a :: l, b :: m, hl, hm, h => by
    have ⟨h1, h2⟩ := List.pairwise_cons.1 hl
    have ⟨h3, h4⟩ := List.pairwise_cons.1 hm
    have e : a = b := by
      rcases List.mem_cons.1 ((h a).1 (by simp)) with c | c
      · exact c
      · rcases List.mem_cons.1 ((h b).2 (by simp)) with d | d
        · exact d.symm
        · have := h1 b d; have := h3 a c; omega
    subst e
    rw [up_extI h2 h4 fun x => ?_]
    constructor
    · intro hx
      rcases List.mem_cons.1 ((h x).1 (by simp [hx])) with c | c
      · have := h1 x hx; omega
      · exact c
    · intro hx
      rcases List.mem_cons.1 ((h x).2 (by simp [hx])) with c | c
      · have := h3 x hx; omega
      · exact c
theorem lbL_up (f : Nat → Nat) (n : Nat) : (intsN (lbL f n)).Pairwise (· < ·) := by
  unfold intsN lbL
  rw [List.pairwise_map]
  exact ((List.pairwise_lt_range (n := n)).filter _).imp fun h => by omega
theorem CntM.sorted {D : DataW Unit} {n : Nat} {f : Nat → Nat} {ss : List Int} (h : CntM D (intsN (labs n f))) (hn : ∀ x, x < n → f x < n) (K : LabOk f) (hp : ss.Perm (intKeys D)) : ss.mergeSort (fun x y => decide (x ≤ y)) = intsN (lbL f n) := by
  obtain ⟨h1, h2, _⟩ := intKeys_nodup h.a.tidy h.a.ints
  have tr : ∀ a b c : Int, decide (a ≤ b) = true → decide (b ≤ c) = true → decide (a ≤ c) = true := fun a b c h1 h2 => by simp only [decide_eq_true_eq] at *; exact Int.le_trans h1 h2
  have tt : ∀ a b : Int, (decide (a ≤ b) || decide (b ≤ a)) = true := fun a b => by simp only [Bool.or_eq_true, decide_eq_true_eq]; exact Int.le_total a b
  have hs := List.pairwise_mergeSort tr tt ss
  have hnd : (ss.mergeSort (fun x y => decide (x ≤ y))).Nodup := ((List.mergeSort_perm ss _).trans hp).nodup_iff.2 h1
  refine up_extI ((hs.and hnd).imp fun ⟨a, b⟩ => by simp only [decide_eq_true_eq] at a; omega) (lbL_up f n) fun x => ?_
  rw [(List.mergeSort_perm ss _).mem_iff, hp.mem_iff, ← (List.mergeSort_perm (intKeys D) (fun x y => decide (x ≤ y))).mem_iff]
  exact h.vals hn K x
theorem cnt_cls (n : Nat) (f : Nat → Nat) (x : Nat) : (intsN (labs n f)).count ((f x : Nat) : Int) = clsN n f x := by
  unfold intsN labs clsN
  rw [List.count_eq_countP, List.countP_map, List.countP_map, List.countP_eq_length_filter]
  congr 1
  refine List.filter_congr fun i _ => ?_
  simp only [Function.comp]
  by_cases e : f i = f x
  · simp [e]
  · have : ¬ ((f i : Nat) : Int) = ((f x : Nat) : Int) := by omega
    simp [e, this]
end Go.Proofs.YtibdggbejogciaaGreat
