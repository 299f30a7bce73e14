/- Labels as a list, in memory: as they are read, and as a call has laid them. No conditions. -/
import Derived.Test.YtpbgophogneecaaGreatMe
import Derived.Test.YtpbgophogneecaaGreatDsa
import Derived.Test.YtpbgophogneecaaGreatShelf
import Derived.Maps.OwnIn
import Derived.Maps.OwnOps
import Derived.Maps.OwnSet
import Derived.Lib.SlKeysI
namespace Go.Proofs.YtpbgophogneecaaGreat
open Go.RowKit

/-- labels as a list -/
def labs (n : Nat) (f : Nat → Nat) : List Nat := (List.range n).map f
theorem labs_len (n : Nat) (f : Nat → Nat) : (labs n f).length = n := by simp [labs]
theorem labs_succ (n : Nat) (f : Nat → Nat) : labs (n + 1) f = labs n f ++ [f n] := by simp [labs, List.range_succ]
theorem labs_at {n i : Nat} {f : Nat → Nat} (h : i < n) : (labs n f).getD i 0 = f i := by simp [labs, List.getD, h]
/-- labels in memory, as they are read -/
abbrev LabR (w : World) (B : Nat) (v : Value) (n : Nat) (f : Nat → Nat) (A : Nat → Addr) : Prop := Rd 46 1 w B v n (nums .i64 (intsN (labs n f))) A
theorem lab_cell {w : World} {B n : Nat} {v : Value} {f : Nat → Nat} {A : Nat → Addr} (h : LabR w B v n f A) {i : Nat} (hi : i < n) : w.cell? (A i) = some (.int .i64 ((f i : Nat) : Int)) := by
  have h1 := h.cell i hi 0 (by omega)
  rw [add_zero] at h1
  rw [h1]
  unfold nums
  rw [intsN_nth, labs_at hi]
/-- labels that a call has laid -/
def LabO (base : Nat) (v : Value) (n : Nat) (f : Nat → Nat) (w : World) : Prop := w.ownsRow base 3 1 v n ((intsN (labs n f)).map (Value.int .i64))
theorem LabO.rd {base n : Nat} {v : Value} {f : Nat → Nat} {w : World} (h : LabO base v n f w) : ∃ a cap A, v = .slice a n cap ∧ LabR w w.heap.size (.slice a n cap) n f A := by
  have h0 : OwnI base v (labs n f) w := by unfold OwnI; rw [labs_len]; exact h
  obtain ⟨a, cap, A, e1, e2⟩ := ownI_rd h0
  rw [labs_len] at e1 e2
  exact ⟨a, cap, A, e1, e2⟩
theorem labs_id_succ (k : Nat) : intsN (labs (k + 1) id) = intsN (labs k id) ++ [(k : Int)] := by rw [labs_succ, intsN_snoc]; rfl
end Go.Proofs.YtpbgophogneecaaGreat

/- Maps of numbers in memory, and the counts of labels. No conditions. -/
namespace Go.Proofs.YtpbgophogneecaaGreat
open Go.RowKit Go.Shelf Go.Maps Go.Sort

theorem lawI : Keyed Tryz.prog 3 := int_keyed Tryz.underlying3
theorem zeroI (w : World) : (zeroValue 3).run Tryz.prog w = .ok (.int .i64 0) w := by kernel_rfl
theorem map_ptr : Tryz.prog.underlying 104 = some (.map 3 3) := Tryz.underlying104
abbrev ky (x : Int) : Lit := .int .i64 x
abbrev i64D (x : Int) : DataW Unit := .lit (.int .i64 x)
theorem kyL (x : Int) : WideAt.IsKeyLit (ky x) := trivial
theorem i64D_inj {x y : Int} (h : i64D x = i64D y) : x = y := by simpa using h
theorem ky_ne {x y : Int} (h : x ≠ y) : ky x ≠ ky y := fun e => h (by simpa using e)
/-- a map of numbers: what stands at each key -/
structure MapA (D : DataW Unit) (f : Int → Int) : Prop where
  tidy : Tidy D
  at_ : ∀ x, D.atKey (ky x) (i64D 0) = i64D (f x)
  ints : ∀ es, D = .map es → ∀ p ∈ es, ∃ x, p.1 = ky x
theorem MapA.nil : MapA (.map []) (fun _ => 0) := ⟨tidy_empty, fun _ => rfl, fun es h p hp => by cases h; cases hp⟩
theorem mem_insert_of {H : Type} {x : Lit × DataW H} : ∀ {l : List (Lit × DataW H)} {p : Lit × DataW H}, p ∈ DataW.insert x l → p = x ∨ p ∈ l
  | [], p, h => by simp only [DataW.insert, List.mem_singleton] at h; exact .inl h
  | y :: r, p, h => by
    simp only [DataW.insert] at h
    split at h
    · exact List.mem_cons.1 h
    · rcases List.mem_cons.1 h with h | h
      · exact .inr (by simp [h])
      · rcases mem_insert_of h with h | h
        · exact .inl h
        · exact .inr (by simp [h])
theorem ints_put {D : DataW Unit} (hD : IsMap D) (h : ∀ es, D = .map es → ∀ p ∈ es, ∃ x, p.1 = ky x) (x c : Int) : ∀ es, D.put (ky x) (i64D c) = .map es → ∀ p ∈ es, ∃ x, p.1 = ky x := by
  obtain ⟨es, rfl⟩ := hD
  intro fs hf p hp
  have h7 : DataW.insert (ky x, i64D c) (es.filter fun p => !p.1.sameKey (ky x)) = fs := by simpa [DataW.put] using hf
  rw [← h7] at hp
  rcases mem_insert_of hp with rfl | hp
  · exact ⟨_, rfl⟩
  · exact h es rfl p (List.mem_filter.1 hp).1
theorem MapA.put {D : DataW Unit} {f g : Int → Int} (h : MapA D f) (x c : Int) (hg : ∀ y, g y = if y = x then c else f y) : MapA (D.put (ky x) (i64D c)) g :=
  ⟨h.tidy.put (kyL x) _, fun y => by
    by_cases e : y = x
    · subst e; rw [atKey_put_same h.tidy.isMap (kyL _), hg, if_pos rfl]
    · rw [atKey_put_other (ky_ne e), h.at_, hg, if_neg e], ints_put h.tidy.isMap h.ints x c⟩
/-- a list without repeats that lies in another one is no longer -/
theorem nodup_leI : ∀ {l r : List Int}, l.Nodup → (∀ x, x ∈ l → x ∈ r) → l.length ≤ r.length
  | [], _, _, _ => Nat.zero_le _
  | x :: l, r, hn, h => by
    obtain ⟨h1, h2⟩ := List.nodup_cons.1 hn
    have hx := h x (by simp)
    have := nodup_leI (r := r.erase x) h2 fun y hy => (List.mem_erase_of_ne (fun e => h1 (by rw [← e]; exact hy))).2 (h y (by simp [hy]))
    have e := List.length_erase_of_mem hx
    have hp := List.length_pos_of_mem hx
    simp only [List.length_cons]; omega
theorem intKeys_nodup {D : DataW Unit} (ht : Tidy D) (h : ∀ es, D = .map es → ∀ p ∈ es, ∃ x, p.1 = ky x) : (intKeys D).Nodup ∧ (∀ x, x ∈ intKeys D ↔ Maps.has D (ky x) = true) ∧ (intKeys D).length = Maps.size D := by
  obtain ⟨es, rfl, hp⟩ := ht
  have hk := h es rfl
  refine ⟨?_, fun x => ?_, by simp [intKeys, Maps.size]⟩
  · show (es.map fun p => Go.intOf p.1).Nodup
    refine List.pairwise_map.2 (hp.imp_of_mem fun {p q} hp' hq' hne e => hne ?_)
    obtain ⟨a, ha⟩ := hk p hp'
    obtain ⟨b, hb⟩ := hk q hq'
    rw [ha, hb] at e ⊢
    exact congrArg _ e
  · rw [has_eq, List.any_eq_true]
    show x ∈ es.map (fun p => Go.intOf p.1) ↔ _
    rw [List.mem_map]
    constructor
    · rintro ⟨p, hp', rfl⟩
      obtain ⟨a, ha⟩ := hk p hp'
      exact ⟨p, hp', by rw [ha]; simp [Lit.sameKey, Go.intOf]⟩
    · rintro ⟨p, hp', hs⟩
      obtain ⟨a, ha⟩ := hk p hp'
      rw [ha] at hs
      exact ⟨p, hp', by rw [ha]; simpa [Lit.sameKey, Go.intOf] using hs⟩
theorem size_of_has {D : DataW Unit} (ht : Tidy D) (h : ∀ es, D = .map es → ∀ p ∈ es, ∃ x, p.1 = ky x) {r : List Int} (hr : ∀ x, Maps.has D (ky x) = true → x ∈ r) : Maps.size D ≤ r.length := by
  obtain ⟨h1, h2, h3⟩ := intKeys_nodup ht h
  rw [← h3]
  exact nodup_leI h1 fun x hx => hr x ((h2 x).1 hx)
theorem ownsMap_tight {w : World} {k : TypeId} {R : Value → Option (DataW Unit × List MemPlace)} {b N : Nat} {D : DataW Unit} (h : w.ownsMap Tryz.prog k R b N D) {M : Nat} (hM : Maps.size D ≤ M) : w.ownsMap Tryz.prog k R b M D := by
  obtain ⟨es, clock, hb, F, hs, rfl⟩ := h
  exact ⟨es, clock, hb, F, by simpa [Maps.size, length_sorted] using hM, rfl⟩
/-- the counts of labels -/
structure CntM (D : DataW Unit) (l : List Int) : Prop where
  a : MapA D (fun x => (l.count x : Nat))
  has : ∀ x, Maps.has D (ky x) = true ↔ x ∈ l
theorem CntM.nil : CntM (.map []) [] := ⟨MapA.nil, fun x => by simp [Maps.has]⟩
theorem CntM.snoc {D : DataW Unit} {l : List Int} (h : CntM D l) (x : Int) {c : Int} (hc : c = (l.count x : Nat) + 1) : CntM (D.put (ky x) (i64D c)) (l ++ [x]) :=
  ⟨h.a.put x c fun y => by
    by_cases e : y = x
    · subst e; rw [if_pos rfl, hc]; simp
    · have e' : ¬ x = y := fun e2 => e e2.symm
      rw [if_neg e]; simp [List.count_append, e'], fun y => by
    by_cases e : y = x
    · subst e; rw [has_put_same h.a.tidy.isMap (kyL _)]; simp
    · rw [has_put_other (ky_ne e), h.has]; simp [e]⟩
/-- a map of the call's own, of numbers -/
abbrev OwnM (w : World) (mb N : Nat) (D : DataW Unit) : Prop := w.ownsMap Tryz.prog 3 (plainElem (H := Unit) Tryz.prog 3) mb N D
theorem look_eq {w : World} {mb N : Nat} {D : DataW Unit} {f : Int → Int} (hown : OwnM w mb N D) (hA : MapA D f) {x : Int} (hx : (Lit.int .i64 x).wf = true) :
    (Instr.lookup 104 (.map (some mb)) (.int .i64 x) false).run Tryz.prog w = .ok (.int .i64 (f x)) w := by
  obtain ⟨c, hrun, hat, _⟩ := hown.lookup_int lawI map_ptr Tryz.underlying3 (zeroI _) (keyOf_int_mk Tryz.underlying3 hx)
  have e := i64D_inj (hat.symm.trans (hA.at_ x))
  rw [← e]; exact hrun
theorem ownM_of {w w' : World} {mb N : Nat} {D : DataW Unit} (h : OwnM w mb N D) (e : w'.heap[mb]? = w.heap[mb]?) : OwnM w' mb N D := by
  obtain ⟨es, ck, h1, h2⟩ := h
  exact ⟨es, ck, e.trans h1, h2⟩
/-- what is read lies as it lay when the map is written -/
theorem Rd.mapped {t : TypeId} {size : Nat} {w w' : World} {B mb N : Nat} {D : DataW Unit} {v : Value} {n : Nat} {f : Nat → Nat → Value} {A : Nat → Addr} (h : Rd t size w B v n f A) (hown : OwnM w mb N D) (hg : w.grownBy w' (some mb)) : Rd t size w' B v n f A :=
  ⟨h.ix, h.lt, fun i hi j hj => cell_kept (h.cell i hi j hj) hg (fun r e => by
    cases e
    obtain ⟨es, ck, h1, _⟩ := hown
    exact ⟨_, h1, rfl⟩)⟩
/-- what is read lies as it lay when another row grows -/
theorem Rd.grown {t : TypeId} {size : Nat} {w w' : World} {B : Nat} {v : Value} {n : Nat} {f : Nat → Nat → Value} {A : Nat → Addr} {row : Option Nat} (h : Rd t size w B v n f A) (hB : B ≤ w.heap.size) (hg : w.grownBy w' row) (hr : ∀ i, i < n → row ≠ some (A i).block) : Rd t size w' B v n f A :=
  ⟨h.ix, h.lt, fun i hi j hj => by
    rw [World.cell?_of_block (hg.block _ (by rw [add_block]; have := h.lt i hi; omega) (fun e => hr i hi (by rw [add_block] at e; exact e.symm)))]
    exact h.cell i hi j hj⟩
/-- the counts of the labels of vertices -/
theorem CntM.vals {D : DataW Unit} {n : Nat} {f : Nat → Nat} (h : CntM D (intsN (labs n f))) (hn : ∀ x, x < n → f x < n) (K : LabOk f) : (∀ x, x ∈ (intKeys D).mergeSort (fun x y => decide (x ≤ y)) ↔ x ∈ intsN (lbL f n)) := fun x => by
  obtain ⟨h1, h2, _⟩ := intKeys_nodup h.a.tidy h.a.ints
  rw [(List.mergeSort_perm (intKeys D) _).mem_iff, h2, h.has]
  unfold intsN labs lbL
  simp only [List.mem_map, List.mem_filter, List.mem_range, decide_eq_true_eq]
  constructor
  · rintro ⟨y, ⟨j, hj, rfl⟩, rfl⟩
    exact ⟨f j, ⟨hn j hj, K.idem j⟩, rfl⟩
  · rintro ⟨y, ⟨hy, hf⟩, rfl⟩
    exact ⟨y, ⟨y, hy, hf⟩, rfl⟩
theorem up_extI : ∀ {l m : List Int}, l.Pairwise (· < ·) → m.Pairwise (· < ·) → (∀ x, x ∈ l ↔ x ∈ m) → l = m
  | [], [], _, _, _ => rfl
  | [], b :: m, _, _, h => absurd ((h b).2 (by simp)) (by simp)
  | a :: l, [], _, _, h => absurd ((h a).1 (by simp)) (by simp)
  | a :: l, b :: m, hl, hm, h => by
    have ⟨h1, h2⟩ := List.pairwise_cons.1 hl
    have ⟨h3, h4⟩ := List.pairwise_cons.1 hm
    have e : a = b := by
      rcases List.mem_cons.1 ((h a).1 (by simp)) with c | c
      · exact c
      · rcases List.mem_cons.1 ((h b).2 (by simp)) with d | d
        · exact d.symm
        · have := h1 b d; have := h3 a c; omega
    subst e
    rw [up_extI h2 h4 fun x => ?_]
    constructor
    · intro hx
      rcases List.mem_cons.1 ((h x).1 (by simp [hx])) with c | c
      · have := h1 x hx; omega
      · exact c
    · intro hx
      rcases List.mem_cons.1 ((h x).2 (by simp [hx])) with c | c
      · have := h3 x hx; omega
      · exact c
theorem lbL_up (f : Nat → Nat) (n : Nat) : (intsN (lbL f n)).Pairwise (· < ·) := by
  unfold intsN lbL
  rw [List.pairwise_map]
  exact ((List.pairwise_lt_range (n := n)).filter _).imp fun h => by omega
theorem CntM.sorted {D : DataW Unit} {n : Nat} {f : Nat → Nat} {ss : List Int} (h : CntM D (intsN (labs n f))) (hn : ∀ x, x < n → f x < n) (K : LabOk f) (hp : ss.Perm (intKeys D)) : ss.mergeSort (fun x y => decide (x ≤ y)) = intsN (lbL f n) := by
  obtain ⟨h1, h2, _⟩ := intKeys_nodup h.a.tidy h.a.ints
  have tr : ∀ a b c : Int, decide (a ≤ b) = true → decide (b ≤ c) = true → decide (a ≤ c) = true := fun a b c h1 h2 => by simp only [decide_eq_true_eq] at *; exact Int.le_trans h1 h2
  have tt : ∀ a b : Int, (decide (a ≤ b) || decide (b ≤ a)) = true := fun a b => by simp only [Bool.or_eq_true, decide_eq_true_eq]; exact Int.le_total a b
  have hs := List.pairwise_mergeSort tr tt ss
  have hnd : (ss.mergeSort (fun x y => decide (x ≤ y))).Nodup := ((List.mergeSort_perm ss _).trans hp).nodup_iff.2 h1
  refine up_extI ((hs.and hnd).imp fun ⟨a, b⟩ => by simp only [decide_eq_true_eq] at a; omega) (lbL_up f n) fun x => ?_
  rw [(List.mergeSort_perm ss _).mem_iff, hp.mem_iff, ← (List.mergeSort_perm (intKeys D) (fun x y => decide (x ≤ y))).mem_iff]
  exact h.vals hn K x
theorem cnt_cls (n : Nat) (f : Nat → Nat) (x : Nat) : (intsN (labs n f)).count ((f x : Nat) : Int) = clsN n f x := by
  unfold intsN labs clsN
  rw [List.count_eq_countP, List.countP_map, List.countP_map, List.countP_eq_length_filter]
  congr 1
  refine List.filter_congr fun i _ => ?_
  simp only [Function.comp]
  by_cases e : f i = f x
  · simp [e]
  · have : ¬ ((f i : Nat) : Int) = ((f x : Nat) : Int) := by omega
    simp [e, this]
end Go.Proofs.YtpbgophogneecaaGreat

/- The walk of isOrder of package sweep at the list of the one number 0. Conditions: the list is given as a cell. -/
namespace Go.Proofs.YtpbgophogneecaaGreat
open Go.RowKit Go.Shelf Go.Maps Go.Sort
set_option maxRecDepth 100000 in
set_option maxHeartbeats 2000000 in
theorem isorder_one (ob : Nat) (w : World) (hc : w.cell? ⟨ob, 0, none⟩ = some (.int .i64 0)) (hlt : ob < w.heap.size) :
    Calls Tryz.prog 24 #[.int .i64 1, .slice (some ⟨ob, 0, none⟩) 1 1] w fun e w' => e = .returned (.bool true) ∧ Below w.heap.size w w' := by
  have hb0 : Below w.heap.size w (w.alloc (.map #[] 0)) := (Below.refl _ _).alloc (Nat.le_refl _) _
  have HM0 := Lib.hid (show OwnM (w.alloc (.map #[] 0)) w.heap.size 0 (.map []) from World.ownsMap_made w Tryz.prog 3 (plainElem (H := Unit) Tryz.prog 3))
  have HB0 := Lib.hid hb0
  have hmm : ∀ w : World, (Instr.makeMap 104 (some (.int .i64 1))).run Tryz.prog w = .ok (.map (some w.heap.size)) (w.alloc (.map #[] 0)) := fun w => by kernel_rfl
  have HC := Lib.hid hc
  clear hb0 hc
  go_enter Tryz.func24, Tryz.ntmps24
  go_wp2_with fail
  have hs0 : (w.alloc (.map #[] 0)).heap.size = w.heap.size + 1 := by simp
  have Hs0 := Lib.hid hs0
  clear hs0 hmm
  generalize w.alloc (.map #[] 0) = wa at *
  go_loopw [17] (fun iv wr => ∃ k : Nat, k ≤ 1 ∧ iv = .int .i64 (k : Nat) ∧ Hid (k = 0 → OwnM wr w.heap.size 0 (.map [])) ∧ Hid (Below w.heap.size w wr)) (fun iv _ => 1 - (intOf iv).toNat)
  case atStart => exact ⟨0, Nat.zero_le _, rfl, Lib.hid fun _ => HM0.out, HB0⟩
  case round =>
    obtain ⟨k, hk, rfl, HM, HB⟩ := hrel
    by_cases hk0 : k = 0
    · subst hk0
      have hown := HM.out rfl
      have hwf : (Lit.int .i64 0).wf = true := WalkArith.wf_i64 (by omega)
      have hlk : (Instr.lookup 104 (.map (some w.heap.size)) (.int .i64 0) false).run Tryz.prog wr = .ok (.int .i64 0) wr := look_eq hown MapA.nil hwf
      obtain ⟨w2, hrun, hown1, hgrow1⟩ := hown.update lawI map_ptr (val := .int .i64 1) (by unfold maxLen; omega) (keyOf_int_mk Tryz.underlying3 hwf) (plainElem_int Tryz.underlying3 (WalkArith.wf_i64 (by omega)))
      have HB2 := Lib.hid (HB.out.grown hgrow1 HB.out.size (fun j e => by cases e; exact Nat.le_refl _))
      have c0 := (HB.out.cell (p := ⟨ob, 0, none⟩) hlt).trans HC.out
      clear hown hwf hown1 hgrow1 HM HB
      go_wp2_with fail
      go_roundw
      case rel => exact ⟨1, Nat.le_refl _, by go_num, Lib.hid fun h => absurd h (by decide), HB2⟩
      case measure => simp only [intOf]; omega
    · obtain rfl : k = 1 := by omega
      go_wp2_with fail
      go_ret
      exact ⟨rfl, HB.out⟩
end Go.Proofs.YtpbgophogneecaaGreat
