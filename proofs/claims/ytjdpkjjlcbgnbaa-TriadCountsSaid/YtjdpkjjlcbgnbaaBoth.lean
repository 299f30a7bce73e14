/- The walk of both of package triad (what two increasing lists of numbers have in common), and the plain mathematics of it. Conditions: both lists increase, and are given as cells. -/
import Derived.Test.YtjdpkjjlcbgnbaaNbr
namespace Go.Proofs.Ytjdpkjjlcbgnbaa
open Go.RowKit Go.Shelf

/-- what two lists have in common -/
def lowB (l : List Int) (x : Int) : Nat := l.countP (· < x)
def hasB (l : List Int) (x : Int) : Bool := l.contains x
def inter (a b : List Int) : List Int := a.filter (hasB b)
theorem mem_inter {a b : List Int} {x : Int} : x ∈ inter a b ↔ x ∈ a ∧ x ∈ b := by simp [inter, hasB]
theorem inter_sorted {a b : List Int} (h : a.Pairwise (· < ·)) : (inter a b).Pairwise (· < ·) := h.filter _
theorem sorted_ext {a b : List Int} (ha : a.Pairwise (· < ·)) (hb : b.Pairwise (· < ·)) (h : ∀ x, x ∈ a ↔ x ∈ b) : a = b := by
  have na : a.Nodup := ha.imp fun h => by omega
  have nb : b.Nodup := hb.imp fun h => by omega
  exact List.Perm.eq_of_pairwise (le := fun x y : Int => x < y) (fun x y _ _ h1 h2 => by omega) ha hb ((List.perm_ext_iff_of_nodup na nb).2 h)
theorem inter_comm {a b : List Int} (ha : a.Pairwise (· < ·)) (hb : b.Pairwise (· < ·)) : inter a b = inter b a :=
  sorted_ext (inter_sorted ha) (inter_sorted hb) fun x => by rw [mem_inter, mem_inter]; exact And.comm
theorem lowB_le (l : List Int) (x : Int) : lowB l x ≤ l.length := List.countP_le_length
theorem take_low {l : List Int} (h : l.Pairwise (· < ·)) (x : Int) : (∀ z, z ∈ l.take (lowB l x) → z < x) ∧ ∀ z, z ∈ l.drop (lowB l x) → x ≤ z := by
  induction l with
  | nil => simp [lowB]
  | cons y r ih =>
    obtain ⟨h1, h2⟩ := List.pairwise_cons.1 h
    obtain ⟨i1, i2⟩ := ih h2
    by_cases hy : y < x
    · have e : lowB (y :: r) x = lowB r x + 1 := by simp [lowB, hy]
      rw [e]
      refine ⟨fun z hz => ?_, fun z hz => i2 z hz⟩
      rcases List.mem_cons.1 hz with rfl | hz
      · exact hy
      · exact i1 z hz
    · have e : lowB (y :: r) x = 0 := by
        simp only [lowB, List.countP_eq_zero, decide_eq_true_eq]
        intro z hz
        rcases List.mem_cons.1 hz with rfl | hz
        · exact hy
        · have := h1 z hz; omega
      rw [e]
      refine ⟨fun z hz => absurd hz (by simp), fun z hz => ?_⟩
      rcases List.mem_cons.1 (by simpa using hz) with rfl | hz
      · omega
      · have := h1 z hz; omega
/-- the second list may be cut -/
theorem low_cut {a b : List Int} (ha : a.Pairwise (· < ·)) (hb : b.Pairwise (· < ·)) {k p : Nat} (hk : k < a.length) (h : ∀ x, x ∈ a.drop k → (x ∈ b ↔ x ∈ b.drop p)) :
    ∀ x, x ∈ a.drop (k + 1) → (x ∈ b ↔ x ∈ b.drop (p + lowB (b.drop p) a[k])) := by
  intro x hx
  have e : a.drop k = a[k] :: a.drop (k + 1) := List.drop_eq_getElem_cons hk
  have hlt : a[k] < x := by
    have := ha.drop (i := k)
    rw [e] at this
    exact (List.pairwise_cons.1 this).1 x hx
  rw [h x (by rw [e]; exact List.mem_cons_of_mem _ hx), ← List.drop_drop]
  have t := take_low (hb.drop (i := p)) a[k]
  conv => lhs; rw [← List.take_append_drop (lowB (b.drop p) a[k]) (b.drop p)]
  rw [List.mem_append]
  exact ⟨fun h => h.resolve_left (fun h => by have := t.1 x h; omega), .inr⟩
theorem inter_succ {a b : List Int} {k : Nat} (hk : k < a.length) : inter (a.take (k + 1)) b = if hasB b a[k] then inter (a.take k) b ++ [a[k]] else inter (a.take k) b := by
  rw [List.take_succ_eq_append_getElem hk]
  simp only [inter, List.filter_append, List.filter_cons, List.filter_nil]
  by_cases h : hasB b a[k] = true
  · rw [if_pos h, if_pos h]
  · rw [if_neg h, if_neg h, List.append_nil]
theorem inter_len (a b : List Int) : (inter a b).length ≤ a.length := List.length_filter_le _ _

/-- a list of numbers in memory, at a place that can be cut -/
structure RL (w : World) (B : Nat) (v : Value) (l : List Int) : Prop where
  form : ∃ a cap, v = .slice a l.length cap ∧ l.length ≤ cap ∧ (0 < l.length → ∃ g off, a = some ⟨g, off, none⟩ ∧ g < B ∧ ∀ i, i < l.length → w.cell? ⟨g, off + i, none⟩ = some (.int .i64 (nth l i)))
theorem RL.below {w w' : World} {B : Nat} {v : Value} {l : List Int} (h : RL w B v l) (hb : Below B w w') : RL w' B v l := by
  obtain ⟨a, cap, h1, h2, h3⟩ := h.form
  refine ⟨a, cap, h1, h2, fun hl => ?_⟩
  obtain ⟨g, off, h4, h5, h6⟩ := h3 hl
  exact ⟨g, off, h4, h5, fun i hi => by rw [hb.cell h5]; exact h6 i hi⟩
theorem RL.mono {w : World} {B B' : Nat} {v : Value} {l : List Int} (h : RL w B v l) (hb : B ≤ B') : RL w B' v l := by
  obtain ⟨a, cap, h1, h2, h3⟩ := h.form
  refine ⟨a, cap, h1, h2, fun hl => ?_⟩
  obtain ⟨g, off, h4, h5, h6⟩ := h3 hl
  exact ⟨g, off, h4, by omega, h6⟩
theorem RL.rd {w : World} {B : Nat} {v : Value} {l : List Int} (h : RL w B v l) : ∃ A, Sl 48 .i64 w B v l A := by
  obtain ⟨a, cap, rfl, h2, h3⟩ := h.form
  rcases Nat.eq_zero_or_pos l.length with h0 | h0
  · refine ⟨fun _ => ⟨0, 0, none⟩, ?_⟩
    show Rd _ _ _ _ _ l.length _ _
    rw [h0]; exact Rd.nil _
  · obtain ⟨g, off, rfl, h5, h6⟩ := h3 h0
    refine ⟨_, Rd.addr etI (fun _ => h5) fun i hi j hj => ?_⟩
    obtain rfl : j = 0 := by omega
    rw [add_mk, Nat.mul_one, Nat.add_zero]
    exact h6 i hi
theorem RL.own {w : World} {base : Nat} {v : Value} {l : List Int} (h : w.ownsRow base 3 1 v l.length (l.map (Value.int .i64))) : RL w w.heap.size v l := by
  rcases h.2 with ⟨rfl, h0⟩ | ⟨g, cap, cur, rfl, hb, hg, hn, hm, hs, ht⟩
  · exact ⟨none, 0, by rw [h0], by omega, fun h => by omega⟩
  · refine ⟨_, cap, rfl, hn, fun hl => ⟨g, 0, rfl, (Array.getElem?_eq_some_iff.1 hg).1, fun i hi => ?_⟩⟩
    have := h.cells (g := g) rfl i (.int .i64 (nth l i)) (by simp [nth, hi])
    rw [add_mk] at this; exact this
/-- the list from a place on -/
theorem RL.cut {B : Nat} {v : Value} {l : List Int} {w : World} (h : RL w B v l) {p : Nat} (hp : p ≤ l.length) :
    ∃ v', (∀ w' : World, (Instr.slice 48 v (some (.int .i64 (p : Int))) none none).run Try.prog w' = .ok v' w') ∧ RL w B v' (l.drop p) := by
  obtain ⟨a, cap, rfl, h2, h3⟩ := h.form
  cases a with
  | none =>
    have h0 : l.length = 0 := by
      rcases Nat.eq_zero_or_pos l.length with h0 | h0
      · exact h0
      · obtain ⟨g, off, h4, _⟩ := h3 h0; cases h4
    obtain rfl := List.eq_nil_of_length_eq_zero h0
    obtain rfl : p = 0 := by simpa using hp
    refine ⟨.slice none 0 cap, fun w' => ?_, ⟨none, cap, rfl, by simp, fun h => by simp at h⟩⟩
    simp [Instr.slice, run_underlying etI.ht, Instr.sliceBounds, Instr.sliceBound, asIntOf, etI.size, go_sem]
  | some ad =>
    refine ⟨.slice (some (if cap = p then ad else ad.add p)) (l.length - p : Nat) (cap - p : Nat), fun w' => ?_, ⟨_, cap - p, by rw [List.length_drop], by rw [List.length_drop]; omega, fun hl => ?_⟩⟩
    · simp [Instr.slice, run_underlying etI.ht, Instr.sliceBounds, Instr.sliceBound, asIntOf, etI.size, go_sem]
      rw [if_pos hp]
      congr 2
      split <;> rfl
    · rw [List.length_drop] at hl
      obtain ⟨g, off, h4, h5, h6⟩ := h3 (by omega)
      cases h4
      rw [if_neg (by omega), add_mk]
      refine ⟨g, off + p, rfl, h5, fun i hi => ?_⟩
      rw [List.length_drop] at hi
      have := h6 (p + i) (by omega)
      rw [Nat.add_assoc, this]
      simp [nth]

theorem search_any {w : World} {B : Nat} {v : Value} {l : List Int} (h : RL w B v l) (hs : l.Pairwise (· < ·)) (hl : l.length ≤ 1000000) (x : Int) :
    Calls Try.prog 46 #[v, .int .i64 x] w fun e w' => e = .returned (.tuple #[.int .i64 (lowB l x : Nat), .bool (hasB l x)]) ∧ ∃ q, w' = w.drewN q := by
  obtain ⟨a, cap, rfl, h2, h3⟩ := h.form
  rcases Nat.eq_zero_or_pos l.length with h0 | h0
  · obtain rfl := List.eq_nil_of_length_eq_zero h0
    refine (Any.slices_BinarySearch_int_empty Try.searchA a cap x w).mono ?_
    rintro e w' ⟨rfl, rfl⟩
    exact ⟨rfl, 0, rfl⟩
  · obtain ⟨g, off, rfl, h5, h6⟩ := h3 h0
    have hc := Any.slices_BinarySearch_int Try.searchA g off l.length cap l x w (Nat.le_refl _) (by omega) (fun j hj => by rw [h6 j hj]; rfl) (by rw [List.take_length]; exact hs.imp fun h => by omega)
    rw [List.take_length] at hc
    exact hc
theorem numbers_one (l : List Int) : ∀ u ∈ (l.map (Value.int .i64)), u.oneCell' = true := fun u hu => by
  obtain ⟨x, _, rfl⟩ := List.mem_map.1 hu; rfl

set_option maxRecDepth 100000 in
set_option maxHeartbeats 1000000 in
theorem both_any (B : Nat) (va vb : Value) (la lb : List Int) (w : World) (ha : RL w B va la) (hb : RL w B vb lb) (sla : la.Pairwise (· < ·)) (slb : lb.Pairwise (· < ·)) (hB : B ≤ w.heap.size) (hla : la.length ≤ 1000000) (hlb : lb.length ≤ 1000000) :
    Calls Try.prog 33 #[va, vb] w (OwnInts w.heap.size (inter la lb) w) := by
  have ha' := ha; have hb' := hb
  obtain ⟨a, cap, rfl, -⟩ := ha.form
  obtain ⟨b, cap2, rfl, -⟩ := hb.form
  by_cases hsw : lb.length < la.length
  · obtain ⟨A1, S1⟩ := hb.rd
    have Hb0 := Lib.hid (show RL w B (.slice a la.length cap) (la.drop 0) from ha')
    clear ha hb ha' hb'
    go_enter Try.func33, Try.ntmps33
    go_wp2_with fail
    go_loopw [1, 5, 19] (fun t c i wr => ∃ k p : Nat, k ≤ lb.length ∧ p ≤ la.length ∧ i = .int .i64 k ∧ RL wr B t (la.drop p) ∧ Hid (∀ x, x ∈ lb.drop k → (x ∈ la ↔ x ∈ la.drop p)) ∧ wr.ownsRow w.heap.size 3 1 c (inter (lb.take k) la).length ((inter (lb.take k) la).map (Value.int .i64)) ∧ Hid (c = .slice none 0 0 ↔ inter (lb.take k) la = []) ∧ Below w.heap.size w wr) (fun _ _ i _ => lb.length - (intOf i).toNat)
    case atStart => exact ⟨0, 0, Nat.zero_le _, Nat.zero_le _, rfl, Hb0.out, Lib.hid (fun _ _ => Iff.rfl), World.ownsRow_nil _ _ _ _, Lib.hid (by simp [inter]), Below.refl _ _⟩
    case round =>
      obtain ⟨k, p, hk, hp, rfl, hR, hI, hown, hN, bel⟩ := hrel
      by_cases hlt : k < lb.length
      · have h1 := (S1.below (bel.mono hB))
        have hix := h1.ix k hlt
        have hc : wr.cell? (A1 k) = some (.int .i64 (nth lb k)) := Sl.at h1 hlt
        have hn : nth lb k = lb[k] := nth_eq hlt
        have HS := Lib.hid (search_any hR (sla.drop) (by rw [List.length_drop]; omega) (nth lb k))
        have hlow := lowB_le (la.drop p) (nth lb k)
        have hcut2 := low_cut slb sla hlt hI.out
        have hmem := hI.out lb[k] (by rw [List.drop_eq_getElem_cons hlt]; exact List.mem_cons_self)
        rw [← hn] at hcut2 hmem
        have hlen := inter_len (lb.take k) la
        have hlk : (lb.take k).length ≤ k := List.length_take_le _ _
        have hsuc := inter_succ (b := la) hlt
        rw [← hn] at hsuc
        have Hdd := Lib.hid (show ∀ q, (la.drop p).drop q = la.drop (p + q) from fun q => List.drop_drop)
        have hfd : hasB (la.drop p) (nth lb k) = hasB la (nth lb k) := by
          rw [Bool.eq_iff_iff]; simp only [hasB, List.contains_iff_mem]; exact hmem.symm
        have hdl : (la.drop p).length = la.length - p := List.length_drop
        obtain ⟨v2, hcut, hR2⟩ := hR.cut hlow
        have hpl : p + lowB (la.drop p) (nth lb k) ≤ la.length := by omega
        rw [Hdd.out] at hR2
        have HR2 := Lib.hid hR2
        have Hsuc := Lib.hid hsuc; have Hcut2 := Lib.hid hcut2; have Hfd := Lib.hid hfd
        obtain ⟨ab, capb, hvb, -⟩ := hR.form
        subst hvb
        clear hsuc hmem hcut2 hn hI h1 hR Hdd hfd hdl hR2 hlow
        generalize lowB (la.drop p) (nth lb k) = q at *
        generalize hasB (la.drop p) (nth lb k) = fd at *
        generalize la.drop p = lc at *
        cases fd with
        | false =>
          go_wp2_with fail
          refine HS.out.mono ?_
          rintro e w' ⟨rfl, nq, rfl⟩
          go_wp2_with fail
          go_roundw
          case rel =>
            have e : inter (lb.take (k + 1)) la = inter (lb.take k) la := by rw [Hsuc.out, ← Hfd.out, if_neg (by decide)]
            exact ⟨k + 1, p + q, by omega, hpl, by go_num, HR2.out.below (below_drewN (Below.refl _ _) nq), Hcut2, by rw [e]; exact hown, by rw [e]; exact hN, below_drewN bel nq⟩
          case measure => simp only [intOf]; omega
        | true =>
          go_wp2_with fail
          refine HS.out.mono ?_
          rintro e w' ⟨rfl, nq, rfl⟩
          have hown2 : (wr.drewN nq).ownsRow w.heap.size 3 1 u5 (inter (lb.take k) la).length ((inter (lb.take k) la).map (Value.int .i64)) := hown
          have bel2 := below_drewN bel nq
          have HR3 := Lib.hid (HR2.out.below (below_drewN (Below.refl B wr) nq))
          clear hown bel HR2
          generalize wr.drewN nq = w2 at *
          go_wp2_with (at_builtin; refine push etI rfl _ _ rfl w.heap.size _ _ _ hown2 rfl #[.int .i64 (nth lb k)] _ rfl rfl rfl (by simp [Value.oneCell']) (by omega) (by omega) bel2.size ?_; intro g cp w1 hown1 hg1 hv1)
          have hb1 : Below w.heap.size w2 w1 := (Below.refl _ w2).grown hg1 bel2.size (fun j e => (hown2.lt j e).1)
          go_roundw
          case rel =>
            have e : inter (lb.take (k + 1)) la = inter (lb.take k) la ++ [nth lb k] := by rw [Hsuc.out, ← Hfd.out, if_pos rfl]
            refine ⟨k + 1, p + q, by omega, hpl, by go_num, HR3.out.below (hb1.mono hB), Hcut2, ?_, Lib.hid (by rw [e]; simp), bel2.trans hb1⟩
            rw [e, List.length_append, List.map_append]; exact hown1
          case measure => simp only [intOf]; omega
      · obtain rfl : k = lb.length := by omega
        have e : inter (lb.take lb.length) la = inter lb la := by rw [List.take_length]
        have E := Lib.hid e
        clear e
        go_wp2_with fail
        go_ret
        have F := inter_comm sla slb
        exact ⟨u5, rfl, by rw [F, ← E.out]; exact hown, by rw [F, ← E.out]; exact hN.out, bel⟩
  · obtain ⟨A1, S1⟩ := ha.rd
    have Hb0 := Lib.hid (show RL w B (.slice b lb.length cap2) (lb.drop 0) from hb')
    clear ha hb ha' hb'
    go_enter Try.func33, Try.ntmps33
    go_wp2_with fail
    go_loopw [1, 5, 19] (fun t c i wr => ∃ k p : Nat, k ≤ la.length ∧ p ≤ lb.length ∧ i = .int .i64 k ∧ RL wr B t (lb.drop p) ∧ Hid (∀ x, x ∈ la.drop k → (x ∈ lb ↔ x ∈ lb.drop p)) ∧ wr.ownsRow w.heap.size 3 1 c (inter (la.take k) lb).length ((inter (la.take k) lb).map (Value.int .i64)) ∧ Hid (c = .slice none 0 0 ↔ inter (la.take k) lb = []) ∧ Below w.heap.size w wr) (fun _ _ i _ => la.length - (intOf i).toNat)
    case atStart => exact ⟨0, 0, Nat.zero_le _, Nat.zero_le _, rfl, Hb0.out, Lib.hid (fun _ _ => Iff.rfl), World.ownsRow_nil _ _ _ _, Lib.hid (by simp [inter]), Below.refl _ _⟩
    case round =>
      obtain ⟨k, p, hk, hp, rfl, hR, hI, hown, hN, bel⟩ := hrel
      by_cases hlt : k < la.length
      · have h1 := (S1.below (bel.mono hB))
        have hix := h1.ix k hlt
        have hc : wr.cell? (A1 k) = some (.int .i64 (nth la k)) := Sl.at h1 hlt
        have hn : nth la k = la[k] := nth_eq hlt
        have HS := Lib.hid (search_any hR (slb.drop) (by rw [List.length_drop]; omega) (nth la k))
        have hlow := lowB_le (lb.drop p) (nth la k)
        have hcut2 := low_cut sla slb hlt hI.out
        have hmem := hI.out la[k] (by rw [List.drop_eq_getElem_cons hlt]; exact List.mem_cons_self)
        rw [← hn] at hcut2 hmem
        have hlen := inter_len (la.take k) lb
        have hlk : (la.take k).length ≤ k := List.length_take_le _ _
        have hsuc := inter_succ (b := lb) hlt
        rw [← hn] at hsuc
        have Hdd := Lib.hid (show ∀ q, (lb.drop p).drop q = lb.drop (p + q) from fun q => List.drop_drop)
        have hfd : hasB (lb.drop p) (nth la k) = hasB lb (nth la k) := by
          rw [Bool.eq_iff_iff]; simp only [hasB, List.contains_iff_mem]; exact hmem.symm
        have hdl : (lb.drop p).length = lb.length - p := List.length_drop
        obtain ⟨v2, hcut, hR2⟩ := hR.cut hlow
        have hpl : p + lowB (lb.drop p) (nth la k) ≤ lb.length := by omega
        rw [Hdd.out] at hR2
        have HR2 := Lib.hid hR2
        have Hsuc := Lib.hid hsuc; have Hcut2 := Lib.hid hcut2; have Hfd := Lib.hid hfd
        obtain ⟨ab, capb, hvb, -⟩ := hR.form
        subst hvb
        clear hsuc hmem hcut2 hn hI h1 hR Hdd hfd hdl hR2 hlow
        generalize lowB (lb.drop p) (nth la k) = q at *
        generalize hasB (lb.drop p) (nth la k) = fd at *
        generalize lb.drop p = lc at *
        cases fd with
        | false =>
          go_wp2_with fail
          refine HS.out.mono ?_
          rintro e w' ⟨rfl, nq, rfl⟩
          go_wp2_with fail
          go_roundw
          case rel =>
            have e : inter (la.take (k + 1)) lb = inter (la.take k) lb := by rw [Hsuc.out, ← Hfd.out, if_neg (by decide)]
            exact ⟨k + 1, p + q, by omega, hpl, by go_num, HR2.out.below (below_drewN (Below.refl _ _) nq), Hcut2, by rw [e]; exact hown, by rw [e]; exact hN, below_drewN bel nq⟩
          case measure => simp only [intOf]; omega
        | true =>
          go_wp2_with fail
          refine HS.out.mono ?_
          rintro e w' ⟨rfl, nq, rfl⟩
          have hown2 : (wr.drewN nq).ownsRow w.heap.size 3 1 u5 (inter (la.take k) lb).length ((inter (la.take k) lb).map (Value.int .i64)) := hown
          have bel2 := below_drewN bel nq
          have HR3 := Lib.hid (HR2.out.below (below_drewN (Below.refl B wr) nq))
          clear hown bel HR2
          generalize wr.drewN nq = w2 at *
          go_wp2_with (at_builtin; refine push etI rfl _ _ rfl w.heap.size _ _ _ hown2 rfl #[.int .i64 (nth la k)] _ rfl rfl rfl (by simp [Value.oneCell']) (by omega) (by omega) bel2.size ?_; intro g cp w1 hown1 hg1 hv1)
          have hb1 : Below w.heap.size w2 w1 := (Below.refl _ w2).grown hg1 bel2.size (fun j e => (hown2.lt j e).1)
          go_roundw
          case rel =>
            have e : inter (la.take (k + 1)) lb = inter (la.take k) lb ++ [nth la k] := by rw [Hsuc.out, ← Hfd.out, if_pos rfl]
            refine ⟨k + 1, p + q, by omega, hpl, by go_num, HR3.out.below (hb1.mono hB), Hcut2, ?_, Lib.hid (by rw [e]; simp), bel2.trans hb1⟩
            rw [e, List.length_append, List.map_append]; exact hown1
          case measure => simp only [intOf]; omega
      · obtain rfl : k = la.length := by omega
        have e : inter (la.take la.length) lb = inter la lb := by rw [List.take_length]
        have E := Lib.hid e
        clear e
        go_wp2_with fail
        go_ret
        exact ⟨u5, rfl, by rw [← E.out]; exact hown, by rw [← E.out]; exact hN.out, bel⟩
end Go.Proofs.Ytjdpkjjlcbgnbaa
