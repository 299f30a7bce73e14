/- Disjoint sets in memory: what New, root and Union do. Conditions: the sets were made by New; elements in range. -/
import Derived.Test.YtibdggbejogciaaGreatPl
import Derived.Test.YtibdggbejogciaaGreatMe
import Derived.StillTailTactics
import Derived.Deep.LoopGhost
namespace Go.Proofs.YtibdggbejogciaaGreat
open Go.RowKit

/-- the blocks of some sets -/
structure Zone where
  low : Nat
  high : Nat
def Zone.has (z : Zone) (k : Nat) : Prop := z.low ≤ k ∧ k < z.high
/-- nothing but the blocks of a zone has changed -/
structure Inner (z : Zone) (w w' : World) : Prop where
  bel : Below z.low w w'
  high : ∀ k, z.high ≤ k → w'.heap[k]? = w.heap[k]?
theorem Inner.refl (z : Zone) (w : World) : Inner z w w := ⟨Below.refl _ _, fun _ _ => rfl⟩
theorem Inner.trans {z : Zone} {w w1 w2 : World} (h : Inner z w w1) (h' : Inner z w1 w2) : Inner z w w2 := ⟨h.bel.trans h'.bel, fun k hk => (h'.high k hk).trans (h.high k hk)⟩
theorem Inner.setCell {z : Zone} {w w1 : World} (h : Inner z w w1) {p : Addr} (hp : z.has p.block) (v : Value) : Inner z w (w1.setCell p v) := ⟨h.bel.setCell hp.1 v, fun k hk => (Below.heap_setCell _ _ _ _ (by have := hp.2; omega)).trans (h.high k hk)⟩
theorem Inner.drewN {z : Zone} {w w1 : World} (h : Inner z w w1) (q : Nat) : Inner z w (w1.drewN q) := ⟨below_drewN h.bel q, h.high⟩
theorem Inner.drew {z : Zone} {w w1 : World} (h : Inner z w w1) : Inner z w w1.drew := ⟨h.bel.drew, h.high⟩
theorem Inner.out {z : Zone} {w w1 : World} (h : Inner z w w1) {k : Nat} (hk : ¬ z.has k) : w1.heap[k]? = w.heap[k]? := by
  by_cases c : k < z.low
  · exact h.bel.block k c
  · exact h.high k (by unfold Zone.has at hk; omega)
theorem Row.inner {z : Zone} {w w1 : World} {g n : Nat} {f : Nat → Value} (h : Row w g n f) (hi : Inner z w w1) (hg : ¬ z.has g) : Row w1 g n f := h.of_block (hi.out hg)
theorem own_inner {z : Zone} {w w1 : World} {base : Nat} {e : TypeId} {size : Nat} {v : Value} {n : Nat} {xs : List Value} (h : w.ownsRow base e size v n xs) (hi : Inner z w w1) (hg : z.high ≤ base) : w1.ownsRow base e size v n xs := by
  obtain ⟨h1, h2⟩ := h
  refine ⟨h1, h2.imp id ?_⟩
  rintro ⟨g, cap, cur, e1, e2, e3, e4⟩
  exact ⟨g, cap, cur, e1, e2, (hi.high g (by omega)).trans e3, e4⟩

/-- parents that lead up to one root of each class -/
structure UF (n : Nat) (up lab h : Nat → Nat) (H : Nat) : Prop where
  lt : ∀ i, i < n → up i < n
  inc : ∀ i, i < n → up i ≠ i → h i < h (up i)
  bd : ∀ i, i < n → h i ≤ H
  par : ∀ i, i < n → lab (up i) = lab i
  one : ∀ i j, i < n → j < n → up i = i → up j = j → lab i = lab j → i = j
/-- how many elements the class of one has -/
def clsN (n : Nat) (lab : Nat → Nat) (i : Nat) : Nat := ((List.range n).filter fun j => decide (lab j = lab i)).length
theorem clsN_le (n : Nat) (lab : Nat → Nat) (i : Nat) : clsN n lab i ≤ n := by
  have := List.length_filter_le (fun j => decide (lab j = lab i)) (List.range n)
  unfold clsN; simpa using this
theorem cntN_le (n : Nat) (k : Nat → Nat) : cntN n k ≤ n := by
  have := List.length_filter_le (fun i => decide (k i = i)) (List.range n)
  unfold cntN; simpa using this
theorem UF.halve {n : Nat} {up lab h : Nat → Nat} {H : Nat} (U : UF n up lab h H) {a : Nat} (ha : a < n) (hr : up a ≠ a) :
    UF n (fun i => if i = a then up (up a) else up i) lab h H ∧ (∀ i, i < n → ((if i = a then up (up a) else up i) = i ↔ up i = i)) ∧ h a < h (up (up a)) := by
  have hp := U.lt a ha
  have h1 := U.inc a ha hr
  have h2 : h a < h (up (up a)) := by
    by_cases c : up (up a) = up a
    · rw [c]; exact h1
    · have := U.inc (up a) hp c; omega
  have hroot : ∀ i, i < n → ((if i = a then up (up a) else up i) = i ↔ up i = i) := fun i _ => by
    by_cases c : i = a
    · subst c
      rw [if_pos rfl]
      constructor
      · intro e; rw [e] at h2; omega
      · intro e; exact absurd e hr
    · rw [if_neg c]
  refine ⟨⟨fun i hi => ?_, fun i hi hne => ?_, U.bd, fun i hi => ?_, fun i j hi hj h3 h4 h5 => U.one i j hi hj ((hroot i hi).1 h3) ((hroot j hj).1 h4) h5⟩, hroot, h2⟩
  · (try dsimp only); split
    · exact U.lt _ hp
    · exact U.lt i hi
  · (try dsimp only at hne ⊢)
    by_cases c : i = a
    · subst c; rw [if_pos rfl]; exact h2
    · rw [if_neg c] at hne ⊢; exact U.inc i hi hne
  · (try dsimp only); split
    · rename_i c; subst c; rw [U.par _ hp, U.par _ ha]
    · exact U.par i hi
/-- one root is hung below another one -/
theorem UF.hang {n : Nat} {up lab h : Nat → Nat} {H : Nat} (U : UF n up lab h H) (K : LabOk lab) {a c x y : Nat} (hx : x < n) (hy : y < n) (rx : up x = x) (ry : up y = y) (hne : x ≠ y) (hl : (lab a = lab x ∧ lab c = lab y) ∨ (lab a = lab y ∧ lab c = lab x)) :
    UF n (fun i => if i = y then x else up i) (joinF lab a c) (fun i => if i = x then max (h x) (h y + 1) else h i) (H + 1) := by
  have hje := joinF_eq K a c
  have hpar : ∀ i, i < n → joinF lab a c (up i) = joinF lab a c i := fun i hi => by
    rw [hje]; exact .inl (U.par i hi)
  refine ⟨fun i hi => ?_, fun i hi hn => ?_, fun i hi => ?_, fun i hi => ?_, fun i j hi hj h3 h4 h5 => ?_⟩
  · (try dsimp only); split
    · exact hx
    · exact U.lt i hi
  · (try dsimp only at hn ⊢)
    by_cases c1 : i = y
    · subst c1
      rw [if_pos rfl, if_neg (fun e => hne e.symm), if_pos rfl]; omega
    · rw [if_neg c1] at hn ⊢
      have h1 := U.inc i hi hn
      by_cases c2 : i = x
      · subst c2; exact absurd rx hn
      · rw [if_neg c2]
        by_cases c3 : up i = x
        · rw [if_pos c3]; rw [c3] at h1; omega
        · rw [if_neg c3]; exact h1
  · have := U.bd i hi; have := U.bd x hx; have := U.bd y hy
    (try dsimp only); split <;> omega
  · (try dsimp only); split
    · rename_i c1; subst c1
      rw [hje]
      rcases hl with ⟨h1, h2⟩ | ⟨h1, h2⟩
      · exact .inr (.inl ⟨h1.symm, h2.symm⟩)
      · exact .inr (.inr ⟨h2.symm, h1.symm⟩)
    · exact hpar i hi
  · (try dsimp only at h3 h4)
    have g1 : i ≠ y := fun e => by rw [if_pos e] at h3; exact hne (by rw [h3, e])
    have g2 : j ≠ y := fun e => by rw [if_pos e] at h4; exact hne (by rw [h4, e])
    rw [if_neg g1] at h3
    rw [if_neg g2] at h4
    rw [hje] at h5
    rcases h5 with h5 | ⟨h5, h6⟩ | ⟨h5, h6⟩
    · exact U.one i j hi hj h3 h4 h5
    · rcases hl with ⟨h1, h2⟩ | ⟨h1, h2⟩
      · exact absurd (U.one j y hj hy h4 ry (h6.trans h2)) g2
      · exact absurd (U.one i y hi hy h3 ry (h5.trans h1)) g1
    · rcases hl with ⟨h1, h2⟩ | ⟨h1, h2⟩
      · exact absurd (U.one i y hi hy h3 ry (h5.trans h2)) g1
      · exact absurd (U.one j y hj hy h4 ry (h6.trans h1)) g2
theorem joinF_comm (k : Nat → Nat) (u v : Nat) : joinF k u v = joinF k v u := by
  funext i; unfold joinF; rw [Nat.max_comm, Nat.min_comm]
theorem joinF_at {k : Nat → Nat} {u v u' v' : Nat} (h1 : k u = k u') (h2 : k v = k v') : joinF k u v = joinF k u' v' := by
  funext i; unfold joinF; rw [h1, h2]
theorem filt_or {n : Nat} {p q r : Nat → Bool} (h : ∀ i, r i = (p i || q i)) (hd : ∀ i, ¬ (p i = true ∧ q i = true)) : ((List.range n).filter r).length = ((List.range n).filter p).length + ((List.range n).filter q).length := by
  induction n with
  | zero => rfl
  | succ n ih =>
    rw [List.range_succ, List.filter_append, List.filter_append, List.filter_append, List.length_append, List.length_append, List.length_append, ih]
    have h1 := h n; have h2 := hd n
    cases hp : p n <;> cases hq : q n <;> simp [hp, hq] at h1 h2 <;> simp [hp, hq, h1] <;> omega
/-- the size of a class that was joined out of two -/
theorem clsN_join {n : Nat} {lab : Nat → Nat} (K : LabOk lab) {x y : Nat} (hne : lab x ≠ lab y) (i : Nat) (hi : lab i = lab x ∨ lab i = lab y) : clsN n (joinF lab x y) i = clsN n lab x + clsN n lab y := by
  unfold clsN
  refine filt_or (fun j => ?_) (fun j => ?_)
  · have := joinF_eq K x y j i
    rw [Bool.eq_iff_iff]
    simp only [Bool.or_eq_true, decide_eq_true_eq, this]
    rcases hi with hi | hi <;> omega
  · simp only [decide_eq_true_eq]; omega
theorem clsN_other {n : Nat} {lab : Nat → Nat} (K : LabOk lab) {x y i : Nat} (h1 : lab i ≠ lab x) (h2 : lab i ≠ lab y) : clsN n (joinF lab x y) i = clsN n lab i := by
  unfold clsN
  congr 1
  refine List.filter_congr fun j _ => ?_
  have := joinF_eq K x y j i
  rw [Bool.eq_iff_iff]
  simp only [decide_eq_true_eq, this]
  omega

/-- the cells of the struct -/
def dsC (b ub lb sb n cnt : Nat) : Nat → Value
  | 0 => .pointer (some ⟨b, 0, none⟩)
  | 1 => .slice (some ⟨ub, 0, none⟩) n n
  | 2 => .slice (some ⟨lb, 0, none⟩) n n
  | 3 => .slice (some ⟨sb, 0, none⟩) n n
  | _ => .int .i64 (cnt : Nat)
def natC (f : Nat → Nat) (i : Nat) : Value := .int .i64 (f i : Nat)
/-- the struct and its three rows -/
structure DsM (w : World) (base : Zone) (b ub lb sb n : Nat) (up ls sz : Nat → Nat) (cnt : Nat) : Prop where
  st : Row w b 5 (dsC b ub lb sb n cnt)
  rup : Row w ub n (natC up)
  rls : Row w lb n (natC ls)
  rsz : Row w sb n (natC sz)
  ne : b ≠ ub ∧ b ≠ lb ∧ b ≠ sb ∧ ub ≠ lb ∧ ub ≠ sb ∧ lb ≠ sb
  lo : base.has b ∧ base.has ub ∧ base.has lb ∧ base.has sb
section
variable {w w' : World} {base : Zone} {b ub lb sb n cnt : Nat} {up ls sz : Nat → Nat}
theorem DsM.size (h : DsM w base b ub lb sb n up ls sz cnt) : b < w.heap.size ∧ ub < w.heap.size ∧ lb < w.heap.size ∧ sb < w.heap.size := ⟨h.st.lt, h.rup.lt, h.rls.lt, h.rsz.lt⟩
theorem DsM.below (h : DsM w base b ub lb sb n up ls sz cnt) (hb : Below w.heap.size w w') : DsM w' base b ub lb sb n up ls sz cnt :=
  ⟨h.st.below hb h.st.lt, h.rup.below hb h.rup.lt, h.rls.below hb h.rls.lt, h.rsz.below hb h.rsz.lt, h.ne, h.lo⟩
theorem DsM.drewN (h : DsM w base b ub lb sb n up ls sz cnt) (q : Nat) : DsM (w.drewN q) base b ub lb sb n up ls sz cnt := ⟨h.st, h.rup, h.rls, h.rsz, h.ne, h.lo⟩
theorem DsM.drew (h : DsM w base b ub lb sb n up ls sz cnt) : DsM w.drew base b ub lb sb n up ls sz cnt := ⟨h.st, h.rup, h.rls, h.rsz, h.ne, h.lo⟩
theorem natC_set (f : Nat → Nat) (i v j : Nat) : (if j = i then Value.int .i64 (v : Nat) else natC f j) = natC (fun k => if k = i then v else f k) j := by
  unfold natC
  by_cases c : j = i <;> simp [c]
theorem DsM.setUp (h : DsM w base b ub lb sb n up ls sz cnt) (i v : Nat) : DsM (w.setCell ⟨ub, i, none⟩ (.int .i64 (v : Nat))) base b ub lb sb n (fun k => if k = i then v else up k) ls sz cnt :=
  ⟨h.st.setOther h.ne.1 _, (h.rup.set i _).congr fun j _ => natC_set up i v j, h.rls.setOther (fun e => h.ne.2.2.2.1 e.symm) _, h.rsz.setOther (fun e => h.ne.2.2.2.2.1 e.symm) _, h.ne, h.lo⟩
theorem DsM.setLs (h : DsM w base b ub lb sb n up ls sz cnt) (i v : Nat) : DsM (w.setCell ⟨lb, i, none⟩ (.int .i64 (v : Nat))) base b ub lb sb n up (fun k => if k = i then v else ls k) sz cnt :=
  ⟨h.st.setOther h.ne.2.1 _, h.rup.setOther h.ne.2.2.2.1 _, (h.rls.set i _).congr fun j _ => natC_set ls i v j, h.rsz.setOther (fun e => h.ne.2.2.2.2.2 e.symm) _, h.ne, h.lo⟩
theorem DsM.setSz (h : DsM w base b ub lb sb n up ls sz cnt) (i v : Nat) : DsM (w.setCell ⟨sb, i, none⟩ (.int .i64 (v : Nat))) base b ub lb sb n up ls (fun k => if k = i then v else sz k) cnt :=
  ⟨h.st.setOther h.ne.2.2.1 _, h.rup.setOther h.ne.2.2.2.2.1 _, h.rls.setOther h.ne.2.2.2.2.2 _, (h.rsz.set i _).congr fun j _ => natC_set sz i v j, h.ne, h.lo⟩
theorem DsM.setCnt (h : DsM w base b ub lb sb n up ls sz cnt) (v : Nat) : DsM (w.setCell ⟨b, 4, none⟩ (.int .i64 (v : Nat))) base b ub lb sb n up ls sz v :=
  ⟨(h.st.set 4 _).congr fun j hj => by
    by_cases e : j = 4
    · subst e; rw [if_pos rfl]; rfl
    · rw [if_neg e]
      have : j = 0 ∨ j = 1 ∨ j = 2 ∨ j = 3 := by omega
      rcases this with rfl | rfl | rfl | rfl <;> rfl, h.rup.setOther (fun e => h.ne.1 e.symm) _, h.rls.setOther (fun e => h.ne.2.1 e.symm) _, h.rsz.setOther (fun e => h.ne.2.2.1 e.symm) _, h.ne, h.lo⟩
end
/-- sets whose labels are told -/
def DS (w : World) (base : Zone) (b n : Nat) (lab : Nat → Nat) : Prop :=
  ∃ (ub lb sb : Nat) (up ls sz h : Nat → Nat) (H : Nat), DsM w base b ub lb sb n up ls sz (cntN n lab) ∧ UF n up lab h H ∧ LabOk lab ∧ ∀ i, i < n → up i = i → ls i = lab i ∧ sz i = clsN n lab i
theorem DS.below {w w' : World} {base : Zone} {b n : Nat} {lab : Nat → Nat} (h : DS w base b n lab) (hb : Below w.heap.size w w') : DS w' base b n lab := by
  obtain ⟨ub, lb, sb, up, ls, sz, h, H, h1, h2⟩ := h
  exact ⟨ub, lb, sb, up, ls, sz, h, H, h1.below hb, h2⟩
theorem DS.zone {w w' : World} {base : Zone} {b n : Nat} {lab : Nat → Nat} {B : Nat} (h : DS w base b n lab) (hb : Below B w w') (hB : base.high ≤ B) : DS w' base b n lab := by
  obtain ⟨ub, lb, sb, up, ls, sz, h, H, h1, h2⟩ := h
  refine ⟨ub, lb, sb, up, ls, sz, h, H, ⟨h1.st.below hb ?_, h1.rup.below hb ?_, h1.rls.below hb ?_, h1.rsz.below hb ?_, h1.ne, h1.lo⟩, h2⟩
  · have := h1.lo.1.2; omega
  · have := h1.lo.2.1.2; omega
  · have := h1.lo.2.2.1.2; omega
  · have := h1.lo.2.2.2.2; omega
theorem DS.drew {w : World} {base : Zone} {b n : Nat} {lab : Nat → Nat} (h : DS w base b n lab) : DS w.drew base b n lab := by
  obtain ⟨ub, lb, sb, up, ls, sz, h, H, h1, h2⟩ := h
  exact ⟨ub, lb, sb, up, ls, sz, h, H, h1.drew, h2⟩
theorem DS.widen {w : World} {z z' : Zone} {b n : Nat} {lab : Nat → Nat} (h : DS w z b n lab) (h1 : z'.low ≤ z.low) (h2 : z.high ≤ z'.high) : DS w z' b n lab := by
  obtain ⟨ub, lb, sb, up, ls, sz, h, H, m, r⟩ := h
  have g : ∀ k, z.has k → z'.has k := fun k hk => ⟨Nat.le_trans h1 hk.1, Nat.lt_of_lt_of_le hk.2 h2⟩
  exact ⟨ub, lb, sb, up, ls, sz, h, H, ⟨m.st, m.rup, m.rls, m.rsz, m.ne, g _ m.lo.1, g _ m.lo.2.1, g _ m.lo.2.2.1, g _ m.lo.2.2.2⟩, r⟩
theorem DS.lt {w : World} {base : Zone} {b n : Nat} {lab : Nat → Nat} (h : DS w base b n lab) : base.has b ∧ b < w.heap.size := by
  obtain ⟨ub, lb, sb, up, ls, sz, h, H, h1, h2⟩ := h
  exact ⟨h1.lo.1, h1.st.lt⟩

theorem Tryz.infoDs : (Tryz.prog.info? 144).isSome = true := by kernel_rfl
theorem sets_same (a : Addr) (w : World) : (binOp .eql 123 (.pointer (some a)) (.pointer (some a))).run Tryz.prog w = .ok (.bool true) w := by
  obtain ⟨j, hj⟩ := Option.isSome_iff_exists.1 Tryz.infoDs
  exact run_eql_ptr_same w a Tryz.underlying123 hj
set_option maxRecDepth 20000 in
set_option maxHeartbeats 400000 in
theorem dvalid_is (b : Nat) (w : World) (h : w.cell? ⟨b, 0, none⟩ = some (.pointer (some ⟨b, 0, none⟩))) :
    Calls Tryz.prog 97 #[.pointer (some ⟨b, 0, none⟩)] w fun e w' => e = .returned (.bool true) ∧ w = w' := by
  have eq := sets_same ⟨b, 0, none⟩
  go_enter Tryz.func97, Tryz.ntmps97
  go_wp2_with fail
  go_ret
  exact ⟨rfl, rfl⟩
set_option maxRecDepth 20000 in
set_option maxHeartbeats 400000 in
theorem dhas_is (b ub n a c : Nat) (w : World) (h : w.cell? ⟨b, 0, none⟩ = some (.pointer (some ⟨b, 0, none⟩))) (h1 : w.cell? ⟨b, 1, none⟩ = some (.slice (some ⟨ub, 0, none⟩) n c)) (ha : a < n) :
    Calls Tryz.prog 98 #[.pointer (some ⟨b, 0, none⟩), .int .i64 (a : Nat)] w fun e w' => e = .returned (.bool true) ∧ w = w' := by
  have HV := Lib.hid (dvalid_is b w h)
  have k1 : decide ((a : Int) ≥ 0) = true := decide_eq_true (by omega)
  have k2 : decide ((a : Int) < (n : Int)) = true := decide_eq_true (by omega)
  go_enter Tryz.func98, Tryz.ntmps98
  go_wp2_with fail
  refine HV.out.mono ?_
  rintro e w' ⟨rfl, rfl⟩
  go_wp2_with fail
  go_ret
  exact ⟨rfl, rfl⟩
set_option maxRecDepth 100000 in
set_option maxHeartbeats 1000000 in
theorem droot_any (base : Zone) (b ub lb sb n cnt : Nat) (up ls sz lab h : Nat → Nat) (H a : Nat) (w : World) (hM : DsM w base b ub lb sb n up ls sz cnt) (hU : UF n up lab h H) (ha : a < n) :
    Calls Tryz.prog 99 #[.pointer (some ⟨b, 0, none⟩), .int .i64 (a : Nat)] w fun e w' => ∃ (r : Nat) (up' : Nat → Nat), e = .returned (.int .i64 (r : Nat)) ∧ r < n ∧ up' r = r ∧ lab r = lab a ∧ DsM w' base b ub lb sb n up' ls sz cnt ∧ UF n up' lab h H ∧ (∀ i, i < n → (up' i = i ↔ up i = i)) ∧ Inner base w w' := by
  have HM := Lib.hid hM; have HU := Lib.hid hU
  clear hM hU
  go_enter Tryz.func99, Tryz.ntmps99
  go_wp2_with fail
  go_step3
  go_wp2_with fail
  go_step3
  go_wp2_with fail
  go_loopw [1] (fun i wr => ∃ (x : Nat) (u : Nat → Nat), x < n ∧ i = .int .i64 (x : Nat) ∧ lab x = lab a ∧ Hid (DsM wr base b ub lb sb n u ls sz cnt) ∧ Hid (UF n u lab h H) ∧ Hid (∀ i, i < n → (u i = i ↔ up i = i)) ∧ Inner base w wr) (fun i _ => H - h (intOf i).toNat)
  case atStart => exact ⟨a, up, ha, rfl, rfl, HM, HU, Lib.hid (fun _ _ => Iff.rfl), Inner.refl _ _⟩
  case round =>
    clear HM HU
    obtain ⟨x, u, hx, rfl, hla, HM, HU, HI, bel⟩ := hrel
    have c1 : wr.cell? ⟨b, 1, none⟩ = some (.slice (some ⟨ub, 0, none⟩) n n) := HM.out.st.cell (i := 1) (by omega)
    have c2 : wr.cell? ⟨ub, x, none⟩ = some (.int .i64 (u x : Nat)) := HM.out.rup.cell hx
    have hxi : (0 : Int) ≤ x ∧ (x : Int) < n := by omega
    by_cases hr : u x = x
    · have hz : (((u x : Nat) : Int) == (x : Int)) = true := by simp [hr]
      have HR := Lib.hid hr
      generalize u x = p at c2 hz ⊢
      clear hr
      go_wp2_with fail
      rw [Exit.noGoto_ret]
      go_ret
      exact ⟨x, u, rfl, hx, HR.out, hla, HM.out, HU.out, HI.out, bel⟩
    · have hz : (((u x : Nat) : Int) == (x : Int)) = false := by simp; omega
      have hp := HU.out.lt x hx
      have c3 : wr.cell? ⟨ub, u x, none⟩ = some (.int .i64 (u (u x) : Nat)) := HM.out.rup.cell hp
      have hpi : (0 : Int) ≤ (u x : Nat) ∧ ((u x : Nat) : Int) < n := by omega
      have z1 := HM.out.rup.frozen x
      obtain ⟨U2, hroot, hlt2⟩ := HU.out.halve hx hr
      have hinc := HU.out.inc x hx hr
      have hpp := HU.out.lt _ hp
      have M2 := HM.out.setUp x (u (u x))
      have hla2 : lab (u (u x)) = lab a := by rw [HU.out.par _ hp, HU.out.par _ hx, hla]
      have c4 : (wr.setCell ⟨ub, x, none⟩ (.int .i64 (u (u x) : Nat))).cell? ⟨b, 1, none⟩ = some (.slice (some ⟨ub, 0, none⟩) n n) := M2.st.cell (i := 1) (by omega)
      have c5 : (wr.setCell ⟨ub, x, none⟩ (.int .i64 (u (u x) : Nat))).cell? ⟨ub, x, none⟩ = some (.int .i64 (u (u x) : Nat)) := by have := M2.rup.cell hx; rw [natC, if_pos rfl] at this; exact this
      have HU2 := Lib.hid U2; have HM2 := Lib.hid M2
      have HR2 := Lib.hid hroot
      have hmes : H - h (u (u x)) < H - h x := by
        have := HU.out.bd _ hpp
        omega
      clear hlt2
      clear U2 M2 hroot hinc hr
      have hlo := HM.out.lo.2.1
      have HX2 := Lib.hid (fun i hi => (HR2.out i hi).trans (HI.out i hi))
      clear HR2 HI HM HU
      go_wp2_with fail
      go_still_tail 12, (by kernel_rfl)
      go_wp2_with fail
      go_roundw
      case rel => exact ⟨u (u x), _, hpp, rfl, hla2, Lib.hid (HM2.out.drewN 1), HU2, HX2, (bel.setCell (p := ⟨ub, x, none⟩) hlo _).drew⟩
      case measure => simpa only [intOf, Int.toNat_natCast] using hmes
theorem natC_at {f : Nat → Nat} {i : Nat} : natC f i = .int .i64 (f i : Nat) := rfl
/-- what the sets are when one root has been hung below another one -/
theorem DS.hung {w : World} {base : Zone} {b ub lb sb n cnt : Nat} {up ls sz lab h : Nat → Nat} {H a c x y : Nat} (U : UF n up lab h H) (K : LabOk lab) (hls : ∀ i, i < n → up i = i → ls i = lab i ∧ sz i = clsN n lab i) (hx : x < n) (hy : y < n) (rx : up x = x) (ry : up y = y) (hne : x ≠ y)
    (hl : (lab a = lab x ∧ lab c = lab y) ∨ (lab a = lab y ∧ lab c = lab x)) (hcnt : cnt + 1 = cntN n lab)
    (hM : DsM w base b ub lb sb n (fun k => if k = y then x else up k) (fun k => if k = x then min (lab x) (lab y) else ls k) (fun k => if k = x then sz x + sz y else sz k) cnt) : DS w base b n (joinF lab a c) := by
  have hlne : lab x ≠ lab y := fun e => hne (U.one x y hx hy rx ry e)
  have hj : joinF lab a c = joinF lab x y := by
    rcases hl with ⟨h1, h2⟩ | ⟨h1, h2⟩
    · exact joinF_at h1 h2
    · rw [joinF_comm]; exact joinF_at h2 h1
  have hcn : cntN n (joinF lab x y) + 1 = cntN n lab := cntN_join K hx hy hlne
  rw [hj]
  refine ⟨ub, lb, sb, _, _, _, _, _, (by rw [show cntN n (joinF lab x y) = cnt by omega]; exact hM), by rw [← hj]; exact U.hang K hx hy rx ry hne hl, joinF_ok K x y, fun i hi hr => ?_⟩
  by_cases e1 : i = y
  · rw [if_pos e1] at hr; exact absurd (hr.trans e1) hne
  · rw [if_neg e1] at hr
    by_cases e2 : i = x
    · subst e2
      rw [if_pos rfl, if_pos rfl]
      refine ⟨?_, ?_⟩
      · unfold joinF
        split
        · rfl
        · rename_i c1
          have : lab i ≤ lab y ∨ lab y ≤ lab i := Nat.le_total _ _
          omega
      · rw [clsN_join K hlne i (.inl rfl), (hls i hx rx).2, (hls y hy ry).2]
    · rw [if_neg e2, if_neg e2]
      have h1 : lab i ≠ lab x := fun e => e2 (U.one i x hi hx hr rx e)
      have h2 : lab i ≠ lab y := fun e => e1 (U.one i y hi hy hr ry e)
      refine ⟨?_, ?_⟩
      · rw [(hls i hi hr).1]
        unfold joinF
        rw [if_neg (by omega)]
      · rw [(hls i hi hr).2, clsN_other K h1 h2]
set_option maxRecDepth 100000 in
set_option maxHeartbeats 4000000 in
theorem union_any (base : Zone) (b n : Nat) (lab : Nat → Nat) (a c : Nat) (w : World) (hD : DS w base b n lab) (ha : a < n) (hc : c < n) (hn : n ≤ 65536) :
    Calls Tryz.prog 78 #[.pointer (some ⟨b, 0, none⟩), .int .i64 (a : Nat), .int .i64 (c : Nat)] w fun e w' => e = .returned (.tuple #[.bool (decide (lab a ≠ lab c)), .int .i64 0]) ∧ DS w' base b n (joinF lab a c) ∧ Inner base w w' := by
  obtain ⟨ub, lb, sb, up, ls, sz, h, H, hM, hU, hK, hls⟩ := hD
  have c0 : w.cell? ⟨b, 0, none⟩ = some (.pointer (some ⟨b, 0, none⟩)) := hM.st.cell (i := 0) (by omega)
  have c1 : w.cell? ⟨b, 1, none⟩ = some (.slice (some ⟨ub, 0, none⟩) n n) := hM.st.cell (i := 1) (by omega)
  have HV := Lib.hid (dvalid_is b w c0)
  have HA := Lib.hid (dhas_is b ub n a n w c0 c1 ha)
  have HC := Lib.hid (dhas_is b ub n c n w c0 c1 hc)
  have HR1 := Lib.hid (droot_any base b ub lb sb n (cntN n lab) up ls sz lab h H a w hM hU ha)
  have HK := Lib.hid hK; have HLS := Lib.hid hls
  clear hM hU hK hls c0 c1
  go_enter Tryz.func78, Tryz.ntmps78
  go_wp2_with fail
  refine HV.out.mono ?_
  rintro e w' ⟨rfl, rfl⟩
  go_wp2_with fail
  refine HA.out.mono ?_
  rintro e w' ⟨rfl, rfl⟩
  go_wp2_with fail
  refine HC.out.mono ?_
  rintro e w' ⟨rfl, rfl⟩
  go_wp2_with fail
  refine HR1.out.mono ?_
  rintro e w1 ⟨x, up1, rfl, hx, rx1, lx, hM1, hU1, hI1, hb1⟩
  have HR2 := Lib.hid (droot_any base b ub lb sb n (cntN n lab) up1 ls sz lab h H c w1 hM1 hU1 hc)
  clear HV HA HC HR1 hM1 hU1
  go_wp2_with fail
  refine HR2.out.mono ?_
  rintro e w2 ⟨y, up2, rfl, hy, ry, ly, hM2, hU2, hI2, hb2⟩
  have rx := (hI2 x hx).2 rx1
  have bel2 := hb1.trans hb2
  have hls2 : ∀ i, i < n → up2 i = i → ls i = lab i ∧ sz i = clsN n lab i := fun i hi hr => HLS.out i hi ((hI1 i hi).1 ((hI2 i hi).1 hr))
  have HM2 := Lib.hid hM2; have HU2 := Lib.hid hU2; have HL2 := Lib.hid hls2
  have HLX := Lib.hid lx; have HLY := Lib.hid ly
  have HRX := Lib.hid rx; have HRY := Lib.hid ry
  clear HR2 hI1 hI2 HLS hM2 hU2 hls2 rx1 rx ry hb1 hb2 lx ly
  by_cases hxy : x = y
  · subst hxy
    have HE := Lib.hid (show lab a = lab c from HLX.out.symm.trans HLY.out)
    have hz : ((x : Int) == (x : Int)) = true := by simp
    go_wp2_with fail
    go_ret2
    refine ⟨by rw [decide_eq_false (fun hh => hh HE.out)]; rfl, ?_, bel2⟩
    rw [joinF_same HE.out]
    exact ⟨ub, lb, sb, up2, ls, sz, h, H, HM2.out, HU2.out, HK.out, HL2.out⟩
  · have hz : ((x : Int) == (y : Int)) = false := by simp; omega
    have HNE := Lib.hid (show lab x ≠ lab y from fun e => hxy (HU2.out.one x y hx hy HRX.out HRY.out e))
    have hcn := cntN_join HK.out hx hy HNE.out
    have hcl := cntN_le n lab
    obtain ⟨cn, hcn1⟩ : ∃ cn, cn + 1 = cntN n lab := ⟨cntN n (joinF lab x y), hcn⟩
    have hcl2 : cn ≤ 65536 := by omega
    have HCN := Lib.hid hcn1
    have HFIN := Lib.hid (fun (w3 : World) (X Y : Nat) (hX : X < n) (hY : Y < n) (rX : up2 X = X) (rY : up2 Y = Y) (hN : X ≠ Y) (hl : (lab a = lab X ∧ lab c = lab Y) ∨ (lab a = lab Y ∧ lab c = lab X)) (hM : DsM w3 base b ub lb sb n (fun k => if k = Y then X else up2 k) (fun k => if k = X then min (lab X) (lab Y) else ls k) (fun k => if k = X then sz X + sz Y else sz k) cn) =>
      DS.hung (a := a) (c := c) HU2.out HK.out HL2.out hX hY rX rY hN hl HCN.out hM)
    have hEq : Hid (decide (lab a ≠ lab c) = true) := Lib.hid (decide_eq_true (by rw [← HLX.out, ← HLY.out]; exact HNE.out))
    have hEq2 : Hid (decide (lab a = lab c) = false) := Lib.hid (decide_eq_false (by rw [← HLX.out, ← HLY.out]; exact HNE.out))
    have hkc : IntKind.i64.wrap ((cntN n lab : Nat) - 1) = (cn : Nat) := by rw [IntWalk.i64_in _ (by omega)]; omega
    have s1 : ∀ q, (w2.drewN q).cell? ⟨b, 3, none⟩ = some (.slice (some ⟨sb, 0, none⟩) n n) := fun _ => HM2.out.st.cell (i := 3) (by omega)
    have s2 : ∀ q, (w2.drewN q).cell? ⟨sb, x, none⟩ = some (.int .i64 (sz x : Nat)) := fun _ => HM2.out.rsz.cell hx
    have s3 : ∀ q, (w2.drewN q).cell? ⟨sb, y, none⟩ = some (.int .i64 (sz y : Nat)) := fun _ => HM2.out.rsz.cell hy
    have hxi : (0 : Int) ≤ x ∧ (x : Int) < n := by omega
    have hyi : (0 : Int) ≤ y ∧ (y : Int) < n := by omega
    have hsx : sz x ≤ 65536 := by rw [(HL2.out x hx HRX.out).2]; exact Nat.le_trans (clsN_le _ _ _) hn
    have hsy : sz y ≤ 65536 := by rw [(HL2.out y hy HRY.out).2]; exact Nat.le_trans (clsN_le _ _ _) hn
    clear hcn hcl hcn1
    go_wp2_with fail
    by_cases hlt : sz x < sz y
    · have k1 : decide (((sz x : Nat) : Int) < ((sz y : Nat) : Int)) = true := decide_eq_true (by omega)
      go_quiet (fail)
      clear s1 s2 s3 k1 hlt
      have M3 := HM2.out.drewN nq
      have bel3 : Inner base w (w2.drewN nq) := bel2.drewN nq
      generalize w2.drewN nq = w3 at *
      have d1 : w3.cell? ⟨b, 1, none⟩ = some (.slice (some ⟨ub, 0, none⟩) n n) := M3.st.cell (i := 1) (by omega)
      have d2 : w3.cell? ⟨ub, x, none⟩ = some (.int .i64 (up2 x : Nat)) := M3.rup.cell hx
      have d3 := M3.rup.frozen x
      have M4 := M3.setUp x y
      have bel4 := bel3.setCell (p := ⟨ub, x, none⟩) M3.lo.2.1 (.int .i64 (y : Nat))
      clear M3 bel3 HM2
      go_wp2_with fail
      generalize w3.setCell ⟨ub, x, none⟩ (.int .i64 (y : Nat)) = w4 at *
      clear d1 d2 d3
      have e1 : w4.cell? ⟨b, 3, none⟩ = some (.slice (some ⟨sb, 0, none⟩) n n) := M4.st.cell (i := 3) (by omega)
      have e2 : w4.cell? ⟨sb, y, none⟩ = some (.int .i64 (sz y : Nat)) := M4.rsz.cell hy
      have e3 : w4.cell? ⟨sb, x, none⟩ = some (.int .i64 (sz x : Nat)) := M4.rsz.cell hx
      have e4 := M4.rsz.frozen y
      have hws : IntKind.i64.wrap (((sz y : Nat) : Int) + ((sz x : Nat) : Int)) = ((sz y : Nat) : Int) + ((sz x : Nat) : Int) := IntWalk.i64_in _ (by omega)
      have M5 : DsM (w4.setCell ⟨sb, y, none⟩ (.int .i64 (((sz y : Nat) : Int) + ((sz x : Nat) : Int)))).drew base b ub lb sb n (fun k => if k = x then y else up2 k) ls (fun k => if k = y then sz y + sz x else sz k) (cntN n lab) := by rw [← Int.natCast_add]; exact (M4.setSz y (sz y + sz x)).drew
      have bel5 := (bel4.setCell (p := ⟨sb, y, none⟩) M4.lo.2.2.2 (.int .i64 (((sz y : Nat) : Int) + ((sz x : Nat) : Int)))).drew
      clear M4 bel4
      go_still_tail 15, (by kernel_rfl)
      go_wp2_with fail
      generalize (w4.setCell ⟨sb, y, none⟩ (.int .i64 (((sz y : Nat) : Int) + ((sz x : Nat) : Int)))).drew = w5 at *
      clear e1 e2 e3 e4 hws
      have f1 : w5.cell? ⟨b, 2, none⟩ = some (.slice (some ⟨lb, 0, none⟩) n n) := M5.st.cell (i := 2) (by omega)
      have f2 : w5.cell? ⟨lb, y, none⟩ = some (.int .i64 (lab y : Nat)) := by rw [← (HL2.out y hy HRY.out).1]; exact M5.rls.cell hy
      have f3 : w5.cell? ⟨lb, x, none⟩ = some (.int .i64 (lab x : Nat)) := by rw [← (HL2.out x hx HRX.out).1]; exact M5.rls.cell hx
      have f4 := M5.rls.frozen y
      rcases Nat.lt_or_gt_of_ne (show lab y ≠ lab x from fun e => HNE.out e.symm) with hc1 | hc1
      · have hci : ((lab y : Nat) : Int) < ((lab x : Nat) : Int) := by omega
        have hmin : min (lab y) (lab x) = lab y := by omega
        have M6 := M5.setLs y (lab y)
        have g1 : (w5.setCell ⟨lb, y, none⟩ (.int .i64 (lab y : Nat))).cell? ⟨b, 4, none⟩ = some (.int .i64 (cntN n lab : Nat)) := M6.st.cell (i := 4) (by omega)
        have g2 := M6.st.frozen 4
        have HF := Lib.hid (HFIN.out (((w5.setCell ⟨lb, y, none⟩ (.int .i64 (lab y : Nat))).setCell ⟨b, 4, none⟩ (.int .i64 (cn : Nat))).drew) y x hy hx HRY.out HRX.out (fun e => hxy e.symm) (.inr ⟨HLX.out.symm, HLY.out.symm⟩) (by rw [hmin]; exact (M6.setCnt cn).drew))
        have bel7 := ((bel5.setCell (p := ⟨lb, y, none⟩) M5.lo.2.2.1 (.int .i64 (lab y : Nat))).setCell (p := ⟨b, 4, none⟩) M6.lo.1 (.int .i64 (cn : Nat))).drew
        clear M5 M6 bel5
        go_still_tail 20, (by kernel_rfl)
        go_wp2_with fail
        go_ret2
        exact ⟨by first | (rw [hEq.out]; rfl) | (rw [hEq2.out]; rfl), HF.out, bel7⟩
      · have hci : ((lab x : Nat) : Int) < ((lab y : Nat) : Int) := by omega
        have hmin : min (lab y) (lab x) = lab x := by omega
        have M6 := M5.setLs y (lab x)
        have g1 : (w5.setCell ⟨lb, y, none⟩ (.int .i64 (lab x : Nat))).cell? ⟨b, 4, none⟩ = some (.int .i64 (cntN n lab : Nat)) := M6.st.cell (i := 4) (by omega)
        have g2 := M6.st.frozen 4
        have HF := Lib.hid (HFIN.out (((w5.setCell ⟨lb, y, none⟩ (.int .i64 (lab x : Nat))).setCell ⟨b, 4, none⟩ (.int .i64 (cn : Nat))).drew) y x hy hx HRY.out HRX.out (fun e => hxy e.symm) (.inr ⟨HLX.out.symm, HLY.out.symm⟩) (by rw [hmin]; exact (M6.setCnt cn).drew))
        have bel7 := ((bel5.setCell (p := ⟨lb, y, none⟩) M5.lo.2.2.1 (.int .i64 (lab x : Nat))).setCell (p := ⟨b, 4, none⟩) M6.lo.1 (.int .i64 (cn : Nat))).drew
        clear M5 M6 bel5
        go_still_tail 20, (by kernel_rfl)
        go_wp2_with fail
        go_ret2
        exact ⟨by first | (rw [hEq.out]; rfl) | (rw [hEq2.out]; rfl), HF.out, bel7⟩
    · have k1 : decide (((sz x : Nat) : Int) < ((sz y : Nat) : Int)) = false := decide_eq_false (by omega)
      go_quiet (fail)
      clear s1 s2 s3 k1 hlt
      have M3 := HM2.out.drewN nq
      have bel3 : Inner base w (w2.drewN nq) := bel2.drewN nq
      generalize w2.drewN nq = w3 at *
      have d1 : w3.cell? ⟨b, 1, none⟩ = some (.slice (some ⟨ub, 0, none⟩) n n) := M3.st.cell (i := 1) (by omega)
      have d2 : w3.cell? ⟨ub, y, none⟩ = some (.int .i64 (up2 y : Nat)) := M3.rup.cell hy
      have d3 := M3.rup.frozen y
      have M4 := M3.setUp y x
      have bel4 := bel3.setCell (p := ⟨ub, y, none⟩) M3.lo.2.1 (.int .i64 (x : Nat))
      clear M3 bel3 HM2
      go_wp2_with fail
      generalize w3.setCell ⟨ub, y, none⟩ (.int .i64 (x : Nat)) = w4 at *
      clear d1 d2 d3
      have e1 : w4.cell? ⟨b, 3, none⟩ = some (.slice (some ⟨sb, 0, none⟩) n n) := M4.st.cell (i := 3) (by omega)
      have e2 : w4.cell? ⟨sb, x, none⟩ = some (.int .i64 (sz x : Nat)) := M4.rsz.cell hx
      have e3 : w4.cell? ⟨sb, y, none⟩ = some (.int .i64 (sz y : Nat)) := M4.rsz.cell hy
      have e4 := M4.rsz.frozen x
      have hws : IntKind.i64.wrap (((sz x : Nat) : Int) + ((sz y : Nat) : Int)) = ((sz x : Nat) : Int) + ((sz y : Nat) : Int) := IntWalk.i64_in _ (by omega)
      have M5 : DsM (w4.setCell ⟨sb, x, none⟩ (.int .i64 (((sz x : Nat) : Int) + ((sz y : Nat) : Int)))).drew base b ub lb sb n (fun k => if k = y then x else up2 k) ls (fun k => if k = x then sz x + sz y else sz k) (cntN n lab) := by rw [← Int.natCast_add]; exact (M4.setSz x (sz x + sz y)).drew
      have bel5 := (bel4.setCell (p := ⟨sb, x, none⟩) M4.lo.2.2.2 (.int .i64 (((sz x : Nat) : Int) + ((sz y : Nat) : Int)))).drew
      clear M4 bel4
      go_still_tail 15, (by kernel_rfl)
      go_wp2_with fail
      generalize (w4.setCell ⟨sb, x, none⟩ (.int .i64 (((sz x : Nat) : Int) + ((sz y : Nat) : Int)))).drew = w5 at *
      clear e1 e2 e3 e4 hws
      have f1 : w5.cell? ⟨b, 2, none⟩ = some (.slice (some ⟨lb, 0, none⟩) n n) := M5.st.cell (i := 2) (by omega)
      have f2 : w5.cell? ⟨lb, x, none⟩ = some (.int .i64 (lab x : Nat)) := by rw [← (HL2.out x hx HRX.out).1]; exact M5.rls.cell hx
      have f3 : w5.cell? ⟨lb, y, none⟩ = some (.int .i64 (lab y : Nat)) := by rw [← (HL2.out y hy HRY.out).1]; exact M5.rls.cell hy
      have f4 := M5.rls.frozen x
      rcases Nat.lt_or_gt_of_ne (show lab x ≠ lab y from HNE.out) with hc1 | hc1
      · have hci : ((lab x : Nat) : Int) < ((lab y : Nat) : Int) := by omega
        have hmin : min (lab x) (lab y) = lab x := by omega
        have M6 := M5.setLs x (lab x)
        have g1 : (w5.setCell ⟨lb, x, none⟩ (.int .i64 (lab x : Nat))).cell? ⟨b, 4, none⟩ = some (.int .i64 (cntN n lab : Nat)) := M6.st.cell (i := 4) (by omega)
        have g2 := M6.st.frozen 4
        have HF := Lib.hid (HFIN.out (((w5.setCell ⟨lb, x, none⟩ (.int .i64 (lab x : Nat))).setCell ⟨b, 4, none⟩ (.int .i64 (cn : Nat))).drew) x y hx hy HRX.out HRY.out hxy (.inl ⟨HLX.out.symm, HLY.out.symm⟩) (by rw [hmin]; exact (M6.setCnt cn).drew))
        have bel7 := ((bel5.setCell (p := ⟨lb, x, none⟩) M5.lo.2.2.1 (.int .i64 (lab x : Nat))).setCell (p := ⟨b, 4, none⟩) M6.lo.1 (.int .i64 (cn : Nat))).drew
        clear M5 M6 bel5
        go_still_tail 20, (by kernel_rfl)
        go_wp2_with fail
        go_ret2
        exact ⟨by first | (rw [hEq.out]; rfl) | (rw [hEq2.out]; rfl), HF.out, bel7⟩
      · have hci : ((lab y : Nat) : Int) < ((lab x : Nat) : Int) := by omega
        have hmin : min (lab x) (lab y) = lab y := by omega
        have M6 := M5.setLs x (lab y)
        have g1 : (w5.setCell ⟨lb, x, none⟩ (.int .i64 (lab y : Nat))).cell? ⟨b, 4, none⟩ = some (.int .i64 (cntN n lab : Nat)) := M6.st.cell (i := 4) (by omega)
        have g2 := M6.st.frozen 4
        have HF := Lib.hid (HFIN.out (((w5.setCell ⟨lb, x, none⟩ (.int .i64 (lab y : Nat))).setCell ⟨b, 4, none⟩ (.int .i64 (cn : Nat))).drew) x y hx hy HRX.out HRY.out hxy (.inl ⟨HLX.out.symm, HLY.out.symm⟩) (by rw [hmin]; exact (M6.setCnt cn).drew))
        have bel7 := ((bel5.setCell (p := ⟨lb, x, none⟩) M5.lo.2.2.1 (.int .i64 (lab y : Nat))).setCell (p := ⟨b, 4, none⟩) M6.lo.1 (.int .i64 (cn : Nat))).drew
        clear M5 M6 bel5
        go_still_tail 20, (by kernel_rfl)
        go_wp2_with fail
        go_ret2
        exact ⟨by first | (rw [hEq.out]; rfl) | (rw [hEq2.out]; rfl), HF.out, bel7⟩
end Go.Proofs.YtibdggbejogciaaGreat
