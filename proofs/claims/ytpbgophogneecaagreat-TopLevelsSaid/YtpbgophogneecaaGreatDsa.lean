/- Disjoint sets in memory: what New, root and Union do. Conditions: the sets were made by New; elements in range. -/
import Derived.Test.YtpbgophogneecaaGreatPl
import Derived.Test.YtpbgophogneecaaGreatMe
import Derived.StillTailTactics
import Derived.Deep.LoopGhost
import Derived.BigRegion
namespace Go.Proofs.YtpbgophogneecaaGreat
open Go.RowKit

/-- the blocks of some sets -/
structure Zone where
  low : Nat
  high : Nat
def Zone.has (z : Zone) (k : Nat) : Prop := z.low ≤ k ∧ k < z.high
/-- nothing but the blocks of a zone has changed -/
structure Inner (z : Zone) (w w' : World) : Prop where
  bel : Below z.low w w'
  high : ∀ k, z.high ≤ k → w'.heap[k]? = w.heap[k]?
theorem Inner.refl (z : Zone) (w : World) : Inner z w w := ⟨Below.refl _ _, fun _ _ => rfl⟩
theorem Inner.trans {z : Zone} {w w1 w2 : World} (h : Inner z w w1) (h' : Inner z w1 w2) : Inner z w w2 := ⟨h.bel.trans h'.bel, fun k hk => (h'.high k hk).trans (h.high k hk)⟩
theorem Inner.setCell {z : Zone} {w w1 : World} (h : Inner z w w1) {p : Addr} (hp : z.has p.block) (v : Value) : Inner z w (w1.setCell p v) := ⟨h.bel.setCell hp.1 v, fun k hk => (Below.heap_setCell _ _ _ _ (by have := hp.2; omega)).trans (h.high k hk)⟩
theorem Inner.drewN {z : Zone} {w w1 : World} (h : Inner z w w1) (q : Nat) : Inner z w (w1.drewN q) := ⟨below_drewN h.bel q, h.high⟩
theorem Inner.drew {z : Zone} {w w1 : World} (h : Inner z w w1) : Inner z w w1.drew := ⟨h.bel.drew, h.high⟩
theorem Inner.out {z : Zone} {w w1 : World} (h : Inner z w w1) {k : Nat} (hk : ¬ z.has k) : w1.heap[k]? = w.heap[k]? := by
  by_cases c : k < z.low
  · exact h.bel.block k c
  · exact h.high k (by unfold Zone.has at hk; omega)
theorem Row.inner {z : Zone} {w w1 : World} {g n : Nat} {f : Nat → Value} (h : Row w g n f) (hi : Inner z w w1) (hg : ¬ z.has g) : Row w1 g n f := h.of_block (hi.out hg)
theorem own_inner {z : Zone} {w w1 : World} {base : Nat} {e : TypeId} {size : Nat} {v : Value} {n : Nat} {xs : List Value} (h : w.ownsRow base e size v n xs) (hi : Inner z w w1) (hg : z.high ≤ base) : w1.ownsRow base e size v n xs := by
  obtain ⟨h1, h2⟩ := h
  refine ⟨h1, h2.imp id ?_⟩
  rintro ⟨g, cap, cur, e1, e2, e3, e4⟩
  exact ⟨g, cap, cur, e1, e2, (hi.high g (by omega)).trans e3, e4⟩

/-- parents that lead up to one root of each class -/
structure UF (n : Nat) (up lab h : Nat → Nat) (H : Nat) : Prop where
  lt : ∀ i, i < n → up i < n
  inc : ∀ i, i < n → up i ≠ i → h i < h (up i)
  bd : ∀ i, i < n → h i ≤ H
  par : ∀ i, i < n → lab (up i) = lab i
  one : ∀ i j, i < n → j < n → up i = i → up j = j → lab i = lab j → i = j
/-- how many elements the class of one has -/
def clsN (n : Nat) (lab : Nat → Nat) (i : Nat) : Nat := ((List.range n).filter fun j => decide (lab j = lab i)).length
theorem clsN_le (n : Nat) (lab : Nat → Nat) (i : Nat) : clsN n lab i ≤ n := by
  have := List.length_filter_le (fun j => decide (lab j = lab i)) (List.range n)
  unfold clsN; simpa using this
theorem cntN_le (n : Nat) (k : Nat → Nat) : cntN n k ≤ n := by
  have := List.length_filter_le (fun i => decide (k i = i)) (List.range n)
  unfold cntN; simpa using this
theorem UF.halve {n : Nat} {up lab h : Nat → Nat} {H : Nat} (U : UF n up lab h H) {a : Nat} (ha : a < n) (hr : up a ≠ a) :
    UF n (fun i => if i = a then up (up a) else up i) lab h H ∧ (∀ i, i < n → ((if i = a then up (up a) else up i) = i ↔ up i = i)) ∧ h a < h (up (up a)) := by
  have hp := U.lt a ha
  have h1 := U.inc a ha hr
  have h2 : h a < h (up (up a)) := by
    by_cases c : up (up a) = up a
    · rw [c]; exact h1
    · have := U.inc (up a) hp c; omega
  have hroot : ∀ i, i < n → ((if i = a then up (up a) else up i) = i ↔ up i = i) := fun i _ => by
    by_cases c : i = a
    · subst c
      rw [if_pos rfl]
      constructor
      · intro e; rw [e] at h2; omega
      · intro e; exact absurd e hr
    · rw [if_neg c]
  refine ⟨⟨fun i hi => ?_, fun i hi hne => ?_, U.bd, fun i hi => ?_, fun i j hi hj h3 h4 h5 => U.one i j hi hj ((hroot i hi).1 h3) ((hroot j hj).1 h4) h5⟩, hroot, h2⟩
  · (try dsimp only); split
    · exact U.lt _ hp
    · exact U.lt i hi
  · (try dsimp only at hne ⊢)
    by_cases c : i = a
    · subst c; rw [if_pos rfl]; exact h2
    · rw [if_neg c] at hne ⊢; exact U.inc i hi hne
  · (try dsimp only); split
    · rename_i c; subst c; rw [U.par _ hp, U.par _ ha]
    · exact U.par i hi
/-- one root is hung below another one -/
theorem UF.hang {n : Nat} {up lab h : Nat → Nat} {H : Nat} (U : UF n up lab h H) (K : LabOk lab) {a c x y : Nat} (hx : x < n) (hy : y < n) (rx : up x = x) (ry : up y = y) (hne : x ≠ y) (hl : (lab a = lab x ∧ lab c = lab y) ∨ (lab a = lab y ∧ lab c = lab x)) :
    UF n (fun i => if i = y then x else up i) (joinF lab a c) (fun i => if i = x then max (h x) (h y + 1) else h i) (H + 1) := by
  have hje := joinF_eq K a c
  have hpar : ∀ i, i < n → joinF lab a c (up i) = joinF lab a c i := fun i hi => by
    rw [hje]; exact .inl (U.par i hi)
  refine ⟨fun i hi => ?_, fun i hi hn => ?_, fun i hi => ?_, fun i hi => ?_, fun i j hi hj h3 h4 h5 => ?_⟩
  · (try dsimp only); split
    · exact hx
    · exact U.lt i hi
  · (try dsimp only at hn ⊢)
    by_cases c1 : i = y
    · subst c1
      rw [if_pos rfl, if_neg (fun e => hne e.symm), if_pos rfl]; omega
    · rw [if_neg c1] at hn ⊢
      have h1 := U.inc i hi hn
      by_cases c2 : i = x
      · subst c2; exact absurd rx hn
      · rw [if_neg c2]
        by_cases c3 : up i = x
        · rw [if_pos c3]; rw [c3] at h1; omega
        · rw [if_neg c3]; exact h1
  · have := U.bd i hi; have := U.bd x hx; have := U.bd y hy
    (try dsimp only); split <;> omega
  · (try dsimp only); split
    · rename_i c1; subst c1
      rw [hje]
      rcases hl with ⟨h1, h2⟩ | ⟨h1, h2⟩
      · exact .inr (.inl ⟨h1.symm, h2.symm⟩)
      · exact .inr (.inr ⟨h2.symm, h1.symm⟩)
    · exact hpar i hi
  · (try dsimp only at h3 h4)
    have g1 : i ≠ y := fun e => by rw [if_pos e] at h3; exact hne (by rw [h3, e])
    have g2 : j ≠ y := fun e => by rw [if_pos e] at h4; exact hne (by rw [h4, e])
    rw [if_neg g1] at h3
    rw [if_neg g2] at h4
    rw [hje] at h5
    rcases h5 with h5 | ⟨h5, h6⟩ | ⟨h5, h6⟩
    · exact U.one i j hi hj h3 h4 h5
    · rcases hl with ⟨h1, h2⟩ | ⟨h1, h2⟩
      · exact absurd (U.one j y hj hy h4 ry (h6.trans h2)) g2
      · exact absurd (U.one i y hi hy h3 ry (h5.trans h1)) g1
    · rcases hl with ⟨h1, h2⟩ | ⟨h1, h2⟩
      · exact absurd (U.one i y hi hy h3 ry (h5.trans h2)) g1
      · exact absurd (U.one j y hj hy h4 ry (h6.trans h1)) g2
theorem joinF_comm (k : Nat → Nat) (u v : Nat) : joinF k u v = joinF k v u := by
  funext i; unfold joinF; rw [Nat.max_comm, Nat.min_comm]
theorem joinF_at {k : Nat → Nat} {u v u' v' : Nat} (h1 : k u = k u') (h2 : k v = k v') : joinF k u v = joinF k u' v' := by
  funext i; unfold joinF; rw [h1, h2]
theorem filt_or {n : Nat} {p q r : Nat → Bool} (h : ∀ i, r i = (p i || q i)) (hd : ∀ i, ¬ (p i = true ∧ q i = true)) : ((List.range n).filter r).length = ((List.range n).filter p).length + ((List.range n).filter q).length := by
  induction n with
  | zero => rfl
  | succ n ih =>
    rw [List.range_succ, List.filter_append, List.filter_append, List.filter_append, List.length_append, List.length_append, List.length_append, ih]
    have h1 := h n; have h2 := hd n
    cases hp : p n <;> cases hq : q n <;> simp [hp, hq] at h1 h2 <;> simp [hp, hq, h1] <;> omega
/-- the size of a class that was joined out of two -/
theorem clsN_join {n : Nat} {lab : Nat → Nat} (K : LabOk lab) {x y : Nat} (hne : lab x ≠ lab y) (i : Nat) (hi : lab i = lab x ∨ lab i = lab y) : clsN n (joinF lab x y) i = clsN n lab x + clsN n lab y := by
  unfold clsN
  refine filt_or (fun j => ?_) (fun j => ?_)
  · have := joinF_eq K x y j i
    rw [Bool.eq_iff_iff]
    simp only [Bool.or_eq_true, decide_eq_true_eq, this]
    rcases hi with hi | hi <;> omega
  · simp only [decide_eq_true_eq]; omega
theorem clsN_other {n : Nat} {lab : Nat → Nat} (K : LabOk lab) {x y i : Nat} (h1 : lab i ≠ lab x) (h2 : lab i ≠ lab y) : clsN n (joinF lab x y) i = clsN n lab i := by
  unfold clsN
  congr 1
  refine List.filter_congr fun j _ => ?_
  have := joinF_eq K x y j i
  rw [Bool.eq_iff_iff]
  simp only [decide_eq_true_eq, this]
  omega

/-- the cells of the struct -/
def dsC (b ub lb sb n cnt : Nat) : Nat → Value
  | 0 => .pointer (some ⟨b, 0, none⟩)
  | 1 => .slice (some ⟨ub, 0, none⟩) n n
  | 2 => .slice (some ⟨lb, 0, none⟩) n n
  | 3 => .slice (some ⟨sb, 0, none⟩) n n
  | _ => .int .i64 (cnt : Nat)
def natC (f : Nat → Nat) (i : Nat) : Value := .int .i64 (f i : Nat)
/-- the struct and its three rows -/
structure DsM (w : World) (base : Zone) (b ub lb sb n : Nat) (up ls sz : Nat → Nat) (cnt : Nat) : Prop where
  st : Row w b 5 (dsC b ub lb sb n cnt)
  rup : Row w ub n (natC up)
  rls : Row w lb n (natC ls)
  rsz : Row w sb n (natC sz)
  ne : b ≠ ub ∧ b ≠ lb ∧ b ≠ sb ∧ ub ≠ lb ∧ ub ≠ sb ∧ lb ≠ sb
  lo : base.has b ∧ base.has ub ∧ base.has lb ∧ base.has sb
section
variable {w w' : World} {base : Zone} {b ub lb sb n cnt : Nat} {up ls sz : Nat → Nat}
theorem DsM.size (h : DsM w base b ub lb sb n up ls sz cnt) : b < w.heap.size ∧ ub < w.heap.size ∧ lb < w.heap.size ∧ sb < w.heap.size := ⟨h.st.lt, h.rup.lt, h.rls.lt, h.rsz.lt⟩
theorem DsM.below (h : DsM w base b ub lb sb n up ls sz cnt) (hb : Below w.heap.size w w') : DsM w' base b ub lb sb n up ls sz cnt :=
  ⟨h.st.below hb h.st.lt, h.rup.below hb h.rup.lt, h.rls.below hb h.rls.lt, h.rsz.below hb h.rsz.lt, h.ne, h.lo⟩
theorem DsM.drewN (h : DsM w base b ub lb sb n up ls sz cnt) (q : Nat) : DsM (w.drewN q) base b ub lb sb n up ls sz cnt := ⟨h.st, h.rup, h.rls, h.rsz, h.ne, h.lo⟩
theorem DsM.drew (h : DsM w base b ub lb sb n up ls sz cnt) : DsM w.drew base b ub lb sb n up ls sz cnt := ⟨h.st, h.rup, h.rls, h.rsz, h.ne, h.lo⟩
theorem natC_set (f : Nat → Nat) (i v j : Nat) : (if j = i then Value.int .i64 (v : Nat) else natC f j) = natC (fun k => if k = i then v else f k) j := by
  unfold natC
  by_cases c : j = i <;> simp [c]
theorem DsM.setUp (h : DsM w base b ub lb sb n up ls sz cnt) (i v : Nat) : DsM (w.setCell ⟨ub, i, none⟩ (.int .i64 (v : Nat))) base b ub lb sb n (fun k => if k = i then v else up k) ls sz cnt :=
  ⟨h.st.setOther h.ne.1 _, (h.rup.set i _).congr fun j _ => natC_set up i v j, h.rls.setOther (fun e => h.ne.2.2.2.1 e.symm) _, h.rsz.setOther (fun e => h.ne.2.2.2.2.1 e.symm) _, h.ne, h.lo⟩
theorem DsM.setLs (h : DsM w base b ub lb sb n up ls sz cnt) (i v : Nat) : DsM (w.setCell ⟨lb, i, none⟩ (.int .i64 (v : Nat))) base b ub lb sb n up (fun k => if k = i then v else ls k) sz cnt :=
  ⟨h.st.setOther h.ne.2.1 _, h.rup.setOther h.ne.2.2.2.1 _, (h.rls.set i _).congr fun j _ => natC_set ls i v j, h.rsz.setOther (fun e => h.ne.2.2.2.2.2 e.symm) _, h.ne, h.lo⟩
theorem DsM.setSz (h : DsM w base b ub lb sb n up ls sz cnt) (i v : Nat) : DsM (w.setCell ⟨sb, i, none⟩ (.int .i64 (v : Nat))) base b ub lb sb n up ls (fun k => if k = i then v else sz k) cnt :=
  ⟨h.st.setOther h.ne.2.2.1 _, h.rup.setOther h.ne.2.2.2.2.1 _, h.rls.setOther h.ne.2.2.2.2.2 _, (h.rsz.set i _).congr fun j _ => natC_set sz i v j, h.ne, h.lo⟩
theorem DsM.setCnt (h : DsM w base b ub lb sb n up ls sz cnt) (v : Nat) : DsM (w.setCell ⟨b, 4, none⟩ (.int .i64 (v : Nat))) base b ub lb sb n up ls sz v :=
  ⟨(h.st.set 4 _).congr fun j hj => by
    by_cases e : j = 4
    · subst e; rw [if_pos rfl]; rfl
    · rw [if_neg e]
      have : j = 0 ∨ j = 1 ∨ j = 2 ∨ j = 3 := by omega
      rcases this with rfl | rfl | rfl | rfl <;> rfl, h.rup.setOther (fun e => h.ne.1 e.symm) _, h.rls.setOther (fun e => h.ne.2.1 e.symm) _, h.rsz.setOther (fun e => h.ne.2.2.1 e.symm) _, h.ne, h.lo⟩
end
/-- sets whose labels are told -/
def DS (w : World) (base : Zone) (b n : Nat) (lab : Nat → Nat) : Prop :=
  ∃ (ub lb sb : Nat) (up ls sz h : Nat → Nat) (H : Nat), DsM w base b ub lb sb n up ls sz (cntN n lab) ∧ UF n up lab h H ∧ LabOk lab ∧ ∀ i, i < n → up i = i → ls i = lab i ∧ sz i = clsN n lab i
theorem DS.below {w w' : World} {base : Zone} {b n : Nat} {lab : Nat → Nat} (h : DS w base b n lab) (hb : Below w.heap.size w w') : DS w' base b n lab := by
  obtain ⟨ub, lb, sb, up, ls, sz, h, H, h1, h2⟩ := h
  exact ⟨ub, lb, sb, up, ls, sz, h, H, h1.below hb, h2⟩
theorem DS.zone {w w' : World} {base : Zone} {b n : Nat} {lab : Nat → Nat} {B : Nat} (h : DS w base b n lab) (hb : Below B w w') (hB : base.high ≤ B) : DS w' base b n lab := by
  obtain ⟨ub, lb, sb, up, ls, sz, h, H, h1, h2⟩ := h
  refine ⟨ub, lb, sb, up, ls, sz, h, H, ⟨h1.st.below hb ?_, h1.rup.below hb ?_, h1.rls.below hb ?_, h1.rsz.below hb ?_, h1.ne, h1.lo⟩, h2⟩
  · have := h1.lo.1.2; omega
  · have := h1.lo.2.1.2; omega
  · have := h1.lo.2.2.1.2; omega
  · have := h1.lo.2.2.2.2; omega
theorem DS.drew {w : World} {base : Zone} {b n : Nat} {lab : Nat → Nat} (h : DS w base b n lab) : DS w.drew base b n lab := by
  obtain ⟨ub, lb, sb, up, ls, sz, h, H, h1, h2⟩ := h
  exact ⟨ub, lb, sb, up, ls, sz, h, H, h1.drew, h2⟩
theorem DS.widen {w : World} {z z' : Zone} {b n : Nat} {lab : Nat → Nat} (h : DS w z b n lab) (h1 : z'.low ≤ z.low) (h2 : z.high ≤ z'.high) : DS w z' b n lab := by
  obtain ⟨ub, lb, sb, up, ls, sz, h, H, m, r⟩ := h
  have g : ∀ k, z.has k → z'.has k := fun k hk => ⟨Nat.le_trans h1 hk.1, Nat.lt_of_lt_of_le hk.2 h2⟩
  exact ⟨ub, lb, sb, up, ls, sz, h, H, ⟨m.st, m.rup, m.rls, m.rsz, m.ne, g _ m.lo.1, g _ m.lo.2.1, g _ m.lo.2.2.1, g _ m.lo.2.2.2⟩, r⟩
theorem DS.lt {w : World} {base : Zone} {b n : Nat} {lab : Nat → Nat} (h : DS w base b n lab) : base.has b ∧ b < w.heap.size := by
  obtain ⟨ub, lb, sb, up, ls, sz, h, H, h1, h2⟩ := h
  exact ⟨h1.lo.1, h1.st.lt⟩

theorem Tryz.infoDs : (Tryz.prog.info? 130).isSome = true := by kernel_rfl
theorem sets_same (a : Addr) (w : World) : (binOp .eql 102 (.pointer (some a)) (.pointer (some a))).run Tryz.prog w = .ok (.bool true) w := by
  obtain ⟨j, hj⟩ := Option.isSome_iff_exists.1 Tryz.infoDs
  exact run_eql_ptr_same w a Tryz.underlying102 hj
set_option maxRecDepth 20000 in
set_option maxHeartbeats 400000 in
theorem dvalid_is (b : Nat) (w : World) (h : w.cell? ⟨b, 0, none⟩ = some (.pointer (some ⟨b, 0, none⟩))) :
    Calls Tryz.prog 72 #[.pointer (some ⟨b, 0, none⟩)] w fun e w' => e = .returned (.bool true) ∧ w = w' := by
  have eq := sets_same ⟨b, 0, none⟩
  go_enter Tryz.func72, Tryz.ntmps72
  go_wp2_with fail
  go_ret
  exact ⟨rfl, rfl⟩
set_option maxRecDepth 20000 in
set_option maxHeartbeats 400000 in
theorem dhas_is (b ub n a c : Nat) (w : World) (h : w.cell? ⟨b, 0, none⟩ = some (.pointer (some ⟨b, 0, none⟩))) (h1 : w.cell? ⟨b, 1, none⟩ = some (.slice (some ⟨ub, 0, none⟩) n c)) (ha : a < n) :
    Calls Tryz.prog 93 #[.pointer (some ⟨b, 0, none⟩), .int .i64 (a : Nat)] w fun e w' => e = .returned (.bool true) ∧ w = w' := by
  have HV := Lib.hid (dvalid_is b w h)
  have k1 : decide ((a : Int) ≥ 0) = true := decide_eq_true (by omega)
  have k2 : decide ((a : Int) < (n : Int)) = true := decide_eq_true (by omega)
  go_enter Tryz.func93, Tryz.ntmps93
  go_wp2_with fail
  refine HV.out.mono ?_
  rintro e w' ⟨rfl, rfl⟩
  go_wp2_with fail
  go_ret
  exact ⟨rfl, rfl⟩
set_option maxRecDepth 100000 in
set_option maxHeartbeats 1000000 in
theorem droot_any (base : Zone) (b ub lb sb n cnt : Nat) (up ls sz lab h : Nat → Nat) (H a : Nat) (w : World) (hM : DsM w base b ub lb sb n up ls sz cnt) (hU : UF n up lab h H) (ha : a < n) :
    Calls Tryz.prog 73 #[.pointer (some ⟨b, 0, none⟩), .int .i64 (a : Nat)] w fun e w' => ∃ (r : Nat) (up' : Nat → Nat), e = .returned (.int .i64 (r : Nat)) ∧ r < n ∧ up' r = r ∧ lab r = lab a ∧ DsM w' base b ub lb sb n up' ls sz cnt ∧ UF n up' lab h H ∧ (∀ i, i < n → (up' i = i ↔ up i = i)) ∧ Inner base w w' := by
  have HM := Lib.hid hM; have HU := Lib.hid hU
  clear hM hU
  go_enter Tryz.func73, Tryz.ntmps73
  go_wp2_with fail
  go_step3
  go_wp2_with fail
  go_step3
  go_wp2_with fail
  go_loopw [1] (fun i wr => ∃ (x : Nat) (u : Nat → Nat), x < n ∧ i = .int .i64 (x : Nat) ∧ lab x = lab a ∧ Hid (DsM wr base b ub lb sb n u ls sz cnt) ∧ Hid (UF n u lab h H) ∧ Hid (∀ i, i < n → (u i = i ↔ up i = i)) ∧ Inner base w wr) (fun i _ => H - h (intOf i).toNat)
  case atStart => exact ⟨a, up, ha, rfl, rfl, HM, HU, Lib.hid (fun _ _ => Iff.rfl), Inner.refl _ _⟩
  case round =>
    clear HM HU
    obtain ⟨x, u, hx, rfl, hla, HM, HU, HI, bel⟩ := hrel
    have c1 : wr.cell? ⟨b, 1, none⟩ = some (.slice (some ⟨ub, 0, none⟩) n n) := HM.out.st.cell (i := 1) (by omega)
    have c2 : wr.cell? ⟨ub, x, none⟩ = some (.int .i64 (u x : Nat)) := HM.out.rup.cell hx
    have hxi : (0 : Int) ≤ x ∧ (x : Int) < n := by omega
    by_cases hr : u x = x
    · have hz : (((u x : Nat) : Int) == (x : Int)) = true := by simp [hr]
      have HR := Lib.hid hr
      generalize u x = p at c2 hz ⊢
      clear hr
      go_wp2_with fail
      rw [Exit.noGoto_ret]
      go_ret
      exact ⟨x, u, rfl, hx, HR.out, hla, HM.out, HU.out, HI.out, bel⟩
    · have hz : (((u x : Nat) : Int) == (x : Int)) = false := by simp; omega
      have hp := HU.out.lt x hx
      have c3 : wr.cell? ⟨ub, u x, none⟩ = some (.int .i64 (u (u x) : Nat)) := HM.out.rup.cell hp
      have hpi : (0 : Int) ≤ (u x : Nat) ∧ ((u x : Nat) : Int) < n := by omega
      have z1 := HM.out.rup.frozen x
      obtain ⟨U2, hroot, hlt2⟩ := HU.out.halve hx hr
      have hinc := HU.out.inc x hx hr
      have hpp := HU.out.lt _ hp
      have M2 := HM.out.setUp x (u (u x))
      have hla2 : lab (u (u x)) = lab a := by rw [HU.out.par _ hp, HU.out.par _ hx, hla]
      have c4 : (wr.setCell ⟨ub, x, none⟩ (.int .i64 (u (u x) : Nat))).cell? ⟨b, 1, none⟩ = some (.slice (some ⟨ub, 0, none⟩) n n) := M2.st.cell (i := 1) (by omega)
      have c5 : (wr.setCell ⟨ub, x, none⟩ (.int .i64 (u (u x) : Nat))).cell? ⟨ub, x, none⟩ = some (.int .i64 (u (u x) : Nat)) := by have := M2.rup.cell hx; rw [natC, if_pos rfl] at this; exact this
      have HU2 := Lib.hid U2; have HM2 := Lib.hid M2
      have HR2 := Lib.hid hroot
      have hmes : H - h (u (u x)) < H - h x := by
        have := HU.out.bd _ hpp
        omega
      clear hlt2
      clear U2 M2 hroot hinc hr
      have hlo := HM.out.lo.2.1
      have HX2 := Lib.hid (fun i hi => (HR2.out i hi).trans (HI.out i hi))
      clear HR2 HI HM HU
      go_wp2_with fail
      go_still_tail 12, (by kernel_rfl)
      go_wp2_with fail
      go_roundw
      case rel => exact ⟨u (u x), _, hpp, rfl, hla2, Lib.hid (HM2.out.drewN 1), HU2, HX2, (bel.setCell (p := ⟨ub, x, none⟩) hlo _).drew⟩
      case measure => simpa only [intOf, Int.toNat_natCast] using hmes
theorem natC_at {f : Nat → Nat} {i : Nat} : natC f i = .int .i64 (f i : Nat) := rfl
/-- what the sets are when one root has been hung below another one -/
theorem DS.hung {w : World} {base : Zone} {b ub lb sb n cnt : Nat} {up ls sz lab h : Nat → Nat} {H a c x y : Nat} (U : UF n up lab h H) (K : LabOk lab) (hls : ∀ i, i < n → up i = i → ls i = lab i ∧ sz i = clsN n lab i) (hx : x < n) (hy : y < n) (rx : up x = x) (ry : up y = y) (hne : x ≠ y)
    (hl : (lab a = lab x ∧ lab c = lab y) ∨ (lab a = lab y ∧ lab c = lab x)) (hcnt : cnt + 1 = cntN n lab)
    (hM : DsM w base b ub lb sb n (fun k => if k = y then x else up k) (fun k => if k = x then min (lab x) (lab y) else ls k) (fun k => if k = x then sz x + sz y else sz k) cnt) : DS w base b n (joinF lab a c) := by
  have hlne : lab x ≠ lab y := fun e => hne (U.one x y hx hy rx ry e)
  have hj : joinF lab a c = joinF lab x y := by
    rcases hl with ⟨h1, h2⟩ | ⟨h1, h2⟩
    · exact joinF_at h1 h2
    · rw [joinF_comm]; exact joinF_at h2 h1
  have hcn : cntN n (joinF lab x y) + 1 = cntN n lab := cntN_join K hx hy hlne
  rw [hj]
  refine ⟨ub, lb, sb, _, _, _, _, _, (by rw [show cntN n (joinF lab x y) = cnt by omega]; exact hM), by rw [← hj]; exact U.hang K hx hy rx ry hne hl, joinF_ok K x y, fun i hi hr => ?_⟩
  by_cases e1 : i = y
  · rw [if_pos e1] at hr; exact absurd (hr.trans e1) hne
  · rw [if_neg e1] at hr
    by_cases e2 : i = x
    · subst e2
      rw [if_pos rfl, if_pos rfl]
      refine ⟨?_, ?_⟩
      · unfold joinF
        split
        · rfl
        · rename_i c1
          have : lab i ≤ lab y ∨ lab y ≤ lab i := Nat.le_total _ _
          omega
      · rw [clsN_join K hlne i (.inl rfl), (hls i hx rx).2, (hls y hy ry).2]
    · rw [if_neg e2, if_neg e2]
      have h1 : lab i ≠ lab x := fun e => e2 (U.one i x hi hx hr rx e)
      have h2 : lab i ≠ lab y := fun e => e1 (U.one i y hi hy hr ry e)
      refine ⟨?_, ?_⟩
      · rw [(hls i hi hr).1]
        unfold joinF
        rw [if_neg (by omega)]
      · rw [(hls i hi hr).2, clsN_other K h1 h2]
set_option maxRecDepth 100000 in
set_option maxHeartbeats 4000000 in
theorem union_any (base : Zone) (b n : Nat) (lab : Nat → Nat) (a c : Nat) (w : World) (hD : DS w base b n lab) (ha : a < n) (hc : c < n) (hn : n ≤ 65536) :
    Calls Tryz.prog 58 #[.pointer (some ⟨b, 0, none⟩), .int .i64 (a : Nat), .int .i64 (c : Nat)] w fun e w' => e = .returned (.tuple #[.bool (decide (lab a ≠ lab c)), .int .i64 0]) ∧ DS w' base b n (joinF lab a c) ∧ Inner base w w' := by
  obtain ⟨ub, lb, sb, up, ls, sz, h, H, hM, hU, hK, hls⟩ := hD
  have c0 : w.cell? ⟨b, 0, none⟩ = some (.pointer (some ⟨b, 0, none⟩)) := hM.st.cell (i := 0) (by omega)
  have c1 : w.cell? ⟨b, 1, none⟩ = some (.slice (some ⟨ub, 0, none⟩) n n) := hM.st.cell (i := 1) (by omega)
  have HV := Lib.hid (dvalid_is b w c0)
  have HA := Lib.hid (dhas_is b ub n a n w c0 c1 ha)
  have HC := Lib.hid (dhas_is b ub n c n w c0 c1 hc)
  have HR1 := Lib.hid (droot_any base b ub lb sb n (cntN n lab) up ls sz lab h H a w hM hU ha)
  have HK := Lib.hid hK; have HLS := Lib.hid hls
  clear hM hU hK hls c0 c1
  go_enter Tryz.func58, Tryz.ntmps58
  go_wp2_with fail
  refine HV.out.mono ?_
  rintro e w' ⟨rfl, rfl⟩
  go_wp2_with fail
  refine HA.out.mono ?_
  rintro e w' ⟨rfl, rfl⟩
  go_wp2_with fail
  refine HC.out.mono ?_
  rintro e w' ⟨rfl, rfl⟩
  go_wp2_with fail
  refine HR1.out.mono ?_
  rintro e w1 ⟨x, up1, rfl, hx, rx1, lx, hM1, hU1, hI1, hb1⟩
  have HR2 := Lib.hid (droot_any base b ub lb sb n (cntN n lab) up1 ls sz lab h H c w1 hM1 hU1 hc)
  clear HV HA HC HR1 hM1 hU1
  go_wp2_with fail
  refine HR2.out.mono ?_
  rintro e w2 ⟨y, up2, rfl, hy, ry, ly, hM2, hU2, hI2, hb2⟩
  have rx := (hI2 x hx).2 rx1
  have bel2 := hb1.trans hb2
  have hls2 : ∀ i, i < n → up2 i = i → ls i = lab i ∧ sz i = clsN n lab i := fun i hi hr => HLS.out i hi ((hI1 i hi).1 ((hI2 i hi).1 hr))
  have HM2 := Lib.hid hM2; have HU2 := Lib.hid hU2; have HL2 := Lib.hid hls2
  have HLX := Lib.hid lx; have HLY := Lib.hid ly
  have HRX := Lib.hid rx; have HRY := Lib.hid ry
  clear HR2 hI1 hI2 HLS hM2 hU2 hls2 rx1 rx ry hb1 hb2 lx ly
  by_cases hxy : x = y
  · subst hxy
    have HE := Lib.hid (show lab a = lab c from HLX.out.symm.trans HLY.out)
    have hz : ((x : Int) == (x : Int)) = true := by simp
    go_wp2_with fail
    go_ret2
    refine ⟨by rw [decide_eq_false (fun hh => hh HE.out)]; rfl, ?_, bel2⟩
    rw [joinF_same HE.out]
    exact ⟨ub, lb, sb, up2, ls, sz, h, H, HM2.out, HU2.out, HK.out, HL2.out⟩
  · have hz : ((x : Int) == (y : Int)) = false := by simp; omega
    have HNE := Lib.hid (show lab x ≠ lab y from fun e => hxy (HU2.out.one x y hx hy HRX.out HRY.out e))
    have hcn := cntN_join HK.out hx hy HNE.out
    have hcl := cntN_le n lab
    obtain ⟨cn, hcn1⟩ : ∃ cn, cn + 1 = cntN n lab := ⟨cntN n (joinF lab x y), hcn⟩
    have hcl2 : cn ≤ 65536 := by omega
    have HCN := Lib.hid hcn1
    have HFIN := Lib.hid (fun (w3 : World) (X Y : Nat) (hX : X < n) (hY : Y < n) (rX : up2 X = X) (rY : up2 Y = Y) (hN : X ≠ Y) (hl : (lab a = lab X ∧ lab c = lab Y) ∨ (lab a = lab Y ∧ lab c = lab X)) (hM : DsM w3 base b ub lb sb n (fun k => if k = Y then X else up2 k) (fun k => if k = X then min (lab X) (lab Y) else ls k) (fun k => if k = X then sz X + sz Y else sz k) cn) =>
      DS.hung (a := a) (c := c) HU2.out HK.out HL2.out hX hY rX rY hN hl HCN.out hM)
    have hEq : Hid (decide (lab a ≠ lab c) = true) := Lib.hid (decide_eq_true (by rw [← HLX.out, ← HLY.out]; exact HNE.out))
    have hEq2 : Hid (decide (lab a = lab c) = false) := Lib.hid (decide_eq_false (by rw [← HLX.out, ← HLY.out]; exact HNE.out))
    have hkc : IntKind.i64.wrap ((cntN n lab : Nat) - 1) = (cn : Nat) := by rw [IntWalk.i64_in _ (by omega)]; omega
    have s1 : ∀ q, (w2.drewN q).cell? ⟨b, 3, none⟩ = some (.slice (some ⟨sb, 0, none⟩) n n) := fun _ => HM2.out.st.cell (i := 3) (by omega)
    have s2 : ∀ q, (w2.drewN q).cell? ⟨sb, x, none⟩ = some (.int .i64 (sz x : Nat)) := fun _ => HM2.out.rsz.cell hx
    have s3 : ∀ q, (w2.drewN q).cell? ⟨sb, y, none⟩ = some (.int .i64 (sz y : Nat)) := fun _ => HM2.out.rsz.cell hy
    have hxi : (0 : Int) ≤ x ∧ (x : Int) < n := by omega
    have hyi : (0 : Int) ≤ y ∧ (y : Int) < n := by omega
    have hsx : sz x ≤ 65536 := by rw [(HL2.out x hx HRX.out).2]; exact Nat.le_trans (clsN_le _ _ _) hn
    have hsy : sz y ≤ 65536 := by rw [(HL2.out y hy HRY.out).2]; exact Nat.le_trans (clsN_le _ _ _) hn
    clear hcn hcl hcn1
    go_wp2_with fail
    by_cases hlt : sz x < sz y
    · have k1 : decide (((sz x : Nat) : Int) < ((sz y : Nat) : Int)) = true := decide_eq_true (by omega)
      go_quiet (fail)
      clear s1 s2 s3 k1 hlt
      have M3 := HM2.out.drewN nq
      have bel3 : Inner base w (w2.drewN nq) := bel2.drewN nq
      generalize w2.drewN nq = w3 at *
      have d1 : w3.cell? ⟨b, 1, none⟩ = some (.slice (some ⟨ub, 0, none⟩) n n) := M3.st.cell (i := 1) (by omega)
      have d2 : w3.cell? ⟨ub, x, none⟩ = some (.int .i64 (up2 x : Nat)) := M3.rup.cell hx
      have d3 := M3.rup.frozen x
      have M4 := M3.setUp x y
      have bel4 := bel3.setCell (p := ⟨ub, x, none⟩) M3.lo.2.1 (.int .i64 (y : Nat))
      clear M3 bel3 HM2
      go_wp2_with fail
      generalize w3.setCell ⟨ub, x, none⟩ (.int .i64 (y : Nat)) = w4 at *
      clear d1 d2 d3
      have e1 : w4.cell? ⟨b, 3, none⟩ = some (.slice (some ⟨sb, 0, none⟩) n n) := M4.st.cell (i := 3) (by omega)
      have e2 : w4.cell? ⟨sb, y, none⟩ = some (.int .i64 (sz y : Nat)) := M4.rsz.cell hy
      have e3 : w4.cell? ⟨sb, x, none⟩ = some (.int .i64 (sz x : Nat)) := M4.rsz.cell hx
      have e4 := M4.rsz.frozen y
      have hws : IntKind.i64.wrap (((sz y : Nat) : Int) + ((sz x : Nat) : Int)) = ((sz y : Nat) : Int) + ((sz x : Nat) : Int) := IntWalk.i64_in _ (by omega)
      have M5 : DsM (w4.setCell ⟨sb, y, none⟩ (.int .i64 (((sz y : Nat) : Int) + ((sz x : Nat) : Int)))).drew base b ub lb sb n (fun k => if k = x then y else up2 k) ls (fun k => if k = y then sz y + sz x else sz k) (cntN n lab) := by rw [← Int.natCast_add]; exact (M4.setSz y (sz y + sz x)).drew
      have bel5 := (bel4.setCell (p := ⟨sb, y, none⟩) M4.lo.2.2.2 (.int .i64 (((sz y : Nat) : Int) + ((sz x : Nat) : Int)))).drew
      clear M4 bel4
      go_still_tail 15, (by kernel_rfl)
      go_wp2_with fail
      generalize (w4.setCell ⟨sb, y, none⟩ (.int .i64 (((sz y : Nat) : Int) + ((sz x : Nat) : Int)))).drew = w5 at *
      clear e1 e2 e3 e4 hws
      have f1 : w5.cell? ⟨b, 2, none⟩ = some (.slice (some ⟨lb, 0, none⟩) n n) := M5.st.cell (i := 2) (by omega)
      have f2 : w5.cell? ⟨lb, y, none⟩ = some (.int .i64 (lab y : Nat)) := by rw [← (HL2.out y hy HRY.out).1]; exact M5.rls.cell hy
      have f3 : w5.cell? ⟨lb, x, none⟩ = some (.int .i64 (lab x : Nat)) := by rw [← (HL2.out x hx HRX.out).1]; exact M5.rls.cell hx
      have f4 := M5.rls.frozen y
      rcases Nat.lt_or_gt_of_ne (show lab y ≠ lab x from fun e => HNE.out e.symm) with hc1 | hc1
      · have hci : ((lab y : Nat) : Int) < ((lab x : Nat) : Int) := by omega
        have hmin : min (lab y) (lab x) = lab y := by omega
        have M6 := M5.setLs y (lab y)
        have g1 : (w5.setCell ⟨lb, y, none⟩ (.int .i64 (lab y : Nat))).cell? ⟨b, 4, none⟩ = some (.int .i64 (cntN n lab : Nat)) := M6.st.cell (i := 4) (by omega)
        have g2 := M6.st.frozen 4
        have HF := Lib.hid (HFIN.out (((w5.setCell ⟨lb, y, none⟩ (.int .i64 (lab y : Nat))).setCell ⟨b, 4, none⟩ (.int .i64 (cn : Nat))).drew) y x hy hx HRY.out HRX.out (fun e => hxy e.symm) (.inr ⟨HLX.out.symm, HLY.out.symm⟩) (by rw [hmin]; exact (M6.setCnt cn).drew))
        have bel7 := ((bel5.setCell (p := ⟨lb, y, none⟩) M5.lo.2.2.1 (.int .i64 (lab y : Nat))).setCell (p := ⟨b, 4, none⟩) M6.lo.1 (.int .i64 (cn : Nat))).drew
        clear M5 M6 bel5
        go_still_tail 20, (by kernel_rfl)
        go_wp2_with fail
        go_ret2
        exact ⟨by first | (rw [hEq.out]; rfl) | (rw [hEq2.out]; rfl), HF.out, bel7⟩
      · have hci : ((lab x : Nat) : Int) < ((lab y : Nat) : Int) := by omega
        have hmin : min (lab y) (lab x) = lab x := by omega
        have M6 := M5.setLs y (lab x)
        have g1 : (w5.setCell ⟨lb, y, none⟩ (.int .i64 (lab x : Nat))).cell? ⟨b, 4, none⟩ = some (.int .i64 (cntN n lab : Nat)) := M6.st.cell (i := 4) (by omega)
        have g2 := M6.st.frozen 4
        have HF := Lib.hid (HFIN.out (((w5.setCell ⟨lb, y, none⟩ (.int .i64 (lab x : Nat))).setCell ⟨b, 4, none⟩ (.int .i64 (cn : Nat))).drew) y x hy hx HRY.out HRX.out (fun e => hxy e.symm) (.inr ⟨HLX.out.symm, HLY.out.symm⟩) (by rw [hmin]; exact (M6.setCnt cn).drew))
        have bel7 := ((bel5.setCell (p := ⟨lb, y, none⟩) M5.lo.2.2.1 (.int .i64 (lab x : Nat))).setCell (p := ⟨b, 4, none⟩) M6.lo.1 (.int .i64 (cn : Nat))).drew
        clear M5 M6 bel5
        go_still_tail 20, (by kernel_rfl)
        go_wp2_with fail
        go_ret2
        exact ⟨by first | (rw [hEq.out]; rfl) | (rw [hEq2.out]; rfl), HF.out, bel7⟩
    · have k1 : decide (((sz x : Nat) : Int) < ((sz y : Nat) : Int)) = false := decide_eq_false (by omega)
      go_quiet (fail)
      clear s1 s2 s3 k1 hlt
      have M3 := HM2.out.drewN nq
      have bel3 : Inner base w (w2.drewN nq) := bel2.drewN nq
      generalize w2.drewN nq = w3 at *
      have d1 : w3.cell? ⟨b, 1, none⟩ = some (.slice (some ⟨ub, 0, none⟩) n n) := M3.st.cell (i := 1) (by omega)
      have d2 : w3.cell? ⟨ub, y, none⟩ = some (.int .i64 (up2 y : Nat)) := M3.rup.cell hy
      have d3 := M3.rup.frozen y
      have M4 := M3.setUp y x
      have bel4 := bel3.setCell (p := ⟨ub, y, none⟩) M3.lo.2.1 (.int .i64 (x : Nat))
      clear M3 bel3 HM2
      go_wp2_with fail
      generalize w3.setCell ⟨ub, y, none⟩ (.int .i64 (x : Nat)) = w4 at *
      clear d1 d2 d3
      have e1 : w4.cell? ⟨b, 3, none⟩ = some (.slice (some ⟨sb, 0, none⟩) n n) := M4.st.cell (i := 3) (by omega)
      have e2 : w4.cell? ⟨sb, x, none⟩ = some (.int .i64 (sz x : Nat)) := M4.rsz.cell hx
      have e3 : w4.cell? ⟨sb, y, none⟩ = some (.int .i64 (sz y : Nat)) := M4.rsz.cell hy
      have e4 := M4.rsz.frozen x
      have hws : IntKind.i64.wrap (((sz x : Nat) : Int) + ((sz y : Nat) : Int)) = ((sz x : Nat) : Int) + ((sz y : Nat) : Int) := IntWalk.i64_in _ (by omega)
      have M5 : DsM (w4.setCell ⟨sb, x, none⟩ (.int .i64 (((sz x : Nat) : Int) + ((sz y : Nat) : Int)))).drew base b ub lb sb n (fun k => if k = y then x else up2 k) ls (fun k => if k = x then sz x + sz y else sz k) (cntN n lab) := by rw [← Int.natCast_add]; exact (M4.setSz x (sz x + sz y)).drew
      have bel5 := (bel4.setCell (p := ⟨sb, x, none⟩) M4.lo.2.2.2 (.int .i64 (((sz x : Nat) : Int) + ((sz y : Nat) : Int)))).drew
      clear M4 bel4
      go_still_tail 15, (by kernel_rfl)
      go_wp2_with fail
      generalize (w4.setCell ⟨sb, x, none⟩ (.int .i64 (((sz x : Nat) : Int) + ((sz y : Nat) : Int)))).drew = w5 at *
      clear e1 e2 e3 e4 hws
      have f1 : w5.cell? ⟨b, 2, none⟩ = some (.slice (some ⟨lb, 0, none⟩) n n) := M5.st.cell (i := 2) (by omega)
      have f2 : w5.cell? ⟨lb, x, none⟩ = some (.int .i64 (lab x : Nat)) := by rw [← (HL2.out x hx HRX.out).1]; exact M5.rls.cell hx
      have f3 : w5.cell? ⟨lb, y, none⟩ = some (.int .i64 (lab y : Nat)) := by rw [← (HL2.out y hy HRY.out).1]; exact M5.rls.cell hy
      have f4 := M5.rls.frozen x
      rcases Nat.lt_or_gt_of_ne (show lab x ≠ lab y from HNE.out) with hc1 | hc1
      · have hci : ((lab x : Nat) : Int) < ((lab y : Nat) : Int) := by omega
        have hmin : min (lab x) (lab y) = lab x := by omega
        have M6 := M5.setLs x (lab x)
        have g1 : (w5.setCell ⟨lb, x, none⟩ (.int .i64 (lab x : Nat))).cell? ⟨b, 4, none⟩ = some (.int .i64 (cntN n lab : Nat)) := M6.st.cell (i := 4) (by omega)
        have g2 := M6.st.frozen 4
        have HF := Lib.hid (HFIN.out (((w5.setCell ⟨lb, x, none⟩ (.int .i64 (lab x : Nat))).setCell ⟨b, 4, none⟩ (.int .i64 (cn : Nat))).drew) x y hx hy HRX.out HRY.out hxy (.inl ⟨HLX.out.symm, HLY.out.symm⟩) (by rw [hmin]; exact (M6.setCnt cn).drew))
        have bel7 := ((bel5.setCell (p := ⟨lb, x, none⟩) M5.lo.2.2.1 (.int .i64 (lab x : Nat))).setCell (p := ⟨b, 4, none⟩) M6.lo.1 (.int .i64 (cn : Nat))).drew
        clear M5 M6 bel5
        go_still_tail 20, (by kernel_rfl)
        go_wp2_with fail
        go_ret2
        exact ⟨by first | (rw [hEq.out]; rfl) | (rw [hEq2.out]; rfl), HF.out, bel7⟩
      · have hci : ((lab y : Nat) : Int) < ((lab x : Nat) : Int) := by omega
        have hmin : min (lab x) (lab y) = lab y := by omega
        have M6 := M5.setLs x (lab y)
        have g1 : (w5.setCell ⟨lb, x, none⟩ (.int .i64 (lab y : Nat))).cell? ⟨b, 4, none⟩ = some (.int .i64 (cntN n lab : Nat)) := M6.st.cell (i := 4) (by omega)
        have g2 := M6.st.frozen 4
        have HF := Lib.hid (HFIN.out (((w5.setCell ⟨lb, x, none⟩ (.int .i64 (lab y : Nat))).setCell ⟨b, 4, none⟩ (.int .i64 (cn : Nat))).drew) x y hx hy HRX.out HRY.out hxy (.inl ⟨HLX.out.symm, HLY.out.symm⟩) (by rw [hmin]; exact (M6.setCnt cn).drew))
        have bel7 := ((bel5.setCell (p := ⟨lb, x, none⟩) M5.lo.2.2.1 (.int .i64 (lab y : Nat))).setCell (p := ⟨b, 4, none⟩) M6.lo.1 (.int .i64 (cn : Nat))).drew
        clear M5 M6 bel5
        go_still_tail 20, (by kernel_rfl)
        go_wp2_with fail
        go_ret2
        exact ⟨by first | (rw [hEq.out]; rfl) | (rw [hEq2.out]; rfl), HF.out, bel7⟩
end Go.Proofs.YtpbgophogneecaaGreat

/- Plain mathematics of groups: where the elements of each class go. No conditions. -/
namespace Go.Proofs.YtpbgophogneecaaGreat

/-- how many elements have smaller labels -/
def stG (n : Nat) (lab : Nat → Nat) (m : Nat) : Nat := ((List.range n).filter fun e => decide (lab e < m)).length
/-- how many of the first elements have a label -/
def rkG (lab : Nat → Nat) (j i : Nat) : Nat := ((List.range i).filter fun e => decide (lab e = j)).length
theorem flen_le {p q : Nat → Bool} {n : Nat} (h : ∀ i, i < n → p i = true → q i = true) : ((List.range n).filter p).length ≤ ((List.range n).filter q).length := by
  induction n with
  | zero => simp
  | succ n ih =>
    rw [List.range_succ, List.filter_append, List.filter_append, List.length_append, List.length_append]
    have := ih fun i hi => h i (by omega)
    have h2 := h n (by omega)
    cases hp : p n <;> cases hq : q n <;> simp_all <;> omega
theorem stG_le (n : Nat) (lab : Nat → Nat) (m : Nat) : stG n lab m ≤ n := by
  unfold stG
  have := List.length_filter_le (fun e => decide (lab e < m)) (List.range n)
  simpa using this
theorem stG_zero (n : Nat) (lab : Nat → Nat) : stG n lab 0 = 0 := by
  unfold stG
  rw [List.filter_eq_nil_iff.2 (fun i _ => by simp)]; rfl
theorem stG_label {n : Nat} {lab : Nat → Nat} {m : Nat} (h : lab m = m) : stG n lab (m + 1) = stG n lab m + clsN n lab m := by
  unfold stG clsN
  rw [h]
  exact filt_or (p := fun e => decide (lab e < m)) (q := fun e => decide (lab e = m)) (fun i => by rw [Bool.eq_iff_iff]; simp; omega) (fun i => by simp; omega)
theorem stG_other {n : Nat} {lab : Nat → Nat} (K : LabOk lab) {m : Nat} (h : lab m ≠ m) : stG n lab (m + 1) = stG n lab m := by
  unfold stG
  congr 1
  refine List.filter_congr fun e _ => ?_
  rw [Bool.eq_iff_iff]
  simp only [decide_eq_true_eq]
  have := K.idem e
  constructor
  · intro h1
    by_cases c : lab e = m
    · rw [c] at this; exact absurd this h
    · omega
  · omega
theorem rkG_zero (lab : Nat → Nat) (j : Nat) : rkG lab j 0 = 0 := rfl
theorem rkG_succ (lab : Nat → Nat) (j i : Nat) : rkG lab j (i + 1) = rkG lab j i + (if lab i = j then 1 else 0) := by
  unfold rkG
  rw [List.range_succ, List.filter_append, List.length_append]
  by_cases h : lab i = j <;> simp [h]
/-- there is room for one more -/
theorem rkG_lt {n : Nat} {lab : Nat → Nat} {i : Nat} (hi : i < n) : rkG lab (lab i) i < clsN n lab (lab (lab i)) ∨ lab (lab i) ≠ lab i := by
  by_cases h : lab (lab i) = lab i
  · left
    rw [h]
    have h1 := rkG_succ lab (lab i) i
    rw [if_pos rfl] at h1
    have h2 : rkG lab (lab i) (i + 1) ≤ rkG lab (lab i) n := by
      have : ∀ m, i + 1 ≤ m → rkG lab (lab i) (i + 1) ≤ rkG lab (lab i) m := fun m hm => by
        induction m with
        | zero => omega
        | succ m ih =>
          by_cases e : i + 1 = m + 1
          · rw [e]; exact Nat.le_refl _
          · have h8 := ih (by omega)
            have h9 := rkG_succ lab (lab i) m
            omega
      exact this n (by omega)
    have h3 : rkG lab (lab i) n = clsN n lab (lab i) := by unfold rkG clsN; rw [h]
    omega
  · exact .inr h
theorem room {n : Nat} {lab : Nat → Nat} (K : LabOk lab) {i : Nat} (hi : i < n) : stG n lab (lab i) + rkG lab (lab i) i < n := by
  have h := K.idem i
  have h1 := (rkG_lt (lab := lab) hi).resolve_right (fun c => c h)
  rw [h] at h1
  have h2 := stG_label (n := n) h
  have h3 := stG_le n lab (lab i + 1)
  omega
theorem rkG_none {lab : Nat → Nat} (K : LabOk lab) {j i : Nat} (h : i ≤ j) : rkG lab j i = 0 := by
  unfold rkG
  rw [List.filter_eq_nil_iff.2 (fun e he => by have := K.le e; have := List.mem_range.1 he; simp; omega)]; rfl
theorem clsN_posG {n : Nat} {lab : Nat → Nat} {i : Nat} (hi : i < n) : 0 < clsN n lab i := by
  unfold clsN
  refine List.length_pos_of_mem (a := i) (List.mem_filter.2 ⟨List.mem_range.2 hi, by simp⟩)
/-- the labels below a bound -/
def lbL (lab : Nat → Nat) (i : Nat) : List Nat := (List.range i).filter fun j => decide (lab j = j)
theorem lbL_succ (lab : Nat → Nat) (i : Nat) : lbL lab (i + 1) = if lab i = i then lbL lab i ++ [i] else lbL lab i := by
  unfold lbL
  rw [List.range_succ, List.filter_append]
  by_cases h : lab i = i <;> simp [h]
theorem lbL_len (lab : Nat → Nat) (i : Nat) : (lbL lab i).length = cntN i lab := rfl
end Go.Proofs.YtpbgophogneecaaGreat

/- The largest class, and the sum of the squares of the classes. No conditions. -/
namespace Go.Proofs.YtpbgophogneecaaGreat
open Go.RowKit

/-- the largest class, and the sum of the squares -/
def lgN (n : Nat) (lab : Nat → Nat) (l : List Nat) : Nat := l.foldl (fun a j => max a (clsN n lab j)) 0
def sqN (n : Nat) (lab : Nat → Nat) (l : List Nat) : Nat := (l.map fun j => clsN n lab j * clsN n lab j).sum
theorem lgN_snoc (n : Nat) (lab : Nat → Nat) (l : List Nat) (j : Nat) : lgN n lab (l ++ [j]) = max (lgN n lab l) (clsN n lab j) := by simp [lgN]
theorem sqN_snoc (n : Nat) (lab : Nat → Nat) (l : List Nat) (j : Nat) : sqN n lab (l ++ [j]) = sqN n lab l + clsN n lab j * clsN n lab j := by simp [sqN]
theorem lgN_le (n : Nat) (lab : Nat → Nat) (l : List Nat) : lgN n lab l ≤ n := by
  induction l using rev_ind with
  | h0 => simp [lgN]
  | h1 l j ih => rw [lgN_snoc]; have := clsN_le n lab j; omega
theorem sqN_le (n : Nat) (lab : Nat → Nat) (l : List Nat) : sqN n lab l ≤ l.length * (n * n) := by
  induction l using rev_ind with
  | h0 => simp [sqN]
  | h1 l j ih =>
    rw [sqN_snoc, List.length_append, List.length_singleton, Nat.add_mul, Nat.one_mul]
    have h := clsN_le n lab j
    have := Nat.mul_le_mul h h
    omega
/-- what Row answers -/
def RowRes (n : Nat) (lab : Nat → Nat) (w : World) (e : Ending) (w' : World) : Prop :=
  e = .returned (.agg #[.int .i64 (lgN n lab (lbL lab n) : Nat), .int .i64 (cntN n lab : Nat), .int .i64 (sqN n lab (lbL lab n) : Nat)]) ∧ Below w.heap.size w w'
theorem row3 (w : World) (x y z : Value) (t : TypeId) : Row (w.alloc (.cells #[x, y, z] t)) w.heap.size 3 (fun i => (#[x, y, z] : Array Value).getD i undef) :=
  Row.lit w _ _ (by simp) fun i hi => by
    match i, hi with
    | 0, _ => rfl
    | 1, _ => rfl
    | 2, _ => rfl
    | n + 3, h => omega
end Go.Proofs.YtpbgophogneecaaGreat

/- Disjoint sets: New. Conditions: none but that the number is accepted. -/
namespace Go.Proofs.YtpbgophogneecaaGreat
open Go.RowKit

theorem clsN_id {n i : Nat} (hi : i < n) : clsN n id i = 1 := by
  unfold clsN
  induction n with
  | zero => omega
  | succ n ih =>
    rw [List.range_succ, List.filter_append, List.length_append]
    by_cases e : i = n
    · subst e
      rw [List.filter_eq_nil_iff.2 (fun j hj => by simp at hj ⊢; omega)]
      simp
    · rw [ih (by omega)]
      have : ¬ n = i := fun h => e h.symm
      simp [this]
theorem uf_id (n : Nat) : UF n id id (fun _ => 0) 0 := ⟨fun _ h => h, fun _ _ h => absurd rfl h, fun _ _ => Nat.le_refl _, fun _ _ => rfl, fun _ _ _ _ _ _ h => h⟩
theorem DsM.congr {w : World} {base : Zone} {b ub lb sb n cnt : Nat} {up ls sz up' ls' sz' : Nat → Nat} (h : DsM w base b ub lb sb n up ls sz cnt) (h1 : ∀ i, i < n → up i = up' i) (h2 : ∀ i, i < n → ls i = ls' i) (h3 : ∀ i, i < n → sz i = sz' i) : DsM w base b ub lb sb n up' ls' sz' cnt :=
  ⟨h.st, h.rup.congr fun i hi => by unfold natC; rw [h1 i hi], h.rls.congr fun i hi => by unfold natC; rw [h2 i hi], h.rsz.congr fun i hi => by unfold natC; rw [h3 i hi], h.ne, h.lo⟩
theorem stp_a (k i : Nat) : (if i = k then k else if i < k then i else 0) = if i < k + 1 then i else 0 := by
  by_cases h1 : i = k
  · rw [if_pos h1, if_pos (by omega), h1]
  · rw [if_neg h1]
    by_cases h2 : i < k
    · rw [if_pos h2, if_pos (by omega)]
    · rw [if_neg h2, if_neg (by omega)]
theorem stp_b (k i : Nat) : (if i = k then 1 else if i < k then 1 else 0) = if i < k + 1 then 1 else 0 := by
  by_cases h1 : i = k
  · rw [if_pos h1, if_pos (by omega)]
  · rw [if_neg h1]
    by_cases h2 : i < k
    · rw [if_pos h2, if_pos (by omega)]
    · rw [if_neg h2, if_neg (by omega)]
/-- what lies in memory behind the makes, and the store of the struct's own address -/
theorem dsu_made (w : World) (n x y z : Nat) (hx : x = w.heap.size ∨ x = w.heap.size + 1 ∨ x = w.heap.size + 1 + 1) (hy : y = w.heap.size ∨ y = w.heap.size + 1 ∨ y = w.heap.size + 1 + 1) (hz : z = w.heap.size ∨ z = w.heap.size + 1 ∨ z = w.heap.size + 1 + 1) (h1 : x ≠ y) (h2 : x ≠ z) (h3 : y ≠ z) :
    DsM (((((w.alloc (.cells (madeCells #[.int .i64 0] n) 3)).alloc (.cells (madeCells #[.int .i64 0] n) 3)).alloc (.cells (madeCells #[.int .i64 0] n) 3)).alloc (.cells #[.pointer (some ⟨w.heap.size + 1 + 1 + 1, 0, none⟩), .slice (some ⟨x, 0, none⟩) n n, .slice (some ⟨y, 0, none⟩) n n, .slice (some ⟨z, 0, none⟩) n n, .int .i64 (n : Nat)] 130)).drew)
      ⟨w.heap.size, w.heap.size + 1 + 1 + 1 + 1⟩ (w.heap.size + 1 + 1 + 1) x y z n (fun _ => 0) (fun _ => 0) (fun _ => 0) n ∧ Below w.heap.size w (((((w.alloc (.cells (madeCells #[.int .i64 0] n) 3)).alloc (.cells (madeCells #[.int .i64 0] n) 3)).alloc (.cells (madeCells #[.int .i64 0] n) 3)).alloc (.cells #[.pointer (some ⟨w.heap.size + 1 + 1 + 1, 0, none⟩), .slice (some ⟨x, 0, none⟩) n n, .slice (some ⟨y, 0, none⟩) n n, .slice (some ⟨z, 0, none⟩) n n, .int .i64 (n : Nat)] 130)).drew) := by
  obtain ⟨A1, hA1⟩ : ∃ A1, w.alloc (.cells (madeCells #[.int .i64 0] n) 3) = A1 := ⟨_, rfl⟩
  have r1 : Row A1 w.heap.size n (fun _ => .int .i64 0) := by rw [← hA1]; exact Row.made w (.int .i64 0) n 3
  have s1 : A1.heap.size = w.heap.size + 1 := by rw [← hA1]; simp
  have b1 : Below w.heap.size w A1 := by rw [← hA1]; exact (Below.refl _ w).alloc (Nat.le_refl _) _
  rw [hA1]
  obtain ⟨A2, hA2⟩ : ∃ A2, A1.alloc (.cells (madeCells #[.int .i64 0] n) 3) = A2 := ⟨_, rfl⟩
  have r2 : Row A2 (w.heap.size + 1) n (fun _ => .int .i64 0) := by rw [← hA2, ← s1]; exact Row.made A1 (.int .i64 0) n 3
  have r1 : Row A2 w.heap.size n (fun _ => .int .i64 0) := by rw [← hA2]; exact r1.alloc _
  have s2 : A2.heap.size = w.heap.size + 1 + 1 := by rw [← hA2, World.size_alloc, s1]
  have b2 : Below w.heap.size w A2 := by rw [← hA2]; exact b1.alloc (by omega) _
  rw [hA2]
  obtain ⟨A3, hA3⟩ : ∃ A3, A2.alloc (.cells (madeCells #[.int .i64 0] n) 3) = A3 := ⟨_, rfl⟩
  have r3 : Row A3 (w.heap.size + 1 + 1) n (fun _ => .int .i64 0) := by rw [← hA3, ← s2]; exact Row.made A2 (.int .i64 0) n 3
  have r1 : Row A3 w.heap.size n (fun _ => .int .i64 0) := by rw [← hA3]; exact r1.alloc _
  have r2 : Row A3 (w.heap.size + 1) n (fun _ => .int .i64 0) := by rw [← hA3]; exact r2.alloc _
  have s3 : A3.heap.size = w.heap.size + 1 + 1 + 1 := by rw [← hA3, World.size_alloc, s2]
  have b3 : Below w.heap.size w A3 := by rw [← hA3]; exact b2.alloc (by omega) _
  rw [hA3, ← s3]
  have r : ∀ q, (q = w.heap.size ∨ q = w.heap.size + 1 ∨ q = w.heap.size + 1 + 1) → Row A3 q n (natC fun _ => 0) := fun q hq => by
    rcases hq with rfl | rfl | rfl
    · exact r1
    · exact r2
    · exact r3
  have st : Row (A3.alloc (.cells #[.pointer (some ⟨A3.heap.size, 0, none⟩), .slice (some ⟨x, 0, none⟩) n n, .slice (some ⟨y, 0, none⟩) n n, .slice (some ⟨z, 0, none⟩) n n, .int .i64 (n : Nat)] 130)) A3.heap.size 5 (fun i => (#[Value.pointer (some ⟨A3.heap.size, 0, none⟩), .slice (some ⟨x, 0, none⟩) n n, .slice (some ⟨y, 0, none⟩) n n, .slice (some ⟨z, 0, none⟩) n n, .int .i64 (n : Nat)] : Array Value).getD i undef) :=
    Row.lit A3 _ _ (by simp) (fun i hi => by
      rw [Array.getD_eq_getD_getElem?, Array.getElem?_eq_getElem (by simpa using hi)]; rfl)
  refine ⟨DsM.drew ⟨st.congr fun i hi => ?_, (r x hx).alloc _, (r y hy).alloc _, (r z hz).alloc _, by omega, by simp only [Zone.has]; omega⟩, (b3.alloc (by omega) _).drew⟩
  have : i = 0 ∨ i = 1 ∨ i = 2 ∨ i = 3 ∨ i = 4 := by omega
  rcases this with rfl | rfl | rfl | rfl | rfl <;> rfl
set_option maxRecDepth 100000 in
set_option maxHeartbeats 4000000 in
theorem dnew_any (n : Nat) (w : World) (hn : n ≤ 65536) :
    Calls Tryz.prog 49 #[.int .i64 (n : Nat)] w fun e w' => ∃ b, e = .returned (.tuple #[.pointer (some ⟨b, 0, none⟩), .int .i64 0]) ∧ DS w' ⟨w.heap.size, w'.heap.size⟩ b n id ∧ Below w.heap.size w w' := by
  have k1 : decide ((n : Int) < 0) = false := decide_eq_false (by omega)
  have k2 : decide ((n : Int) > 65536) = false := decide_eq_false (by omega)
  have hmk : ∀ w, (Instr.makeSlice 46 (.int .i64 (n : Nat)) (.int .i64 (n : Nat))).run Tryz.prog w = .ok (.slice (some ⟨w.heap.size, 0, none⟩) n n) (w.alloc (.cells (madeCells #[.int .i64 0] n) 3)) := fun w =>
    run_make_row' (P := Tryz.prog) 46 3 (.int .i64 0) 8 Tryz.underlying46 Tryz.infoI rfl .i64 .i64 n (by omega) (by omega) w
  go_enter Tryz.func49, Tryz.ntmps49
  go_wp2_with fail
  go_region
  · obtain ⟨M, bel⟩ := dsu_made w n (w.heap.size) (w.heap.size + 1) (w.heap.size + 1 + 1) (by omega) (by omega) (by omega) (by omega) (by omega) (by omega)
    go_wp2_with fail
    generalize ((((w.alloc (.cells (madeCells #[.int .i64 0] n) 3)).alloc (.cells (madeCells #[.int .i64 0] n) 3)).alloc (.cells (madeCells #[.int .i64 0] n) 3)).alloc (.cells #[.pointer (some ⟨w.heap.size + 1 + 1 + 1, 0, none⟩), .slice (some ⟨w.heap.size, 0, none⟩) n n, .slice (some ⟨w.heap.size + 1, 0, none⟩) n n, .slice (some ⟨w.heap.size + 1 + 1, 0, none⟩) n n, .int .i64 (n : Nat)] 130)).drew = W at *
    have M0 := M.congr (up' := fun i => if i < 0 then i else 0) (ls' := fun i => if i < 0 then i else 0) (sz' := fun i => if i < 0 then 1 else 0) (fun i _ => by rw [if_neg (by omega)]) (fun i _ => by rw [if_neg (by omega)]) (fun i _ => by rw [if_neg (by omega)])
    clear hmk M
    go_loopw [26] (fun i wr => ∃ k : Nat, k ≤ n ∧ i = .int .i64 (k : Nat) ∧ Hid (DsM wr ⟨w.heap.size, w.heap.size + 1 + 1 + 1 + 1⟩ (w.heap.size + 1 + 1 + 1) (w.heap.size) (w.heap.size + 1) (w.heap.size + 1 + 1) n (fun i => if i < k then i else 0) (fun i => if i < k then i else 0) (fun i => if i < k then 1 else 0) n) ∧ Below w.heap.size w wr) (fun i _ => n - (intOf i).toNat)
    case atStart => exact ⟨0, Nat.zero_le _, rfl, Lib.hid M0, bel⟩
    case round =>
      clear M0 bel
      obtain ⟨k, hk, rfl, HM, bel⟩ := hrel
      by_cases hlt : k < n
      · have hki : (0 : Int) ≤ k ∧ (k : Int) < n := by omega
        have c1 : wr.cell? ⟨w.heap.size + 1 + 1 + 1, 1, none⟩ = some (.slice (some ⟨w.heap.size, 0, none⟩) n n) := HM.out.st.cell (i := 1) (by omega)
        have c2 : wr.cell? ⟨w.heap.size + 1 + 1 + 1, 2, none⟩ = some (.slice (some ⟨w.heap.size + 1, 0, none⟩) n n) := HM.out.st.cell (i := 2) (by omega)
        have c3 : wr.cell? ⟨w.heap.size + 1 + 1 + 1, 3, none⟩ = some (.slice (some ⟨w.heap.size + 1 + 1, 0, none⟩) n n) := HM.out.st.cell (i := 3) (by omega)
        have M1 := HM.out.setUp k k
        have M2 := M1.setLs k k
        have M3 := M2.setSz k 1
        have e1 := HM.out.rup.cell hlt
        have e2 := HM.out.rup.frozen k
        have e3 := M1.rls.cell hlt
        have e4 := M1.rls.frozen k
        have e5 := M2.rsz.cell hlt
        have e6 := M2.rsz.frozen k
        have HM3 := Lib.hid (M3.drew.congr (up' := fun i => if i < k + 1 then i else 0) (ls' := fun i => if i < k + 1 then i else 0) (sz' := fun i => if i < k + 1 then 1 else 0) (fun i _ => stp_a k i) (fun i _ => stp_a k i) (fun i _ => stp_b k i))
        have HB3 := Lib.hid ((((bel.setCell (p := ⟨w.heap.size, k, none⟩) HM.out.lo.2.1.1 (.int .i64 (k : Nat))).setCell (p := ⟨w.heap.size + 1, k, none⟩) HM.out.lo.2.2.1.1 (.int .i64 (k : Nat))).setCell (p := ⟨w.heap.size + 1 + 1, k, none⟩) HM.out.lo.2.2.2.1 (.int .i64 ((1 : Nat) : Int))).drew)
        have HS : wr.drew.cell? ⟨w.heap.size + 1 + 1 + 1, 1, none⟩ = some (.slice (some ⟨w.heap.size, 0, none⟩) n n) ∧ wr.drew.cell? ⟨w.heap.size + 1 + 1 + 1, 2, none⟩ = some (.slice (some ⟨w.heap.size + 1, 0, none⟩) n n) ∧ wr.drew.cell? ⟨w.heap.size + 1 + 1 + 1, 3, none⟩ = some (.slice (some ⟨w.heap.size + 1 + 1, 0, none⟩) n n) := ⟨c1, c2, c3⟩
        have HS1 := And.intro (M1.drew.st.cell (i := 1) (by omega)) (And.intro (M1.drew.st.cell (i := 2) (by omega)) (M1.drew.st.cell (i := 3) (by omega)))
        have HS2 := And.intro (M2.drew.st.cell (i := 1) (by omega)) (And.intro (M2.drew.st.cell (i := 2) (by omega)) (M2.drew.st.cell (i := 3) (by omega)))
        have HS3 := And.intro (M3.drew.st.cell (i := 1) (by omega)) (And.intro (M3.drew.st.cell (i := 2) (by omega)) (M3.drew.st.cell (i := 3) (by omega)))
        clear M1 M2 M3 HM
        simp only [natC] at e1 e3 e5
        go_wp2_with fail
        refine region_plain (fun w' => w'.cell? ⟨w.heap.size + 1 + 1 + 1, 1, none⟩ = some (.slice (some ⟨w.heap.size, 0, none⟩) n n) ∧ w'.cell? ⟨w.heap.size + 1 + 1 + 1, 2, none⟩ = some (.slice (some ⟨w.heap.size + 1, 0, none⟩) n n) ∧ w'.cell? ⟨w.heap.size + 1 + 1 + 1, 3, none⟩ = some (.slice (some ⟨w.heap.size + 1 + 1, 0, none⟩) n n)) (by kernel_rfl) ?_
        refine take_at (i := 0) (d := 29) (v := ?_) rfl rfl (by kernel_rfl) (by kernel_rfl) (by kernel_rfl) (fun _ _ _ _ => NormalOnly.any) rfl ?hy1 HS ?rest1
        case hy1 => intro w' hSw; (try dsimp only at hSw); go_simp; try (with_reducible rfl)
        try simp only [List.setIfInBounds_toArray, List.set_cons_zero, List.set_cons_succ]
        refine take_at (i := 1) (d := 30) (v := ?_) rfl rfl (by kernel_rfl) (by kernel_rfl) (by kernel_rfl) (fun _ _ _ _ => NormalOnly.any) rfl ?hy2 HS ?rest2
        case hy2 => intro w' hSw; (try dsimp only at hSw); go_simp; try (with_reducible rfl)
        try simp only [List.setIfInBounds_toArray, List.set_cons_zero, List.set_cons_succ]
        refine take_at (i := 2) (d := 31) (v := ?_) rfl rfl (by kernel_rfl) (by kernel_rfl) (by kernel_rfl) (fun _ _ _ _ => NormalOnly.any) rfl ?hy3 HS ?rest3
        case hy3 => intro w' hSw; (try dsimp only at hSw); go_simp; try (with_reducible rfl)
        try simp only [List.setIfInBounds_toArray, List.set_cons_zero, List.set_cons_succ]
        refine take_at (i := 3) (d := 32) (v := ?_) rfl rfl (by kernel_rfl) (by kernel_rfl) (by kernel_rfl) (fun _ _ _ _ => NormalOnly.any) rfl ?hy4 HS ?rest4
        case hy4 => intro w' hSw; (try dsimp only at hSw); go_simp; try (with_reducible rfl)
        try simp only [List.setIfInBounds_toArray, List.set_cons_zero, List.set_cons_succ]
        refine take_at (i := 4) (d := 33) (v := ?_) rfl rfl (by kernel_rfl) (by kernel_rfl) (by kernel_rfl) (fun _ _ _ _ => NormalOnly.any) rfl ?hy5 HS ?rest5
        case hy5 => intro w' hSw; (try dsimp only at hSw); go_simp; try (with_reducible rfl)
        try simp only [List.setIfInBounds_toArray, List.set_cons_zero, List.set_cons_succ]
        refine take_at (i := 5) (d := 34) (v := ?_) rfl rfl (by kernel_rfl) (by kernel_rfl) (by kernel_rfl) (fun _ _ _ _ => NormalOnly.any) rfl ?hy6 HS ?rest6
        case hy6 => intro w' hSw; (try dsimp only at hSw); go_simp; try (with_reducible rfl)
        try simp only [List.setIfInBounds_toArray, List.set_cons_zero, List.set_cons_succ]
        refine take_at (i := 6) (d := 35) (v := ?_) rfl rfl (by kernel_rfl) (by kernel_rfl) (by kernel_rfl) (fun _ _ _ _ => NormalOnly.any) rfl ?hy7 HS ?rest7
        case hy7 => intro w' hSw; (try dsimp only at hSw); go_simp; try (with_reducible rfl)
        try simp only [List.setIfInBounds_toArray, List.set_cons_zero, List.set_cons_succ]
        refine take_at (i := 7) (d := 36) (v := ?_) rfl rfl (by kernel_rfl) (by kernel_rfl) (by kernel_rfl) (fun _ _ _ _ => NormalOnly.any) rfl ?hy8 HS ?rest8
        case hy8 => intro w' hSw; (try dsimp only at hSw); go_simp; try (with_reducible rfl)
        try simp only [List.setIfInBounds_toArray, List.set_cons_zero, List.set_cons_succ]
        refine take_at (i := 8) (d := 37) (v := ?_) rfl rfl (by kernel_rfl) (by kernel_rfl) (by kernel_rfl) (fun _ _ _ _ => NormalOnly.any) rfl ?hy9 HS ?rest9
        case hy9 => intro w' hSw; (try dsimp only at hSw); go_simp; try (with_reducible rfl)
        try simp only [List.setIfInBounds_toArray, List.set_cons_zero, List.set_cons_succ]
        refine take_at (i := 9) (d := 38) (v := ?_) rfl rfl (by kernel_rfl) (by kernel_rfl) (by kernel_rfl) (fun _ _ _ _ => NormalOnly.any) rfl ?hy10 HS ?rest10
        case hy10 => intro w' hSw; (try dsimp only at hSw); go_simp; try (with_reducible rfl)
        try simp only [List.setIfInBounds_toArray, List.set_cons_zero, List.set_cons_succ]
        refine take_at (i := 10) (d := 39) (v := ?_) rfl rfl (by kernel_rfl) (by kernel_rfl) (by kernel_rfl) (fun _ _ _ _ => NormalOnly.any) rfl ?hy11 HS ?rest11
        case hy11 => intro w' hSw; (try dsimp only at hSw); go_simp; try (with_reducible rfl)
        try simp only [List.setIfInBounds_toArray, List.set_cons_zero, List.set_cons_succ]
        refine take_at (i := 11) (d := 40) (v := ?_) rfl rfl (by kernel_rfl) (by kernel_rfl) (by kernel_rfl) (fun _ _ _ _ => NormalOnly.any) rfl ?hy12 HS ?rest12
        case hy12 => intro w' hSw; (try dsimp only at hSw); go_simp; try (with_reducible rfl)
        try simp only [List.setIfInBounds_toArray, List.set_cons_zero, List.set_cons_succ]
        refine take_at (i := 12) (d := 41) (v := ?_) rfl rfl (by kernel_rfl) (by kernel_rfl) (by kernel_rfl) (fun _ _ _ _ => NormalOnly.any) rfl ?hy13 HS ?rest13
        case hy13 => intro w' hSw; (try dsimp only at hSw); go_simp; try (with_reducible rfl)
        try simp only [List.setIfInBounds_toArray, List.set_cons_zero, List.set_cons_succ]
        refine take_at (i := 13) (d := 42) (v := ?_) rfl rfl (by kernel_rfl) (by kernel_rfl) (by kernel_rfl) (fun _ _ _ _ => NormalOnly.any) rfl ?hy14 HS ?rest14
        case hy14 => intro w' hSw; (try dsimp only at hSw); go_simp; try (with_reducible rfl)
        try simp only [List.setIfInBounds_toArray, List.set_cons_zero, List.set_cons_succ]
        refine take_at (i := 14) (d := 43) (v := ?_) rfl rfl (by kernel_rfl) (by kernel_rfl) (by kernel_rfl) (fun _ _ _ _ => NormalOnly.any) rfl ?hy15 HS ?rest15
        case hy15 => intro w' hSw; (try dsimp only at hSw); go_simp; try (with_reducible rfl)
        try simp only [List.setIfInBounds_toArray, List.set_cons_zero, List.set_cons_succ]
        refine take_at (i := 15) (d := 44) (v := ?_) rfl rfl (by kernel_rfl) (by kernel_rfl) (by kernel_rfl) (fun _ _ _ _ => NormalOnly.any) rfl ?hy16 HS ?rest16
        case hy16 => intro w' hSw; (try dsimp only at hSw); go_simp; try (with_reducible rfl)
        try simp only [List.setIfInBounds_toArray, List.set_cons_zero, List.set_cons_succ]
        refine take_at (i := 16) (d := 45) (v := ?_) rfl rfl (by kernel_rfl) (by kernel_rfl) (by kernel_rfl) (fun _ _ _ _ => NormalOnly.any) rfl ?hy17 HS ?rest17
        case hy17 => intro w' hSw; (try dsimp only at hSw); go_simp; try (with_reducible rfl)
        try simp only [List.setIfInBounds_toArray, List.set_cons_zero, List.set_cons_succ]
        refine take_at (i := 17) (d := 46) (v := ?_) rfl rfl (by kernel_rfl) (by kernel_rfl) (by kernel_rfl) (fun _ _ _ _ => NormalOnly.any) rfl ?hy18 HS ?rest18
        case hy18 => intro w' hSw; (try dsimp only at hSw); go_simp; try (with_reducible rfl)
        try simp only [List.setIfInBounds_toArray, List.set_cons_zero, List.set_cons_succ]
        refine wpAnyH_ready (rs := [18]) (by kernel_rfl) (by simp) ?_
        refine AllReadyH.cons rfl (fun K hK => ?_) AllReadyH.nil
        go_simp
        refine hK.out _ _ HS1 (fun HS => ?_)
        clear hK
        refine take_at (i := 19) (d := 47) (v := ?_) rfl rfl (by kernel_rfl) (by kernel_rfl) (by kernel_rfl) (fun _ _ _ _ => NormalOnly.any) rfl ?hy19 HS ?rest19
        case hy19 => intro w' hSw; (try dsimp only at hSw); go_simp; try (with_reducible rfl)
        try simp only [List.setIfInBounds_toArray, List.set_cons_zero, List.set_cons_succ]
        refine wpAnyH_ready (rs := [20]) (by kernel_rfl) (by simp) ?_
        refine AllReadyH.cons rfl (fun K hK => ?_) AllReadyH.nil
        go_simp
        refine hK.out _ _ HS2 (fun HS => ?_)
        clear hK
        refine take_at (i := 21) (d := 48) (v := ?_) rfl rfl (by kernel_rfl) (by kernel_rfl) (by kernel_rfl) (fun _ _ _ _ => NormalOnly.any) rfl ?hy20 HS ?rest20
        case hy20 => intro w' hSw; (try dsimp only at hSw); go_simp; try (with_reducible rfl)
        try simp only [List.setIfInBounds_toArray, List.set_cons_zero, List.set_cons_succ]
        refine wpAnyH_ready (rs := [22]) (by kernel_rfl) (by simp) ?_
        refine AllReadyH.cons rfl (fun K hK => ?_) AllReadyH.nil
        go_simp
        refine hK.out _ _ HS3 (fun _ => ?_)
        clear hK
        refine wpAnyH_done (by kernel_rfl) ⟨rfl, ?_⟩ _
        go_wp2_with fail
        go_roundw
        case rel => exact ⟨k + 1, by omega, by go_num, HM3, HB3.out⟩
        case measure => simp only [intOf]; omega
      · have hke : k = n := by omega
        have HD : DS wr ⟨w.heap.size, wr.heap.size⟩ (w.heap.size + 1 + 1 + 1) n id := DS.widen (z := ⟨w.heap.size, w.heap.size + 1 + 1 + 1 + 1⟩) ⟨w.heap.size, w.heap.size + 1, w.heap.size + 1 + 1, id, id, fun _ => 1, fun _ => 0, 0, by
          rw [cntN_id]
          exact HM.out.congr (fun i hi => if_pos (by omega)) (fun i hi => if_pos (by omega)) (fun i hi => if_pos (by omega)), uf_id n, LabOk.id, fun i hi _ => ⟨rfl, (clsN_id hi).symm⟩⟩ (Nat.le_refl _) HM.out.size.1
        have HD := Lib.hid HD
        clear HM
        go_wp2_with fail
        go_ret2
        exact ⟨_, rfl, HD.out, bel⟩
  · obtain ⟨M, bel⟩ := dsu_made w n (w.heap.size) (w.heap.size + 1 + 1) (w.heap.size + 1) (by omega) (by omega) (by omega) (by omega) (by omega) (by omega)
    go_wp2_with fail
    generalize ((((w.alloc (.cells (madeCells #[.int .i64 0] n) 3)).alloc (.cells (madeCells #[.int .i64 0] n) 3)).alloc (.cells (madeCells #[.int .i64 0] n) 3)).alloc (.cells #[.pointer (some ⟨w.heap.size + 1 + 1 + 1, 0, none⟩), .slice (some ⟨w.heap.size, 0, none⟩) n n, .slice (some ⟨w.heap.size + 1 + 1, 0, none⟩) n n, .slice (some ⟨w.heap.size + 1, 0, none⟩) n n, .int .i64 (n : Nat)] 130)).drew = W at *
    have M0 := M.congr (up' := fun i => if i < 0 then i else 0) (ls' := fun i => if i < 0 then i else 0) (sz' := fun i => if i < 0 then 1 else 0) (fun i _ => by rw [if_neg (by omega)]) (fun i _ => by rw [if_neg (by omega)]) (fun i _ => by rw [if_neg (by omega)])
    clear hmk M
    go_loopw [26] (fun i wr => ∃ k : Nat, k ≤ n ∧ i = .int .i64 (k : Nat) ∧ Hid (DsM wr ⟨w.heap.size, w.heap.size + 1 + 1 + 1 + 1⟩ (w.heap.size + 1 + 1 + 1) (w.heap.size) (w.heap.size + 1 + 1) (w.heap.size + 1) n (fun i => if i < k then i else 0) (fun i => if i < k then i else 0) (fun i => if i < k then 1 else 0) n) ∧ Below w.heap.size w wr) (fun i _ => n - (intOf i).toNat)
    case atStart => exact ⟨0, Nat.zero_le _, rfl, Lib.hid M0, bel⟩
    case round =>
      clear M0 bel
      obtain ⟨k, hk, rfl, HM, bel⟩ := hrel
      by_cases hlt : k < n
      · have hki : (0 : Int) ≤ k ∧ (k : Int) < n := by omega
        have c1 : wr.cell? ⟨w.heap.size + 1 + 1 + 1, 1, none⟩ = some (.slice (some ⟨w.heap.size, 0, none⟩) n n) := HM.out.st.cell (i := 1) (by omega)
        have c2 : wr.cell? ⟨w.heap.size + 1 + 1 + 1, 2, none⟩ = some (.slice (some ⟨w.heap.size + 1 + 1, 0, none⟩) n n) := HM.out.st.cell (i := 2) (by omega)
        have c3 : wr.cell? ⟨w.heap.size + 1 + 1 + 1, 3, none⟩ = some (.slice (some ⟨w.heap.size + 1, 0, none⟩) n n) := HM.out.st.cell (i := 3) (by omega)
        have M1 := HM.out.setUp k k
        have M2 := M1.setLs k k
        have M3 := M2.setSz k 1
        have e1 := HM.out.rup.cell hlt
        have e2 := HM.out.rup.frozen k
        have e3 := M1.rls.cell hlt
        have e4 := M1.rls.frozen k
        have e5 := M2.rsz.cell hlt
        have e6 := M2.rsz.frozen k
        have HM3 := Lib.hid (M3.drew.congr (up' := fun i => if i < k + 1 then i else 0) (ls' := fun i => if i < k + 1 then i else 0) (sz' := fun i => if i < k + 1 then 1 else 0) (fun i _ => stp_a k i) (fun i _ => stp_a k i) (fun i _ => stp_b k i))
        have HB3 := Lib.hid ((((bel.setCell (p := ⟨w.heap.size, k, none⟩) HM.out.lo.2.1.1 (.int .i64 (k : Nat))).setCell (p := ⟨w.heap.size + 1 + 1, k, none⟩) HM.out.lo.2.2.1.1 (.int .i64 (k : Nat))).setCell (p := ⟨w.heap.size + 1, k, none⟩) HM.out.lo.2.2.2.1 (.int .i64 ((1 : Nat) : Int))).drew)
        have HS : wr.drew.cell? ⟨w.heap.size + 1 + 1 + 1, 1, none⟩ = some (.slice (some ⟨w.heap.size, 0, none⟩) n n) ∧ wr.drew.cell? ⟨w.heap.size + 1 + 1 + 1, 2, none⟩ = some (.slice (some ⟨w.heap.size + 1 + 1, 0, none⟩) n n) ∧ wr.drew.cell? ⟨w.heap.size + 1 + 1 + 1, 3, none⟩ = some (.slice (some ⟨w.heap.size + 1, 0, none⟩) n n) := ⟨c1, c2, c3⟩
        have HS1 := And.intro (M1.drew.st.cell (i := 1) (by omega)) (And.intro (M1.drew.st.cell (i := 2) (by omega)) (M1.drew.st.cell (i := 3) (by omega)))
        have HS2 := And.intro (M2.drew.st.cell (i := 1) (by omega)) (And.intro (M2.drew.st.cell (i := 2) (by omega)) (M2.drew.st.cell (i := 3) (by omega)))
        have HS3 := And.intro (M3.drew.st.cell (i := 1) (by omega)) (And.intro (M3.drew.st.cell (i := 2) (by omega)) (M3.drew.st.cell (i := 3) (by omega)))
        clear M1 M2 M3 HM
        simp only [natC] at e1 e3 e5
        go_wp2_with fail
        refine region_plain (fun w' => w'.cell? ⟨w.heap.size + 1 + 1 + 1, 1, none⟩ = some (.slice (some ⟨w.heap.size, 0, none⟩) n n) ∧ w'.cell? ⟨w.heap.size + 1 + 1 + 1, 2, none⟩ = some (.slice (some ⟨w.heap.size + 1 + 1, 0, none⟩) n n) ∧ w'.cell? ⟨w.heap.size + 1 + 1 + 1, 3, none⟩ = some (.slice (some ⟨w.heap.size + 1, 0, none⟩) n n)) (by kernel_rfl) ?_
        refine take_at (i := 0) (d := 29) (v := ?_) rfl rfl (by kernel_rfl) (by kernel_rfl) (by kernel_rfl) (fun _ _ _ _ => NormalOnly.any) rfl ?hy21 HS ?rest21
        case hy21 => intro w' hSw; (try dsimp only at hSw); go_simp; try (with_reducible rfl)
        try simp only [List.setIfInBounds_toArray, List.set_cons_zero, List.set_cons_succ]
        refine take_at (i := 1) (d := 30) (v := ?_) rfl rfl (by kernel_rfl) (by kernel_rfl) (by kernel_rfl) (fun _ _ _ _ => NormalOnly.any) rfl ?hy22 HS ?rest22
        case hy22 => intro w' hSw; (try dsimp only at hSw); go_simp; try (with_reducible rfl)
        try simp only [List.setIfInBounds_toArray, List.set_cons_zero, List.set_cons_succ]
        refine take_at (i := 2) (d := 31) (v := ?_) rfl rfl (by kernel_rfl) (by kernel_rfl) (by kernel_rfl) (fun _ _ _ _ => NormalOnly.any) rfl ?hy23 HS ?rest23
        case hy23 => intro w' hSw; (try dsimp only at hSw); go_simp; try (with_reducible rfl)
        try simp only [List.setIfInBounds_toArray, List.set_cons_zero, List.set_cons_succ]
        refine take_at (i := 3) (d := 32) (v := ?_) rfl rfl (by kernel_rfl) (by kernel_rfl) (by kernel_rfl) (fun _ _ _ _ => NormalOnly.any) rfl ?hy24 HS ?rest24
        case hy24 => intro w' hSw; (try dsimp only at hSw); go_simp; try (with_reducible rfl)
        try simp only [List.setIfInBounds_toArray, List.set_cons_zero, List.set_cons_succ]
        refine take_at (i := 4) (d := 33) (v := ?_) rfl rfl (by kernel_rfl) (by kernel_rfl) (by kernel_rfl) (fun _ _ _ _ => NormalOnly.any) rfl ?hy25 HS ?rest25
        case hy25 => intro w' hSw; (try dsimp only at hSw); go_simp; try (with_reducible rfl)
        try simp only [List.setIfInBounds_toArray, List.set_cons_zero, List.set_cons_succ]
        refine take_at (i := 5) (d := 34) (v := ?_) rfl rfl (by kernel_rfl) (by kernel_rfl) (by kernel_rfl) (fun _ _ _ _ => NormalOnly.any) rfl ?hy26 HS ?rest26
        case hy26 => intro w' hSw; (try dsimp only at hSw); go_simp; try (with_reducible rfl)
        try simp only [List.setIfInBounds_toArray, List.set_cons_zero, List.set_cons_succ]
        refine take_at (i := 6) (d := 35) (v := ?_) rfl rfl (by kernel_rfl) (by kernel_rfl) (by kernel_rfl) (fun _ _ _ _ => NormalOnly.any) rfl ?hy27 HS ?rest27
        case hy27 => intro w' hSw; (try dsimp only at hSw); go_simp; try (with_reducible rfl)
        try simp only [List.setIfInBounds_toArray, List.set_cons_zero, List.set_cons_succ]
        refine take_at (i := 7) (d := 36) (v := ?_) rfl rfl (by kernel_rfl) (by kernel_rfl) (by kernel_rfl) (fun _ _ _ _ => NormalOnly.any) rfl ?hy28 HS ?rest28
        case hy28 => intro w' hSw; (try dsimp only at hSw); go_simp; try (with_reducible rfl)
        try simp only [List.setIfInBounds_toArray, List.set_cons_zero, List.set_cons_succ]
        refine take_at (i := 8) (d := 37) (v := ?_) rfl rfl (by kernel_rfl) (by kernel_rfl) (by kernel_rfl) (fun _ _ _ _ => NormalOnly.any) rfl ?hy29 HS ?rest29
        case hy29 => intro w' hSw; (try dsimp only at hSw); go_simp; try (with_reducible rfl)
        try simp only [List.setIfInBounds_toArray, List.set_cons_zero, List.set_cons_succ]
        refine take_at (i := 9) (d := 38) (v := ?_) rfl rfl (by kernel_rfl) (by kernel_rfl) (by kernel_rfl) (fun _ _ _ _ => NormalOnly.any) rfl ?hy30 HS ?rest30
        case hy30 => intro w' hSw; (try dsimp only at hSw); go_simp; try (with_reducible rfl)
        try simp only [List.setIfInBounds_toArray, List.set_cons_zero, List.set_cons_succ]
        refine take_at (i := 10) (d := 39) (v := ?_) rfl rfl (by kernel_rfl) (by kernel_rfl) (by kernel_rfl) (fun _ _ _ _ => NormalOnly.any) rfl ?hy31 HS ?rest31
        case hy31 => intro w' hSw; (try dsimp only at hSw); go_simp; try (with_reducible rfl)
        try simp only [List.setIfInBounds_toArray, List.set_cons_zero, List.set_cons_succ]
        refine take_at (i := 11) (d := 40) (v := ?_) rfl rfl (by kernel_rfl) (by kernel_rfl) (by kernel_rfl) (fun _ _ _ _ => NormalOnly.any) rfl ?hy32 HS ?rest32
        case hy32 => intro w' hSw; (try dsimp only at hSw); go_simp; try (with_reducible rfl)
        try simp only [List.setIfInBounds_toArray, List.set_cons_zero, List.set_cons_succ]
        refine take_at (i := 12) (d := 41) (v := ?_) rfl rfl (by kernel_rfl) (by kernel_rfl) (by kernel_rfl) (fun _ _ _ _ => NormalOnly.any) rfl ?hy33 HS ?rest33
        case hy33 => intro w' hSw; (try dsimp only at hSw); go_simp; try (with_reducible rfl)
        try simp only [List.setIfInBounds_toArray, List.set_cons_zero, List.set_cons_succ]
        refine take_at (i := 13) (d := 42) (v := ?_) rfl rfl (by kernel_rfl) (by kernel_rfl) (by kernel_rfl) (fun _ _ _ _ => NormalOnly.any) rfl ?hy34 HS ?rest34
        case hy34 => intro w' hSw; (try dsimp only at hSw); go_simp; try (with_reducible rfl)
        try simp only [List.setIfInBounds_toArray, List.set_cons_zero, List.set_cons_succ]
        refine take_at (i := 14) (d := 43) (v := ?_) rfl rfl (by kernel_rfl) (by kernel_rfl) (by kernel_rfl) (fun _ _ _ _ => NormalOnly.any) rfl ?hy35 HS ?rest35
        case hy35 => intro w' hSw; (try dsimp only at hSw); go_simp; try (with_reducible rfl)
        try simp only [List.setIfInBounds_toArray, List.set_cons_zero, List.set_cons_succ]
        refine take_at (i := 15) (d := 44) (v := ?_) rfl rfl (by kernel_rfl) (by kernel_rfl) (by kernel_rfl) (fun _ _ _ _ => NormalOnly.any) rfl ?hy36 HS ?rest36
        case hy36 => intro w' hSw; (try dsimp only at hSw); go_simp; try (with_reducible rfl)
        try simp only [List.setIfInBounds_toArray, List.set_cons_zero, List.set_cons_succ]
        refine take_at (i := 16) (d := 45) (v := ?_) rfl rfl (by kernel_rfl) (by kernel_rfl) (by kernel_rfl) (fun _ _ _ _ => NormalOnly.any) rfl ?hy37 HS ?rest37
        case hy37 => intro w' hSw; (try dsimp only at hSw); go_simp; try (with_reducible rfl)
        try simp only [List.setIfInBounds_toArray, List.set_cons_zero, List.set_cons_succ]
        refine take_at (i := 17) (d := 46) (v := ?_) rfl rfl (by kernel_rfl) (by kernel_rfl) (by kernel_rfl) (fun _ _ _ _ => NormalOnly.any) rfl ?hy38 HS ?rest38
        case hy38 => intro w' hSw; (try dsimp only at hSw); go_simp; try (with_reducible rfl)
        try simp only [List.setIfInBounds_toArray, List.set_cons_zero, List.set_cons_succ]
        refine wpAnyH_ready (rs := [18]) (by kernel_rfl) (by simp) ?_
        refine AllReadyH.cons rfl (fun K hK => ?_) AllReadyH.nil
        go_simp
        refine hK.out _ _ HS1 (fun HS => ?_)
        clear hK
        refine take_at (i := 19) (d := 47) (v := ?_) rfl rfl (by kernel_rfl) (by kernel_rfl) (by kernel_rfl) (fun _ _ _ _ => NormalOnly.any) rfl ?hy39 HS ?rest39
        case hy39 => intro w' hSw; (try dsimp only at hSw); go_simp; try (with_reducible rfl)
        try simp only [List.setIfInBounds_toArray, List.set_cons_zero, List.set_cons_succ]
        refine wpAnyH_ready (rs := [20]) (by kernel_rfl) (by simp) ?_
        refine AllReadyH.cons rfl (fun K hK => ?_) AllReadyH.nil
        go_simp
        refine hK.out _ _ HS2 (fun HS => ?_)
        clear hK
        refine take_at (i := 21) (d := 48) (v := ?_) rfl rfl (by kernel_rfl) (by kernel_rfl) (by kernel_rfl) (fun _ _ _ _ => NormalOnly.any) rfl ?hy40 HS ?rest40
        case hy40 => intro w' hSw; (try dsimp only at hSw); go_simp; try (with_reducible rfl)
        try simp only [List.setIfInBounds_toArray, List.set_cons_zero, List.set_cons_succ]
        refine wpAnyH_ready (rs := [22]) (by kernel_rfl) (by simp) ?_
        refine AllReadyH.cons rfl (fun K hK => ?_) AllReadyH.nil
        go_simp
        refine hK.out _ _ HS3 (fun _ => ?_)
        clear hK
        refine wpAnyH_done (by kernel_rfl) ⟨rfl, ?_⟩ _
        go_wp2_with fail
        go_roundw
        case rel => exact ⟨k + 1, by omega, by go_num, HM3, HB3.out⟩
        case measure => simp only [intOf]; omega
      · have hke : k = n := by omega
        have HD : DS wr ⟨w.heap.size, wr.heap.size⟩ (w.heap.size + 1 + 1 + 1) n id := DS.widen (z := ⟨w.heap.size, w.heap.size + 1 + 1 + 1 + 1⟩) ⟨w.heap.size, w.heap.size + 1 + 1, w.heap.size + 1, id, id, fun _ => 1, fun _ => 0, 0, by
          rw [cntN_id]
          exact HM.out.congr (fun i hi => if_pos (by omega)) (fun i hi => if_pos (by omega)) (fun i hi => if_pos (by omega)), uf_id n, LabOk.id, fun i hi _ => ⟨rfl, (clsN_id hi).symm⟩⟩ (Nat.le_refl _) HM.out.size.1
        have HD := Lib.hid HD
        clear HM
        go_wp2_with fail
        go_ret2
        exact ⟨_, rfl, HD.out, bel⟩
  · obtain ⟨M, bel⟩ := dsu_made w n (w.heap.size + 1) (w.heap.size) (w.heap.size + 1 + 1) (by omega) (by omega) (by omega) (by omega) (by omega) (by omega)
    go_wp2_with fail
    generalize ((((w.alloc (.cells (madeCells #[.int .i64 0] n) 3)).alloc (.cells (madeCells #[.int .i64 0] n) 3)).alloc (.cells (madeCells #[.int .i64 0] n) 3)).alloc (.cells #[.pointer (some ⟨w.heap.size + 1 + 1 + 1, 0, none⟩), .slice (some ⟨w.heap.size + 1, 0, none⟩) n n, .slice (some ⟨w.heap.size, 0, none⟩) n n, .slice (some ⟨w.heap.size + 1 + 1, 0, none⟩) n n, .int .i64 (n : Nat)] 130)).drew = W at *
    have M0 := M.congr (up' := fun i => if i < 0 then i else 0) (ls' := fun i => if i < 0 then i else 0) (sz' := fun i => if i < 0 then 1 else 0) (fun i _ => by rw [if_neg (by omega)]) (fun i _ => by rw [if_neg (by omega)]) (fun i _ => by rw [if_neg (by omega)])
    clear hmk M
    go_loopw [26] (fun i wr => ∃ k : Nat, k ≤ n ∧ i = .int .i64 (k : Nat) ∧ Hid (DsM wr ⟨w.heap.size, w.heap.size + 1 + 1 + 1 + 1⟩ (w.heap.size + 1 + 1 + 1) (w.heap.size + 1) (w.heap.size) (w.heap.size + 1 + 1) n (fun i => if i < k then i else 0) (fun i => if i < k then i else 0) (fun i => if i < k then 1 else 0) n) ∧ Below w.heap.size w wr) (fun i _ => n - (intOf i).toNat)
    case atStart => exact ⟨0, Nat.zero_le _, rfl, Lib.hid M0, bel⟩
    case round =>
      clear M0 bel
      obtain ⟨k, hk, rfl, HM, bel⟩ := hrel
      by_cases hlt : k < n
      · have hki : (0 : Int) ≤ k ∧ (k : Int) < n := by omega
        have c1 : wr.cell? ⟨w.heap.size + 1 + 1 + 1, 1, none⟩ = some (.slice (some ⟨w.heap.size + 1, 0, none⟩) n n) := HM.out.st.cell (i := 1) (by omega)
        have c2 : wr.cell? ⟨w.heap.size + 1 + 1 + 1, 2, none⟩ = some (.slice (some ⟨w.heap.size, 0, none⟩) n n) := HM.out.st.cell (i := 2) (by omega)
        have c3 : wr.cell? ⟨w.heap.size + 1 + 1 + 1, 3, none⟩ = some (.slice (some ⟨w.heap.size + 1 + 1, 0, none⟩) n n) := HM.out.st.cell (i := 3) (by omega)
        have M1 := HM.out.setUp k k
        have M2 := M1.setLs k k
        have M3 := M2.setSz k 1
        have e1 := HM.out.rup.cell hlt
        have e2 := HM.out.rup.frozen k
        have e3 := M1.rls.cell hlt
        have e4 := M1.rls.frozen k
        have e5 := M2.rsz.cell hlt
        have e6 := M2.rsz.frozen k
        have HM3 := Lib.hid (M3.drew.congr (up' := fun i => if i < k + 1 then i else 0) (ls' := fun i => if i < k + 1 then i else 0) (sz' := fun i => if i < k + 1 then 1 else 0) (fun i _ => stp_a k i) (fun i _ => stp_a k i) (fun i _ => stp_b k i))
        have HB3 := Lib.hid ((((bel.setCell (p := ⟨w.heap.size + 1, k, none⟩) HM.out.lo.2.1.1 (.int .i64 (k : Nat))).setCell (p := ⟨w.heap.size, k, none⟩) HM.out.lo.2.2.1.1 (.int .i64 (k : Nat))).setCell (p := ⟨w.heap.size + 1 + 1, k, none⟩) HM.out.lo.2.2.2.1 (.int .i64 ((1 : Nat) : Int))).drew)
        have HS : wr.drew.cell? ⟨w.heap.size + 1 + 1 + 1, 1, none⟩ = some (.slice (some ⟨w.heap.size + 1, 0, none⟩) n n) ∧ wr.drew.cell? ⟨w.heap.size + 1 + 1 + 1, 2, none⟩ = some (.slice (some ⟨w.heap.size, 0, none⟩) n n) ∧ wr.drew.cell? ⟨w.heap.size + 1 + 1 + 1, 3, none⟩ = some (.slice (some ⟨w.heap.size + 1 + 1, 0, none⟩) n n) := ⟨c1, c2, c3⟩
        have HS1 := And.intro (M1.drew.st.cell (i := 1) (by omega)) (And.intro (M1.drew.st.cell (i := 2) (by omega)) (M1.drew.st.cell (i := 3) (by omega)))
        have HS2 := And.intro (M2.drew.st.cell (i := 1) (by omega)) (And.intro (M2.drew.st.cell (i := 2) (by omega)) (M2.drew.st.cell (i := 3) (by omega)))
        have HS3 := And.intro (M3.drew.st.cell (i := 1) (by omega)) (And.intro (M3.drew.st.cell (i := 2) (by omega)) (M3.drew.st.cell (i := 3) (by omega)))
        clear M1 M2 M3 HM
        simp only [natC] at e1 e3 e5
        go_wp2_with fail
        refine region_plain (fun w' => w'.cell? ⟨w.heap.size + 1 + 1 + 1, 1, none⟩ = some (.slice (some ⟨w.heap.size + 1, 0, none⟩) n n) ∧ w'.cell? ⟨w.heap.size + 1 + 1 + 1, 2, none⟩ = some (.slice (some ⟨w.heap.size, 0, none⟩) n n) ∧ w'.cell? ⟨w.heap.size + 1 + 1 + 1, 3, none⟩ = some (.slice (some ⟨w.heap.size + 1 + 1, 0, none⟩) n n)) (by kernel_rfl) ?_
        refine take_at (i := 0) (d := 29) (v := ?_) rfl rfl (by kernel_rfl) (by kernel_rfl) (by kernel_rfl) (fun _ _ _ _ => NormalOnly.any) rfl ?hy41 HS ?rest41
        case hy41 => intro w' hSw; (try dsimp only at hSw); go_simp; try (with_reducible rfl)
        try simp only [List.setIfInBounds_toArray, List.set_cons_zero, List.set_cons_succ]
        refine take_at (i := 1) (d := 30) (v := ?_) rfl rfl (by kernel_rfl) (by kernel_rfl) (by kernel_rfl) (fun _ _ _ _ => NormalOnly.any) rfl ?hy42 HS ?rest42
        case hy42 => intro w' hSw; (try dsimp only at hSw); go_simp; try (with_reducible rfl)
        try simp only [List.setIfInBounds_toArray, List.set_cons_zero, List.set_cons_succ]
        refine take_at (i := 2) (d := 31) (v := ?_) rfl rfl (by kernel_rfl) (by kernel_rfl) (by kernel_rfl) (fun _ _ _ _ => NormalOnly.any) rfl ?hy43 HS ?rest43
        case hy43 => intro w' hSw; (try dsimp only at hSw); go_simp; try (with_reducible rfl)
        try simp only [List.setIfInBounds_toArray, List.set_cons_zero, List.set_cons_succ]
        refine take_at (i := 3) (d := 32) (v := ?_) rfl rfl (by kernel_rfl) (by kernel_rfl) (by kernel_rfl) (fun _ _ _ _ => NormalOnly.any) rfl ?hy44 HS ?rest44
        case hy44 => intro w' hSw; (try dsimp only at hSw); go_simp; try (with_reducible rfl)
        try simp only [List.setIfInBounds_toArray, List.set_cons_zero, List.set_cons_succ]
        refine take_at (i := 4) (d := 33) (v := ?_) rfl rfl (by kernel_rfl) (by kernel_rfl) (by kernel_rfl) (fun _ _ _ _ => NormalOnly.any) rfl ?hy45 HS ?rest45
        case hy45 => intro w' hSw; (try dsimp only at hSw); go_simp; try (with_reducible rfl)
        try simp only [List.setIfInBounds_toArray, List.set_cons_zero, List.set_cons_succ]
        refine take_at (i := 5) (d := 34) (v := ?_) rfl rfl (by kernel_rfl) (by kernel_rfl) (by kernel_rfl) (fun _ _ _ _ => NormalOnly.any) rfl ?hy46 HS ?rest46
        case hy46 => intro w' hSw; (try dsimp only at hSw); go_simp; try (with_reducible rfl)
        try simp only [List.setIfInBounds_toArray, List.set_cons_zero, List.set_cons_succ]
        refine take_at (i := 6) (d := 35) (v := ?_) rfl rfl (by kernel_rfl) (by kernel_rfl) (by kernel_rfl) (fun _ _ _ _ => NormalOnly.any) rfl ?hy47 HS ?rest47
        case hy47 => intro w' hSw; (try dsimp only at hSw); go_simp; try (with_reducible rfl)
        try simp only [List.setIfInBounds_toArray, List.set_cons_zero, List.set_cons_succ]
        refine take_at (i := 7) (d := 36) (v := ?_) rfl rfl (by kernel_rfl) (by kernel_rfl) (by kernel_rfl) (fun _ _ _ _ => NormalOnly.any) rfl ?hy48 HS ?rest48
        case hy48 => intro w' hSw; (try dsimp only at hSw); go_simp; try (with_reducible rfl)
        try simp only [List.setIfInBounds_toArray, List.set_cons_zero, List.set_cons_succ]
        refine take_at (i := 8) (d := 37) (v := ?_) rfl rfl (by kernel_rfl) (by kernel_rfl) (by kernel_rfl) (fun _ _ _ _ => NormalOnly.any) rfl ?hy49 HS ?rest49
        case hy49 => intro w' hSw; (try dsimp only at hSw); go_simp; try (with_reducible rfl)
        try simp only [List.setIfInBounds_toArray, List.set_cons_zero, List.set_cons_succ]
        refine take_at (i := 9) (d := 38) (v := ?_) rfl rfl (by kernel_rfl) (by kernel_rfl) (by kernel_rfl) (fun _ _ _ _ => NormalOnly.any) rfl ?hy50 HS ?rest50
        case hy50 => intro w' hSw; (try dsimp only at hSw); go_simp; try (with_reducible rfl)
        try simp only [List.setIfInBounds_toArray, List.set_cons_zero, List.set_cons_succ]
        refine take_at (i := 10) (d := 39) (v := ?_) rfl rfl (by kernel_rfl) (by kernel_rfl) (by kernel_rfl) (fun _ _ _ _ => NormalOnly.any) rfl ?hy51 HS ?rest51
        case hy51 => intro w' hSw; (try dsimp only at hSw); go_simp; try (with_reducible rfl)
        try simp only [List.setIfInBounds_toArray, List.set_cons_zero, List.set_cons_succ]
        refine take_at (i := 11) (d := 40) (v := ?_) rfl rfl (by kernel_rfl) (by kernel_rfl) (by kernel_rfl) (fun _ _ _ _ => NormalOnly.any) rfl ?hy52 HS ?rest52
        case hy52 => intro w' hSw; (try dsimp only at hSw); go_simp; try (with_reducible rfl)
        try simp only [List.setIfInBounds_toArray, List.set_cons_zero, List.set_cons_succ]
        refine take_at (i := 12) (d := 41) (v := ?_) rfl rfl (by kernel_rfl) (by kernel_rfl) (by kernel_rfl) (fun _ _ _ _ => NormalOnly.any) rfl ?hy53 HS ?rest53
        case hy53 => intro w' hSw; (try dsimp only at hSw); go_simp; try (with_reducible rfl)
        try simp only [List.setIfInBounds_toArray, List.set_cons_zero, List.set_cons_succ]
        refine take_at (i := 13) (d := 42) (v := ?_) rfl rfl (by kernel_rfl) (by kernel_rfl) (by kernel_rfl) (fun _ _ _ _ => NormalOnly.any) rfl ?hy54 HS ?rest54
        case hy54 => intro w' hSw; (try dsimp only at hSw); go_simp; try (with_reducible rfl)
        try simp only [List.setIfInBounds_toArray, List.set_cons_zero, List.set_cons_succ]
        refine take_at (i := 14) (d := 43) (v := ?_) rfl rfl (by kernel_rfl) (by kernel_rfl) (by kernel_rfl) (fun _ _ _ _ => NormalOnly.any) rfl ?hy55 HS ?rest55
        case hy55 => intro w' hSw; (try dsimp only at hSw); go_simp; try (with_reducible rfl)
        try simp only [List.setIfInBounds_toArray, List.set_cons_zero, List.set_cons_succ]
        refine take_at (i := 15) (d := 44) (v := ?_) rfl rfl (by kernel_rfl) (by kernel_rfl) (by kernel_rfl) (fun _ _ _ _ => NormalOnly.any) rfl ?hy56 HS ?rest56
        case hy56 => intro w' hSw; (try dsimp only at hSw); go_simp; try (with_reducible rfl)
        try simp only [List.setIfInBounds_toArray, List.set_cons_zero, List.set_cons_succ]
        refine take_at (i := 16) (d := 45) (v := ?_) rfl rfl (by kernel_rfl) (by kernel_rfl) (by kernel_rfl) (fun _ _ _ _ => NormalOnly.any) rfl ?hy57 HS ?rest57
        case hy57 => intro w' hSw; (try dsimp only at hSw); go_simp; try (with_reducible rfl)
        try simp only [List.setIfInBounds_toArray, List.set_cons_zero, List.set_cons_succ]
        refine take_at (i := 17) (d := 46) (v := ?_) rfl rfl (by kernel_rfl) (by kernel_rfl) (by kernel_rfl) (fun _ _ _ _ => NormalOnly.any) rfl ?hy58 HS ?rest58
        case hy58 => intro w' hSw; (try dsimp only at hSw); go_simp; try (with_reducible rfl)
        try simp only [List.setIfInBounds_toArray, List.set_cons_zero, List.set_cons_succ]
        refine wpAnyH_ready (rs := [18]) (by kernel_rfl) (by simp) ?_
        refine AllReadyH.cons rfl (fun K hK => ?_) AllReadyH.nil
        go_simp
        refine hK.out _ _ HS1 (fun HS => ?_)
        clear hK
        refine take_at (i := 19) (d := 47) (v := ?_) rfl rfl (by kernel_rfl) (by kernel_rfl) (by kernel_rfl) (fun _ _ _ _ => NormalOnly.any) rfl ?hy59 HS ?rest59
        case hy59 => intro w' hSw; (try dsimp only at hSw); go_simp; try (with_reducible rfl)
        try simp only [List.setIfInBounds_toArray, List.set_cons_zero, List.set_cons_succ]
        refine wpAnyH_ready (rs := [20]) (by kernel_rfl) (by simp) ?_
        refine AllReadyH.cons rfl (fun K hK => ?_) AllReadyH.nil
        go_simp
        refine hK.out _ _ HS2 (fun HS => ?_)
        clear hK
        refine take_at (i := 21) (d := 48) (v := ?_) rfl rfl (by kernel_rfl) (by kernel_rfl) (by kernel_rfl) (fun _ _ _ _ => NormalOnly.any) rfl ?hy60 HS ?rest60
        case hy60 => intro w' hSw; (try dsimp only at hSw); go_simp; try (with_reducible rfl)
        try simp only [List.setIfInBounds_toArray, List.set_cons_zero, List.set_cons_succ]
        refine wpAnyH_ready (rs := [22]) (by kernel_rfl) (by simp) ?_
        refine AllReadyH.cons rfl (fun K hK => ?_) AllReadyH.nil
        go_simp
        refine hK.out _ _ HS3 (fun _ => ?_)
        clear hK
        refine wpAnyH_done (by kernel_rfl) ⟨rfl, ?_⟩ _
        go_wp2_with fail
        go_roundw
        case rel => exact ⟨k + 1, by omega, by go_num, HM3, HB3.out⟩
        case measure => simp only [intOf]; omega
      · have hke : k = n := by omega
        have HD : DS wr ⟨w.heap.size, wr.heap.size⟩ (w.heap.size + 1 + 1 + 1) n id := DS.widen (z := ⟨w.heap.size, w.heap.size + 1 + 1 + 1 + 1⟩) ⟨w.heap.size + 1, w.heap.size, w.heap.size + 1 + 1, id, id, fun _ => 1, fun _ => 0, 0, by
          rw [cntN_id]
          exact HM.out.congr (fun i hi => if_pos (by omega)) (fun i hi => if_pos (by omega)) (fun i hi => if_pos (by omega)), uf_id n, LabOk.id, fun i hi _ => ⟨rfl, (clsN_id hi).symm⟩⟩ (Nat.le_refl _) HM.out.size.1
        have HD := Lib.hid HD
        clear HM
        go_wp2_with fail
        go_ret2
        exact ⟨_, rfl, HD.out, bel⟩
  · obtain ⟨M, bel⟩ := dsu_made w n (w.heap.size + 1 + 1) (w.heap.size) (w.heap.size + 1) (by omega) (by omega) (by omega) (by omega) (by omega) (by omega)
    go_wp2_with fail
    generalize ((((w.alloc (.cells (madeCells #[.int .i64 0] n) 3)).alloc (.cells (madeCells #[.int .i64 0] n) 3)).alloc (.cells (madeCells #[.int .i64 0] n) 3)).alloc (.cells #[.pointer (some ⟨w.heap.size + 1 + 1 + 1, 0, none⟩), .slice (some ⟨w.heap.size + 1 + 1, 0, none⟩) n n, .slice (some ⟨w.heap.size, 0, none⟩) n n, .slice (some ⟨w.heap.size + 1, 0, none⟩) n n, .int .i64 (n : Nat)] 130)).drew = W at *
    have M0 := M.congr (up' := fun i => if i < 0 then i else 0) (ls' := fun i => if i < 0 then i else 0) (sz' := fun i => if i < 0 then 1 else 0) (fun i _ => by rw [if_neg (by omega)]) (fun i _ => by rw [if_neg (by omega)]) (fun i _ => by rw [if_neg (by omega)])
    clear hmk M
    go_loopw [26] (fun i wr => ∃ k : Nat, k ≤ n ∧ i = .int .i64 (k : Nat) ∧ Hid (DsM wr ⟨w.heap.size, w.heap.size + 1 + 1 + 1 + 1⟩ (w.heap.size + 1 + 1 + 1) (w.heap.size + 1 + 1) (w.heap.size) (w.heap.size + 1) n (fun i => if i < k then i else 0) (fun i => if i < k then i else 0) (fun i => if i < k then 1 else 0) n) ∧ Below w.heap.size w wr) (fun i _ => n - (intOf i).toNat)
    case atStart => exact ⟨0, Nat.zero_le _, rfl, Lib.hid M0, bel⟩
    case round =>
      clear M0 bel
      obtain ⟨k, hk, rfl, HM, bel⟩ := hrel
      by_cases hlt : k < n
      · have hki : (0 : Int) ≤ k ∧ (k : Int) < n := by omega
        have c1 : wr.cell? ⟨w.heap.size + 1 + 1 + 1, 1, none⟩ = some (.slice (some ⟨w.heap.size + 1 + 1, 0, none⟩) n n) := HM.out.st.cell (i := 1) (by omega)
        have c2 : wr.cell? ⟨w.heap.size + 1 + 1 + 1, 2, none⟩ = some (.slice (some ⟨w.heap.size, 0, none⟩) n n) := HM.out.st.cell (i := 2) (by omega)
        have c3 : wr.cell? ⟨w.heap.size + 1 + 1 + 1, 3, none⟩ = some (.slice (some ⟨w.heap.size + 1, 0, none⟩) n n) := HM.out.st.cell (i := 3) (by omega)
        have M1 := HM.out.setUp k k
        have M2 := M1.setLs k k
        have M3 := M2.setSz k 1
        have e1 := HM.out.rup.cell hlt
        have e2 := HM.out.rup.frozen k
        have e3 := M1.rls.cell hlt
        have e4 := M1.rls.frozen k
        have e5 := M2.rsz.cell hlt
        have e6 := M2.rsz.frozen k
        have HM3 := Lib.hid (M3.drew.congr (up' := fun i => if i < k + 1 then i else 0) (ls' := fun i => if i < k + 1 then i else 0) (sz' := fun i => if i < k + 1 then 1 else 0) (fun i _ => stp_a k i) (fun i _ => stp_a k i) (fun i _ => stp_b k i))
        have HB3 := Lib.hid ((((bel.setCell (p := ⟨w.heap.size + 1 + 1, k, none⟩) HM.out.lo.2.1.1 (.int .i64 (k : Nat))).setCell (p := ⟨w.heap.size, k, none⟩) HM.out.lo.2.2.1.1 (.int .i64 (k : Nat))).setCell (p := ⟨w.heap.size + 1, k, none⟩) HM.out.lo.2.2.2.1 (.int .i64 ((1 : Nat) : Int))).drew)
        have HS : wr.drew.cell? ⟨w.heap.size + 1 + 1 + 1, 1, none⟩ = some (.slice (some ⟨w.heap.size + 1 + 1, 0, none⟩) n n) ∧ wr.drew.cell? ⟨w.heap.size + 1 + 1 + 1, 2, none⟩ = some (.slice (some ⟨w.heap.size, 0, none⟩) n n) ∧ wr.drew.cell? ⟨w.heap.size + 1 + 1 + 1, 3, none⟩ = some (.slice (some ⟨w.heap.size + 1, 0, none⟩) n n) := ⟨c1, c2, c3⟩
        have HS1 := And.intro (M1.drew.st.cell (i := 1) (by omega)) (And.intro (M1.drew.st.cell (i := 2) (by omega)) (M1.drew.st.cell (i := 3) (by omega)))
        have HS2 := And.intro (M2.drew.st.cell (i := 1) (by omega)) (And.intro (M2.drew.st.cell (i := 2) (by omega)) (M2.drew.st.cell (i := 3) (by omega)))
        have HS3 := And.intro (M3.drew.st.cell (i := 1) (by omega)) (And.intro (M3.drew.st.cell (i := 2) (by omega)) (M3.drew.st.cell (i := 3) (by omega)))
        clear M1 M2 M3 HM
        simp only [natC] at e1 e3 e5
        go_wp2_with fail
        refine region_plain (fun w' => w'.cell? ⟨w.heap.size + 1 + 1 + 1, 1, none⟩ = some (.slice (some ⟨w.heap.size + 1 + 1, 0, none⟩) n n) ∧ w'.cell? ⟨w.heap.size + 1 + 1 + 1, 2, none⟩ = some (.slice (some ⟨w.heap.size, 0, none⟩) n n) ∧ w'.cell? ⟨w.heap.size + 1 + 1 + 1, 3, none⟩ = some (.slice (some ⟨w.heap.size + 1, 0, none⟩) n n)) (by kernel_rfl) ?_
        refine take_at (i := 0) (d := 29) (v := ?_) rfl rfl (by kernel_rfl) (by kernel_rfl) (by kernel_rfl) (fun _ _ _ _ => NormalOnly.any) rfl ?hy61 HS ?rest61
        case hy61 => intro w' hSw; (try dsimp only at hSw); go_simp; try (with_reducible rfl)
        try simp only [List.setIfInBounds_toArray, List.set_cons_zero, List.set_cons_succ]
        refine take_at (i := 1) (d := 30) (v := ?_) rfl rfl (by kernel_rfl) (by kernel_rfl) (by kernel_rfl) (fun _ _ _ _ => NormalOnly.any) rfl ?hy62 HS ?rest62
        case hy62 => intro w' hSw; (try dsimp only at hSw); go_simp; try (with_reducible rfl)
        try simp only [List.setIfInBounds_toArray, List.set_cons_zero, List.set_cons_succ]
        refine take_at (i := 2) (d := 31) (v := ?_) rfl rfl (by kernel_rfl) (by kernel_rfl) (by kernel_rfl) (fun _ _ _ _ => NormalOnly.any) rfl ?hy63 HS ?rest63
        case hy63 => intro w' hSw; (try dsimp only at hSw); go_simp; try (with_reducible rfl)
        try simp only [List.setIfInBounds_toArray, List.set_cons_zero, List.set_cons_succ]
        refine take_at (i := 3) (d := 32) (v := ?_) rfl rfl (by kernel_rfl) (by kernel_rfl) (by kernel_rfl) (fun _ _ _ _ => NormalOnly.any) rfl ?hy64 HS ?rest64
        case hy64 => intro w' hSw; (try dsimp only at hSw); go_simp; try (with_reducible rfl)
        try simp only [List.setIfInBounds_toArray, List.set_cons_zero, List.set_cons_succ]
        refine take_at (i := 4) (d := 33) (v := ?_) rfl rfl (by kernel_rfl) (by kernel_rfl) (by kernel_rfl) (fun _ _ _ _ => NormalOnly.any) rfl ?hy65 HS ?rest65
        case hy65 => intro w' hSw; (try dsimp only at hSw); go_simp; try (with_reducible rfl)
        try simp only [List.setIfInBounds_toArray, List.set_cons_zero, List.set_cons_succ]
        refine take_at (i := 5) (d := 34) (v := ?_) rfl rfl (by kernel_rfl) (by kernel_rfl) (by kernel_rfl) (fun _ _ _ _ => NormalOnly.any) rfl ?hy66 HS ?rest66
        case hy66 => intro w' hSw; (try dsimp only at hSw); go_simp; try (with_reducible rfl)
        try simp only [List.setIfInBounds_toArray, List.set_cons_zero, List.set_cons_succ]
        refine take_at (i := 6) (d := 35) (v := ?_) rfl rfl (by kernel_rfl) (by kernel_rfl) (by kernel_rfl) (fun _ _ _ _ => NormalOnly.any) rfl ?hy67 HS ?rest67
        case hy67 => intro w' hSw; (try dsimp only at hSw); go_simp; try (with_reducible rfl)
        try simp only [List.setIfInBounds_toArray, List.set_cons_zero, List.set_cons_succ]
        refine take_at (i := 7) (d := 36) (v := ?_) rfl rfl (by kernel_rfl) (by kernel_rfl) (by kernel_rfl) (fun _ _ _ _ => NormalOnly.any) rfl ?hy68 HS ?rest68
        case hy68 => intro w' hSw; (try dsimp only at hSw); go_simp; try (with_reducible rfl)
        try simp only [List.setIfInBounds_toArray, List.set_cons_zero, List.set_cons_succ]
        refine take_at (i := 8) (d := 37) (v := ?_) rfl rfl (by kernel_rfl) (by kernel_rfl) (by kernel_rfl) (fun _ _ _ _ => NormalOnly.any) rfl ?hy69 HS ?rest69
        case hy69 => intro w' hSw; (try dsimp only at hSw); go_simp; try (with_reducible rfl)
        try simp only [List.setIfInBounds_toArray, List.set_cons_zero, List.set_cons_succ]
        refine take_at (i := 9) (d := 38) (v := ?_) rfl rfl (by kernel_rfl) (by kernel_rfl) (by kernel_rfl) (fun _ _ _ _ => NormalOnly.any) rfl ?hy70 HS ?rest70
        case hy70 => intro w' hSw; (try dsimp only at hSw); go_simp; try (with_reducible rfl)
        try simp only [List.setIfInBounds_toArray, List.set_cons_zero, List.set_cons_succ]
        refine take_at (i := 10) (d := 39) (v := ?_) rfl rfl (by kernel_rfl) (by kernel_rfl) (by kernel_rfl) (fun _ _ _ _ => NormalOnly.any) rfl ?hy71 HS ?rest71
        case hy71 => intro w' hSw; (try dsimp only at hSw); go_simp; try (with_reducible rfl)
        try simp only [List.setIfInBounds_toArray, List.set_cons_zero, List.set_cons_succ]
        refine take_at (i := 11) (d := 40) (v := ?_) rfl rfl (by kernel_rfl) (by kernel_rfl) (by kernel_rfl) (fun _ _ _ _ => NormalOnly.any) rfl ?hy72 HS ?rest72
        case hy72 => intro w' hSw; (try dsimp only at hSw); go_simp; try (with_reducible rfl)
        try simp only [List.setIfInBounds_toArray, List.set_cons_zero, List.set_cons_succ]
        refine take_at (i := 12) (d := 41) (v := ?_) rfl rfl (by kernel_rfl) (by kernel_rfl) (by kernel_rfl) (fun _ _ _ _ => NormalOnly.any) rfl ?hy73 HS ?rest73
        case hy73 => intro w' hSw; (try dsimp only at hSw); go_simp; try (with_reducible rfl)
        try simp only [List.setIfInBounds_toArray, List.set_cons_zero, List.set_cons_succ]
        refine take_at (i := 13) (d := 42) (v := ?_) rfl rfl (by kernel_rfl) (by kernel_rfl) (by kernel_rfl) (fun _ _ _ _ => NormalOnly.any) rfl ?hy74 HS ?rest74
        case hy74 => intro w' hSw; (try dsimp only at hSw); go_simp; try (with_reducible rfl)
        try simp only [List.setIfInBounds_toArray, List.set_cons_zero, List.set_cons_succ]
        refine take_at (i := 14) (d := 43) (v := ?_) rfl rfl (by kernel_rfl) (by kernel_rfl) (by kernel_rfl) (fun _ _ _ _ => NormalOnly.any) rfl ?hy75 HS ?rest75
        case hy75 => intro w' hSw; (try dsimp only at hSw); go_simp; try (with_reducible rfl)
        try simp only [List.setIfInBounds_toArray, List.set_cons_zero, List.set_cons_succ]
        refine take_at (i := 15) (d := 44) (v := ?_) rfl rfl (by kernel_rfl) (by kernel_rfl) (by kernel_rfl) (fun _ _ _ _ => NormalOnly.any) rfl ?hy76 HS ?rest76
        case hy76 => intro w' hSw; (try dsimp only at hSw); go_simp; try (with_reducible rfl)
        try simp only [List.setIfInBounds_toArray, List.set_cons_zero, List.set_cons_succ]
        refine take_at (i := 16) (d := 45) (v := ?_) rfl rfl (by kernel_rfl) (by kernel_rfl) (by kernel_rfl) (fun _ _ _ _ => NormalOnly.any) rfl ?hy77 HS ?rest77
        case hy77 => intro w' hSw; (try dsimp only at hSw); go_simp; try (with_reducible rfl)
        try simp only [List.setIfInBounds_toArray, List.set_cons_zero, List.set_cons_succ]
        refine take_at (i := 17) (d := 46) (v := ?_) rfl rfl (by kernel_rfl) (by kernel_rfl) (by kernel_rfl) (fun _ _ _ _ => NormalOnly.any) rfl ?hy78 HS ?rest78
        case hy78 => intro w' hSw; (try dsimp only at hSw); go_simp; try (with_reducible rfl)
        try simp only [List.setIfInBounds_toArray, List.set_cons_zero, List.set_cons_succ]
        refine wpAnyH_ready (rs := [18]) (by kernel_rfl) (by simp) ?_
        refine AllReadyH.cons rfl (fun K hK => ?_) AllReadyH.nil
        go_simp
        refine hK.out _ _ HS1 (fun HS => ?_)
        clear hK
        refine take_at (i := 19) (d := 47) (v := ?_) rfl rfl (by kernel_rfl) (by kernel_rfl) (by kernel_rfl) (fun _ _ _ _ => NormalOnly.any) rfl ?hy79 HS ?rest79
        case hy79 => intro w' hSw; (try dsimp only at hSw); go_simp; try (with_reducible rfl)
        try simp only [List.setIfInBounds_toArray, List.set_cons_zero, List.set_cons_succ]
        refine wpAnyH_ready (rs := [20]) (by kernel_rfl) (by simp) ?_
        refine AllReadyH.cons rfl (fun K hK => ?_) AllReadyH.nil
        go_simp
        refine hK.out _ _ HS2 (fun HS => ?_)
        clear hK
        refine take_at (i := 21) (d := 48) (v := ?_) rfl rfl (by kernel_rfl) (by kernel_rfl) (by kernel_rfl) (fun _ _ _ _ => NormalOnly.any) rfl ?hy80 HS ?rest80
        case hy80 => intro w' hSw; (try dsimp only at hSw); go_simp; try (with_reducible rfl)
        try simp only [List.setIfInBounds_toArray, List.set_cons_zero, List.set_cons_succ]
        refine wpAnyH_ready (rs := [22]) (by kernel_rfl) (by simp) ?_
        refine AllReadyH.cons rfl (fun K hK => ?_) AllReadyH.nil
        go_simp
        refine hK.out _ _ HS3 (fun _ => ?_)
        clear hK
        refine wpAnyH_done (by kernel_rfl) ⟨rfl, ?_⟩ _
        go_wp2_with fail
        go_roundw
        case rel => exact ⟨k + 1, by omega, by go_num, HM3, HB3.out⟩
        case measure => simp only [intOf]; omega
      · have hke : k = n := by omega
        have HD : DS wr ⟨w.heap.size, wr.heap.size⟩ (w.heap.size + 1 + 1 + 1) n id := DS.widen (z := ⟨w.heap.size, w.heap.size + 1 + 1 + 1 + 1⟩) ⟨w.heap.size + 1 + 1, w.heap.size, w.heap.size + 1, id, id, fun _ => 1, fun _ => 0, 0, by
          rw [cntN_id]
          exact HM.out.congr (fun i hi => if_pos (by omega)) (fun i hi => if_pos (by omega)) (fun i hi => if_pos (by omega)), uf_id n, LabOk.id, fun i hi _ => ⟨rfl, (clsN_id hi).symm⟩⟩ (Nat.le_refl _) HM.out.size.1
        have HD := Lib.hid HD
        clear HM
        go_wp2_with fail
        go_ret2
        exact ⟨_, rfl, HD.out, bel⟩
  · obtain ⟨M, bel⟩ := dsu_made w n (w.heap.size + 1) (w.heap.size + 1 + 1) (w.heap.size) (by omega) (by omega) (by omega) (by omega) (by omega) (by omega)
    go_wp2_with fail
    generalize ((((w.alloc (.cells (madeCells #[.int .i64 0] n) 3)).alloc (.cells (madeCells #[.int .i64 0] n) 3)).alloc (.cells (madeCells #[.int .i64 0] n) 3)).alloc (.cells #[.pointer (some ⟨w.heap.size + 1 + 1 + 1, 0, none⟩), .slice (some ⟨w.heap.size + 1, 0, none⟩) n n, .slice (some ⟨w.heap.size + 1 + 1, 0, none⟩) n n, .slice (some ⟨w.heap.size, 0, none⟩) n n, .int .i64 (n : Nat)] 130)).drew = W at *
    have M0 := M.congr (up' := fun i => if i < 0 then i else 0) (ls' := fun i => if i < 0 then i else 0) (sz' := fun i => if i < 0 then 1 else 0) (fun i _ => by rw [if_neg (by omega)]) (fun i _ => by rw [if_neg (by omega)]) (fun i _ => by rw [if_neg (by omega)])
    clear hmk M
    go_loopw [26] (fun i wr => ∃ k : Nat, k ≤ n ∧ i = .int .i64 (k : Nat) ∧ Hid (DsM wr ⟨w.heap.size, w.heap.size + 1 + 1 + 1 + 1⟩ (w.heap.size + 1 + 1 + 1) (w.heap.size + 1) (w.heap.size + 1 + 1) (w.heap.size) n (fun i => if i < k then i else 0) (fun i => if i < k then i else 0) (fun i => if i < k then 1 else 0) n) ∧ Below w.heap.size w wr) (fun i _ => n - (intOf i).toNat)
    case atStart => exact ⟨0, Nat.zero_le _, rfl, Lib.hid M0, bel⟩
    case round =>
      clear M0 bel
      obtain ⟨k, hk, rfl, HM, bel⟩ := hrel
      by_cases hlt : k < n
      · have hki : (0 : Int) ≤ k ∧ (k : Int) < n := by omega
        have c1 : wr.cell? ⟨w.heap.size + 1 + 1 + 1, 1, none⟩ = some (.slice (some ⟨w.heap.size + 1, 0, none⟩) n n) := HM.out.st.cell (i := 1) (by omega)
        have c2 : wr.cell? ⟨w.heap.size + 1 + 1 + 1, 2, none⟩ = some (.slice (some ⟨w.heap.size + 1 + 1, 0, none⟩) n n) := HM.out.st.cell (i := 2) (by omega)
        have c3 : wr.cell? ⟨w.heap.size + 1 + 1 + 1, 3, none⟩ = some (.slice (some ⟨w.heap.size, 0, none⟩) n n) := HM.out.st.cell (i := 3) (by omega)
        have M1 := HM.out.setUp k k
        have M2 := M1.setLs k k
        have M3 := M2.setSz k 1
        have e1 := HM.out.rup.cell hlt
        have e2 := HM.out.rup.frozen k
        have e3 := M1.rls.cell hlt
        have e4 := M1.rls.frozen k
        have e5 := M2.rsz.cell hlt
        have e6 := M2.rsz.frozen k
        have HM3 := Lib.hid (M3.drew.congr (up' := fun i => if i < k + 1 then i else 0) (ls' := fun i => if i < k + 1 then i else 0) (sz' := fun i => if i < k + 1 then 1 else 0) (fun i _ => stp_a k i) (fun i _ => stp_a k i) (fun i _ => stp_b k i))
        have HB3 := Lib.hid ((((bel.setCell (p := ⟨w.heap.size + 1, k, none⟩) HM.out.lo.2.1.1 (.int .i64 (k : Nat))).setCell (p := ⟨w.heap.size + 1 + 1, k, none⟩) HM.out.lo.2.2.1.1 (.int .i64 (k : Nat))).setCell (p := ⟨w.heap.size, k, none⟩) HM.out.lo.2.2.2.1 (.int .i64 ((1 : Nat) : Int))).drew)
        have HS : wr.drew.cell? ⟨w.heap.size + 1 + 1 + 1, 1, none⟩ = some (.slice (some ⟨w.heap.size + 1, 0, none⟩) n n) ∧ wr.drew.cell? ⟨w.heap.size + 1 + 1 + 1, 2, none⟩ = some (.slice (some ⟨w.heap.size + 1 + 1, 0, none⟩) n n) ∧ wr.drew.cell? ⟨w.heap.size + 1 + 1 + 1, 3, none⟩ = some (.slice (some ⟨w.heap.size, 0, none⟩) n n) := ⟨c1, c2, c3⟩
        have HS1 := And.intro (M1.drew.st.cell (i := 1) (by omega)) (And.intro (M1.drew.st.cell (i := 2) (by omega)) (M1.drew.st.cell (i := 3) (by omega)))
        have HS2 := And.intro (M2.drew.st.cell (i := 1) (by omega)) (And.intro (M2.drew.st.cell (i := 2) (by omega)) (M2.drew.st.cell (i := 3) (by omega)))
        have HS3 := And.intro (M3.drew.st.cell (i := 1) (by omega)) (And.intro (M3.drew.st.cell (i := 2) (by omega)) (M3.drew.st.cell (i := 3) (by omega)))
        clear M1 M2 M3 HM
        simp only [natC] at e1 e3 e5
        go_wp2_with fail
        refine region_plain (fun w' => w'.cell? ⟨w.heap.size + 1 + 1 + 1, 1, none⟩ = some (.slice (some ⟨w.heap.size + 1, 0, none⟩) n n) ∧ w'.cell? ⟨w.heap.size + 1 + 1 + 1, 2, none⟩ = some (.slice (some ⟨w.heap.size + 1 + 1, 0, none⟩) n n) ∧ w'.cell? ⟨w.heap.size + 1 + 1 + 1, 3, none⟩ = some (.slice (some ⟨w.heap.size, 0, none⟩) n n)) (by kernel_rfl) ?_
        refine take_at (i := 0) (d := 29) (v := ?_) rfl rfl (by kernel_rfl) (by kernel_rfl) (by kernel_rfl) (fun _ _ _ _ => NormalOnly.any) rfl ?hy81 HS ?rest81
        case hy81 => intro w' hSw; (try dsimp only at hSw); go_simp; try (with_reducible rfl)
        try simp only [List.setIfInBounds_toArray, List.set_cons_zero, List.set_cons_succ]
        refine take_at (i := 1) (d := 30) (v := ?_) rfl rfl (by kernel_rfl) (by kernel_rfl) (by kernel_rfl) (fun _ _ _ _ => NormalOnly.any) rfl ?hy82 HS ?rest82
        case hy82 => intro w' hSw; (try dsimp only at hSw); go_simp; try (with_reducible rfl)
        try simp only [List.setIfInBounds_toArray, List.set_cons_zero, List.set_cons_succ]
        refine take_at (i := 2) (d := 31) (v := ?_) rfl rfl (by kernel_rfl) (by kernel_rfl) (by kernel_rfl) (fun _ _ _ _ => NormalOnly.any) rfl ?hy83 HS ?rest83
        case hy83 => intro w' hSw; (try dsimp only at hSw); go_simp; try (with_reducible rfl)
        try simp only [List.setIfInBounds_toArray, List.set_cons_zero, List.set_cons_succ]
        refine take_at (i := 3) (d := 32) (v := ?_) rfl rfl (by kernel_rfl) (by kernel_rfl) (by kernel_rfl) (fun _ _ _ _ => NormalOnly.any) rfl ?hy84 HS ?rest84
        case hy84 => intro w' hSw; (try dsimp only at hSw); go_simp; try (with_reducible rfl)
        try simp only [List.setIfInBounds_toArray, List.set_cons_zero, List.set_cons_succ]
        refine take_at (i := 4) (d := 33) (v := ?_) rfl rfl (by kernel_rfl) (by kernel_rfl) (by kernel_rfl) (fun _ _ _ _ => NormalOnly.any) rfl ?hy85 HS ?rest85
        case hy85 => intro w' hSw; (try dsimp only at hSw); go_simp; try (with_reducible rfl)
        try simp only [List.setIfInBounds_toArray, List.set_cons_zero, List.set_cons_succ]
        refine take_at (i := 5) (d := 34) (v := ?_) rfl rfl (by kernel_rfl) (by kernel_rfl) (by kernel_rfl) (fun _ _ _ _ => NormalOnly.any) rfl ?hy86 HS ?rest86
        case hy86 => intro w' hSw; (try dsimp only at hSw); go_simp; try (with_reducible rfl)
        try simp only [List.setIfInBounds_toArray, List.set_cons_zero, List.set_cons_succ]
        refine take_at (i := 6) (d := 35) (v := ?_) rfl rfl (by kernel_rfl) (by kernel_rfl) (by kernel_rfl) (fun _ _ _ _ => NormalOnly.any) rfl ?hy87 HS ?rest87
        case hy87 => intro w' hSw; (try dsimp only at hSw); go_simp; try (with_reducible rfl)
        try simp only [List.setIfInBounds_toArray, List.set_cons_zero, List.set_cons_succ]
        refine take_at (i := 7) (d := 36) (v := ?_) rfl rfl (by kernel_rfl) (by kernel_rfl) (by kernel_rfl) (fun _ _ _ _ => NormalOnly.any) rfl ?hy88 HS ?rest88
        case hy88 => intro w' hSw; (try dsimp only at hSw); go_simp; try (with_reducible rfl)
        try simp only [List.setIfInBounds_toArray, List.set_cons_zero, List.set_cons_succ]
        refine take_at (i := 8) (d := 37) (v := ?_) rfl rfl (by kernel_rfl) (by kernel_rfl) (by kernel_rfl) (fun _ _ _ _ => NormalOnly.any) rfl ?hy89 HS ?rest89
        case hy89 => intro w' hSw; (try dsimp only at hSw); go_simp; try (with_reducible rfl)
        try simp only [List.setIfInBounds_toArray, List.set_cons_zero, List.set_cons_succ]
        refine take_at (i := 9) (d := 38) (v := ?_) rfl rfl (by kernel_rfl) (by kernel_rfl) (by kernel_rfl) (fun _ _ _ _ => NormalOnly.any) rfl ?hy90 HS ?rest90
        case hy90 => intro w' hSw; (try dsimp only at hSw); go_simp; try (with_reducible rfl)
        try simp only [List.setIfInBounds_toArray, List.set_cons_zero, List.set_cons_succ]
        refine take_at (i := 10) (d := 39) (v := ?_) rfl rfl (by kernel_rfl) (by kernel_rfl) (by kernel_rfl) (fun _ _ _ _ => NormalOnly.any) rfl ?hy91 HS ?rest91
        case hy91 => intro w' hSw; (try dsimp only at hSw); go_simp; try (with_reducible rfl)
        try simp only [List.setIfInBounds_toArray, List.set_cons_zero, List.set_cons_succ]
        refine take_at (i := 11) (d := 40) (v := ?_) rfl rfl (by kernel_rfl) (by kernel_rfl) (by kernel_rfl) (fun _ _ _ _ => NormalOnly.any) rfl ?hy92 HS ?rest92
        case hy92 => intro w' hSw; (try dsimp only at hSw); go_simp; try (with_reducible rfl)
        try simp only [List.setIfInBounds_toArray, List.set_cons_zero, List.set_cons_succ]
        refine take_at (i := 12) (d := 41) (v := ?_) rfl rfl (by kernel_rfl) (by kernel_rfl) (by kernel_rfl) (fun _ _ _ _ => NormalOnly.any) rfl ?hy93 HS ?rest93
        case hy93 => intro w' hSw; (try dsimp only at hSw); go_simp; try (with_reducible rfl)
        try simp only [List.setIfInBounds_toArray, List.set_cons_zero, List.set_cons_succ]
        refine take_at (i := 13) (d := 42) (v := ?_) rfl rfl (by kernel_rfl) (by kernel_rfl) (by kernel_rfl) (fun _ _ _ _ => NormalOnly.any) rfl ?hy94 HS ?rest94
        case hy94 => intro w' hSw; (try dsimp only at hSw); go_simp; try (with_reducible rfl)
        try simp only [List.setIfInBounds_toArray, List.set_cons_zero, List.set_cons_succ]
        refine take_at (i := 14) (d := 43) (v := ?_) rfl rfl (by kernel_rfl) (by kernel_rfl) (by kernel_rfl) (fun _ _ _ _ => NormalOnly.any) rfl ?hy95 HS ?rest95
        case hy95 => intro w' hSw; (try dsimp only at hSw); go_simp; try (with_reducible rfl)
        try simp only [List.setIfInBounds_toArray, List.set_cons_zero, List.set_cons_succ]
        refine take_at (i := 15) (d := 44) (v := ?_) rfl rfl (by kernel_rfl) (by kernel_rfl) (by kernel_rfl) (fun _ _ _ _ => NormalOnly.any) rfl ?hy96 HS ?rest96
        case hy96 => intro w' hSw; (try dsimp only at hSw); go_simp; try (with_reducible rfl)
        try simp only [List.setIfInBounds_toArray, List.set_cons_zero, List.set_cons_succ]
        refine take_at (i := 16) (d := 45) (v := ?_) rfl rfl (by kernel_rfl) (by kernel_rfl) (by kernel_rfl) (fun _ _ _ _ => NormalOnly.any) rfl ?hy97 HS ?rest97
        case hy97 => intro w' hSw; (try dsimp only at hSw); go_simp; try (with_reducible rfl)
        try simp only [List.setIfInBounds_toArray, List.set_cons_zero, List.set_cons_succ]
        refine take_at (i := 17) (d := 46) (v := ?_) rfl rfl (by kernel_rfl) (by kernel_rfl) (by kernel_rfl) (fun _ _ _ _ => NormalOnly.any) rfl ?hy98 HS ?rest98
        case hy98 => intro w' hSw; (try dsimp only at hSw); go_simp; try (with_reducible rfl)
        try simp only [List.setIfInBounds_toArray, List.set_cons_zero, List.set_cons_succ]
        refine wpAnyH_ready (rs := [18]) (by kernel_rfl) (by simp) ?_
        refine AllReadyH.cons rfl (fun K hK => ?_) AllReadyH.nil
        go_simp
        refine hK.out _ _ HS1 (fun HS => ?_)
        clear hK
        refine take_at (i := 19) (d := 47) (v := ?_) rfl rfl (by kernel_rfl) (by kernel_rfl) (by kernel_rfl) (fun _ _ _ _ => NormalOnly.any) rfl ?hy99 HS ?rest99
        case hy99 => intro w' hSw; (try dsimp only at hSw); go_simp; try (with_reducible rfl)
        try simp only [List.setIfInBounds_toArray, List.set_cons_zero, List.set_cons_succ]
        refine wpAnyH_ready (rs := [20]) (by kernel_rfl) (by simp) ?_
        refine AllReadyH.cons rfl (fun K hK => ?_) AllReadyH.nil
        go_simp
        refine hK.out _ _ HS2 (fun HS => ?_)
        clear hK
        refine take_at (i := 21) (d := 48) (v := ?_) rfl rfl (by kernel_rfl) (by kernel_rfl) (by kernel_rfl) (fun _ _ _ _ => NormalOnly.any) rfl ?hy100 HS ?rest100
        case hy100 => intro w' hSw; (try dsimp only at hSw); go_simp; try (with_reducible rfl)
        try simp only [List.setIfInBounds_toArray, List.set_cons_zero, List.set_cons_succ]
        refine wpAnyH_ready (rs := [22]) (by kernel_rfl) (by simp) ?_
        refine AllReadyH.cons rfl (fun K hK => ?_) AllReadyH.nil
        go_simp
        refine hK.out _ _ HS3 (fun _ => ?_)
        clear hK
        refine wpAnyH_done (by kernel_rfl) ⟨rfl, ?_⟩ _
        go_wp2_with fail
        go_roundw
        case rel => exact ⟨k + 1, by omega, by go_num, HM3, HB3.out⟩
        case measure => simp only [intOf]; omega
      · have hke : k = n := by omega
        have HD : DS wr ⟨w.heap.size, wr.heap.size⟩ (w.heap.size + 1 + 1 + 1) n id := DS.widen (z := ⟨w.heap.size, w.heap.size + 1 + 1 + 1 + 1⟩) ⟨w.heap.size + 1, w.heap.size + 1 + 1, w.heap.size, id, id, fun _ => 1, fun _ => 0, 0, by
          rw [cntN_id]
          exact HM.out.congr (fun i hi => if_pos (by omega)) (fun i hi => if_pos (by omega)) (fun i hi => if_pos (by omega)), uf_id n, LabOk.id, fun i hi _ => ⟨rfl, (clsN_id hi).symm⟩⟩ (Nat.le_refl _) HM.out.size.1
        have HD := Lib.hid HD
        clear HM
        go_wp2_with fail
        go_ret2
        exact ⟨_, rfl, HD.out, bel⟩
  · obtain ⟨M, bel⟩ := dsu_made w n (w.heap.size + 1 + 1) (w.heap.size + 1) (w.heap.size) (by omega) (by omega) (by omega) (by omega) (by omega) (by omega)
    go_wp2_with fail
    generalize ((((w.alloc (.cells (madeCells #[.int .i64 0] n) 3)).alloc (.cells (madeCells #[.int .i64 0] n) 3)).alloc (.cells (madeCells #[.int .i64 0] n) 3)).alloc (.cells #[.pointer (some ⟨w.heap.size + 1 + 1 + 1, 0, none⟩), .slice (some ⟨w.heap.size + 1 + 1, 0, none⟩) n n, .slice (some ⟨w.heap.size + 1, 0, none⟩) n n, .slice (some ⟨w.heap.size, 0, none⟩) n n, .int .i64 (n : Nat)] 130)).drew = W at *
    have M0 := M.congr (up' := fun i => if i < 0 then i else 0) (ls' := fun i => if i < 0 then i else 0) (sz' := fun i => if i < 0 then 1 else 0) (fun i _ => by rw [if_neg (by omega)]) (fun i _ => by rw [if_neg (by omega)]) (fun i _ => by rw [if_neg (by omega)])
    clear hmk M
    go_loopw [26] (fun i wr => ∃ k : Nat, k ≤ n ∧ i = .int .i64 (k : Nat) ∧ Hid (DsM wr ⟨w.heap.size, w.heap.size + 1 + 1 + 1 + 1⟩ (w.heap.size + 1 + 1 + 1) (w.heap.size + 1 + 1) (w.heap.size + 1) (w.heap.size) n (fun i => if i < k then i else 0) (fun i => if i < k then i else 0) (fun i => if i < k then 1 else 0) n) ∧ Below w.heap.size w wr) (fun i _ => n - (intOf i).toNat)
    case atStart => exact ⟨0, Nat.zero_le _, rfl, Lib.hid M0, bel⟩
    case round =>
      clear M0 bel
      obtain ⟨k, hk, rfl, HM, bel⟩ := hrel
      by_cases hlt : k < n
      · have hki : (0 : Int) ≤ k ∧ (k : Int) < n := by omega
        have c1 : wr.cell? ⟨w.heap.size + 1 + 1 + 1, 1, none⟩ = some (.slice (some ⟨w.heap.size + 1 + 1, 0, none⟩) n n) := HM.out.st.cell (i := 1) (by omega)
        have c2 : wr.cell? ⟨w.heap.size + 1 + 1 + 1, 2, none⟩ = some (.slice (some ⟨w.heap.size + 1, 0, none⟩) n n) := HM.out.st.cell (i := 2) (by omega)
        have c3 : wr.cell? ⟨w.heap.size + 1 + 1 + 1, 3, none⟩ = some (.slice (some ⟨w.heap.size, 0, none⟩) n n) := HM.out.st.cell (i := 3) (by omega)
        have M1 := HM.out.setUp k k
        have M2 := M1.setLs k k
        have M3 := M2.setSz k 1
        have e1 := HM.out.rup.cell hlt
        have e2 := HM.out.rup.frozen k
        have e3 := M1.rls.cell hlt
        have e4 := M1.rls.frozen k
        have e5 := M2.rsz.cell hlt
        have e6 := M2.rsz.frozen k
        have HM3 := Lib.hid (M3.drew.congr (up' := fun i => if i < k + 1 then i else 0) (ls' := fun i => if i < k + 1 then i else 0) (sz' := fun i => if i < k + 1 then 1 else 0) (fun i _ => stp_a k i) (fun i _ => stp_a k i) (fun i _ => stp_b k i))
        have HB3 := Lib.hid ((((bel.setCell (p := ⟨w.heap.size + 1 + 1, k, none⟩) HM.out.lo.2.1.1 (.int .i64 (k : Nat))).setCell (p := ⟨w.heap.size + 1, k, none⟩) HM.out.lo.2.2.1.1 (.int .i64 (k : Nat))).setCell (p := ⟨w.heap.size, k, none⟩) HM.out.lo.2.2.2.1 (.int .i64 ((1 : Nat) : Int))).drew)
        have HS : wr.drew.cell? ⟨w.heap.size + 1 + 1 + 1, 1, none⟩ = some (.slice (some ⟨w.heap.size + 1 + 1, 0, none⟩) n n) ∧ wr.drew.cell? ⟨w.heap.size + 1 + 1 + 1, 2, none⟩ = some (.slice (some ⟨w.heap.size + 1, 0, none⟩) n n) ∧ wr.drew.cell? ⟨w.heap.size + 1 + 1 + 1, 3, none⟩ = some (.slice (some ⟨w.heap.size, 0, none⟩) n n) := ⟨c1, c2, c3⟩
        have HS1 := And.intro (M1.drew.st.cell (i := 1) (by omega)) (And.intro (M1.drew.st.cell (i := 2) (by omega)) (M1.drew.st.cell (i := 3) (by omega)))
        have HS2 := And.intro (M2.drew.st.cell (i := 1) (by omega)) (And.intro (M2.drew.st.cell (i := 2) (by omega)) (M2.drew.st.cell (i := 3) (by omega)))
        have HS3 := And.intro (M3.drew.st.cell (i := 1) (by omega)) (And.intro (M3.drew.st.cell (i := 2) (by omega)) (M3.drew.st.cell (i := 3) (by omega)))
        clear M1 M2 M3 HM
        simp only [natC] at e1 e3 e5
        go_wp2_with fail
        refine region_plain (fun w' => w'.cell? ⟨w.heap.size + 1 + 1 + 1, 1, none⟩ = some (.slice (some ⟨w.heap.size + 1 + 1, 0, none⟩) n n) ∧ w'.cell? ⟨w.heap.size + 1 + 1 + 1, 2, none⟩ = some (.slice (some ⟨w.heap.size + 1, 0, none⟩) n n) ∧ w'.cell? ⟨w.heap.size + 1 + 1 + 1, 3, none⟩ = some (.slice (some ⟨w.heap.size, 0, none⟩) n n)) (by kernel_rfl) ?_
        refine take_at (i := 0) (d := 29) (v := ?_) rfl rfl (by kernel_rfl) (by kernel_rfl) (by kernel_rfl) (fun _ _ _ _ => NormalOnly.any) rfl ?hy101 HS ?rest101
        case hy101 => intro w' hSw; (try dsimp only at hSw); go_simp; try (with_reducible rfl)
        try simp only [List.setIfInBounds_toArray, List.set_cons_zero, List.set_cons_succ]
        refine take_at (i := 1) (d := 30) (v := ?_) rfl rfl (by kernel_rfl) (by kernel_rfl) (by kernel_rfl) (fun _ _ _ _ => NormalOnly.any) rfl ?hy102 HS ?rest102
        case hy102 => intro w' hSw; (try dsimp only at hSw); go_simp; try (with_reducible rfl)
        try simp only [List.setIfInBounds_toArray, List.set_cons_zero, List.set_cons_succ]
        refine take_at (i := 2) (d := 31) (v := ?_) rfl rfl (by kernel_rfl) (by kernel_rfl) (by kernel_rfl) (fun _ _ _ _ => NormalOnly.any) rfl ?hy103 HS ?rest103
        case hy103 => intro w' hSw; (try dsimp only at hSw); go_simp; try (with_reducible rfl)
        try simp only [List.setIfInBounds_toArray, List.set_cons_zero, List.set_cons_succ]
        refine take_at (i := 3) (d := 32) (v := ?_) rfl rfl (by kernel_rfl) (by kernel_rfl) (by kernel_rfl) (fun _ _ _ _ => NormalOnly.any) rfl ?hy104 HS ?rest104
        case hy104 => intro w' hSw; (try dsimp only at hSw); go_simp; try (with_reducible rfl)
        try simp only [List.setIfInBounds_toArray, List.set_cons_zero, List.set_cons_succ]
        refine take_at (i := 4) (d := 33) (v := ?_) rfl rfl (by kernel_rfl) (by kernel_rfl) (by kernel_rfl) (fun _ _ _ _ => NormalOnly.any) rfl ?hy105 HS ?rest105
        case hy105 => intro w' hSw; (try dsimp only at hSw); go_simp; try (with_reducible rfl)
        try simp only [List.setIfInBounds_toArray, List.set_cons_zero, List.set_cons_succ]
        refine take_at (i := 5) (d := 34) (v := ?_) rfl rfl (by kernel_rfl) (by kernel_rfl) (by kernel_rfl) (fun _ _ _ _ => NormalOnly.any) rfl ?hy106 HS ?rest106
        case hy106 => intro w' hSw; (try dsimp only at hSw); go_simp; try (with_reducible rfl)
        try simp only [List.setIfInBounds_toArray, List.set_cons_zero, List.set_cons_succ]
        refine take_at (i := 6) (d := 35) (v := ?_) rfl rfl (by kernel_rfl) (by kernel_rfl) (by kernel_rfl) (fun _ _ _ _ => NormalOnly.any) rfl ?hy107 HS ?rest107
        case hy107 => intro w' hSw; (try dsimp only at hSw); go_simp; try (with_reducible rfl)
        try simp only [List.setIfInBounds_toArray, List.set_cons_zero, List.set_cons_succ]
        refine take_at (i := 7) (d := 36) (v := ?_) rfl rfl (by kernel_rfl) (by kernel_rfl) (by kernel_rfl) (fun _ _ _ _ => NormalOnly.any) rfl ?hy108 HS ?rest108
        case hy108 => intro w' hSw; (try dsimp only at hSw); go_simp; try (with_reducible rfl)
        try simp only [List.setIfInBounds_toArray, List.set_cons_zero, List.set_cons_succ]
        refine take_at (i := 8) (d := 37) (v := ?_) rfl rfl (by kernel_rfl) (by kernel_rfl) (by kernel_rfl) (fun _ _ _ _ => NormalOnly.any) rfl ?hy109 HS ?rest109
        case hy109 => intro w' hSw; (try dsimp only at hSw); go_simp; try (with_reducible rfl)
        try simp only [List.setIfInBounds_toArray, List.set_cons_zero, List.set_cons_succ]
        refine take_at (i := 9) (d := 38) (v := ?_) rfl rfl (by kernel_rfl) (by kernel_rfl) (by kernel_rfl) (fun _ _ _ _ => NormalOnly.any) rfl ?hy110 HS ?rest110
        case hy110 => intro w' hSw; (try dsimp only at hSw); go_simp; try (with_reducible rfl)
        try simp only [List.setIfInBounds_toArray, List.set_cons_zero, List.set_cons_succ]
        refine take_at (i := 10) (d := 39) (v := ?_) rfl rfl (by kernel_rfl) (by kernel_rfl) (by kernel_rfl) (fun _ _ _ _ => NormalOnly.any) rfl ?hy111 HS ?rest111
        case hy111 => intro w' hSw; (try dsimp only at hSw); go_simp; try (with_reducible rfl)
        try simp only [List.setIfInBounds_toArray, List.set_cons_zero, List.set_cons_succ]
        refine take_at (i := 11) (d := 40) (v := ?_) rfl rfl (by kernel_rfl) (by kernel_rfl) (by kernel_rfl) (fun _ _ _ _ => NormalOnly.any) rfl ?hy112 HS ?rest112
        case hy112 => intro w' hSw; (try dsimp only at hSw); go_simp; try (with_reducible rfl)
        try simp only [List.setIfInBounds_toArray, List.set_cons_zero, List.set_cons_succ]
        refine take_at (i := 12) (d := 41) (v := ?_) rfl rfl (by kernel_rfl) (by kernel_rfl) (by kernel_rfl) (fun _ _ _ _ => NormalOnly.any) rfl ?hy113 HS ?rest113
        case hy113 => intro w' hSw; (try dsimp only at hSw); go_simp; try (with_reducible rfl)
        try simp only [List.setIfInBounds_toArray, List.set_cons_zero, List.set_cons_succ]
        refine take_at (i := 13) (d := 42) (v := ?_) rfl rfl (by kernel_rfl) (by kernel_rfl) (by kernel_rfl) (fun _ _ _ _ => NormalOnly.any) rfl ?hy114 HS ?rest114
        case hy114 => intro w' hSw; (try dsimp only at hSw); go_simp; try (with_reducible rfl)
        try simp only [List.setIfInBounds_toArray, List.set_cons_zero, List.set_cons_succ]
        refine take_at (i := 14) (d := 43) (v := ?_) rfl rfl (by kernel_rfl) (by kernel_rfl) (by kernel_rfl) (fun _ _ _ _ => NormalOnly.any) rfl ?hy115 HS ?rest115
        case hy115 => intro w' hSw; (try dsimp only at hSw); go_simp; try (with_reducible rfl)
        try simp only [List.setIfInBounds_toArray, List.set_cons_zero, List.set_cons_succ]
        refine take_at (i := 15) (d := 44) (v := ?_) rfl rfl (by kernel_rfl) (by kernel_rfl) (by kernel_rfl) (fun _ _ _ _ => NormalOnly.any) rfl ?hy116 HS ?rest116
        case hy116 => intro w' hSw; (try dsimp only at hSw); go_simp; try (with_reducible rfl)
        try simp only [List.setIfInBounds_toArray, List.set_cons_zero, List.set_cons_succ]
        refine take_at (i := 16) (d := 45) (v := ?_) rfl rfl (by kernel_rfl) (by kernel_rfl) (by kernel_rfl) (fun _ _ _ _ => NormalOnly.any) rfl ?hy117 HS ?rest117
        case hy117 => intro w' hSw; (try dsimp only at hSw); go_simp; try (with_reducible rfl)
        try simp only [List.setIfInBounds_toArray, List.set_cons_zero, List.set_cons_succ]
        refine take_at (i := 17) (d := 46) (v := ?_) rfl rfl (by kernel_rfl) (by kernel_rfl) (by kernel_rfl) (fun _ _ _ _ => NormalOnly.any) rfl ?hy118 HS ?rest118
        case hy118 => intro w' hSw; (try dsimp only at hSw); go_simp; try (with_reducible rfl)
        try simp only [List.setIfInBounds_toArray, List.set_cons_zero, List.set_cons_succ]
        refine wpAnyH_ready (rs := [18]) (by kernel_rfl) (by simp) ?_
        refine AllReadyH.cons rfl (fun K hK => ?_) AllReadyH.nil
        go_simp
        refine hK.out _ _ HS1 (fun HS => ?_)
        clear hK
        refine take_at (i := 19) (d := 47) (v := ?_) rfl rfl (by kernel_rfl) (by kernel_rfl) (by kernel_rfl) (fun _ _ _ _ => NormalOnly.any) rfl ?hy119 HS ?rest119
        case hy119 => intro w' hSw; (try dsimp only at hSw); go_simp; try (with_reducible rfl)
        try simp only [List.setIfInBounds_toArray, List.set_cons_zero, List.set_cons_succ]
        refine wpAnyH_ready (rs := [20]) (by kernel_rfl) (by simp) ?_
        refine AllReadyH.cons rfl (fun K hK => ?_) AllReadyH.nil
        go_simp
        refine hK.out _ _ HS2 (fun HS => ?_)
        clear hK
        refine take_at (i := 21) (d := 48) (v := ?_) rfl rfl (by kernel_rfl) (by kernel_rfl) (by kernel_rfl) (fun _ _ _ _ => NormalOnly.any) rfl ?hy120 HS ?rest120
        case hy120 => intro w' hSw; (try dsimp only at hSw); go_simp; try (with_reducible rfl)
        try simp only [List.setIfInBounds_toArray, List.set_cons_zero, List.set_cons_succ]
        refine wpAnyH_ready (rs := [22]) (by kernel_rfl) (by simp) ?_
        refine AllReadyH.cons rfl (fun K hK => ?_) AllReadyH.nil
        go_simp
        refine hK.out _ _ HS3 (fun _ => ?_)
        clear hK
        refine wpAnyH_done (by kernel_rfl) ⟨rfl, ?_⟩ _
        go_wp2_with fail
        go_roundw
        case rel => exact ⟨k + 1, by omega, by go_num, HM3, HB3.out⟩
        case measure => simp only [intOf]; omega
      · have hke : k = n := by omega
        have HD : DS wr ⟨w.heap.size, wr.heap.size⟩ (w.heap.size + 1 + 1 + 1) n id := DS.widen (z := ⟨w.heap.size, w.heap.size + 1 + 1 + 1 + 1⟩) ⟨w.heap.size + 1 + 1, w.heap.size + 1, w.heap.size, id, id, fun _ => 1, fun _ => 0, 0, by
          rw [cntN_id]
          exact HM.out.congr (fun i hi => if_pos (by omega)) (fun i hi => if_pos (by omega)) (fun i hi => if_pos (by omega)), uf_id n, LabOk.id, fun i hi _ => ⟨rfl, (clsN_id hi).symm⟩⟩ (Nat.le_refl _) HM.out.size.1
        have HD := Lib.hid HD
        clear HM
        go_wp2_with fail
        go_ret2
        exact ⟨_, rfl, HD.out, bel⟩
end Go.Proofs.YtpbgophogneecaaGreat
