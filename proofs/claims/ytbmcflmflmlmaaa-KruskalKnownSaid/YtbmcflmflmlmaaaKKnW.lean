/- The walk of KruskalKnown. No conditions. -/
import Derived.Test.YtbmcflmflmlmaaaKMny
namespace Go.Proofs.Ytbmcflmflmlmaaa
open Go.RowKit

theorem es_nil (w : World) (B : Nat) : ES w B (.slice none ([] : List Ed).length 0) [] (fun _ => ⟨0, 0, none⟩) := ⟨fun i h => absurd h (by simp), fun i h => absurd h (by simp), fun i h => absurd h (by simp)⟩
theorem Try.infoBl : (Try.prog.info? 4).map (fun i => (i.zero, i.size, i.bytes)) = some (some (.bool false), 1, 1) := by kernel_rfl
theorem etBl : ET 46 4 1 1 := ET.of Try.underlying46 Try.infoBl rfl (by decide)
theorem Try.infoSl1 : (Try.prog.info? 24).map (fun i => (i.zero, i.size, i.bytes)) = some (some (.slice none 0 0), 1, 24) := by kernel_rfl
theorem etII1 : ET 59 24 1 24 := ET.of Try.underlying59 Try.infoSl1 rfl (by decide)
/-- the picks of the example in memory, and what is expected of them -/
structure PkA (w : World) (B g : Nat) : Prop where
  ro : Rd 59 1 w B (.slice (some ⟨g + 1 + 1 + 1 + 1, 0, none⟩) 4 4) 4 (fun i _ => .slice (some ⟨g + i, 0, none⟩) (pk i).length (pk i).length) (fun i => (⟨g + 1 + 1 + 1 + 1, 0, none⟩ : Addr).add (i * 1))
  pk : ∀ i, i < 4 → Sl 24 .i64 w B (.slice (some ⟨g + i, 0, none⟩) (pk i).length (pk i).length) (pk i) (fun j => (⟨g + i, 0, none⟩ : Addr).add (j * 1))
  sp : Rd 46 1 w B (.slice (some ⟨g + 1 + 1 + 1 + 1 + 1, 0, none⟩) 4 4) 4 (fun i _ => .bool (decide (i < 2))) (fun i => (⟨g + 1 + 1 + 1 + 1 + 1, 0, none⟩ : Addr).add (i * 1))
  le : Rd 46 1 w B (.slice (some ⟨g + 1 + 1 + 1 + 1 + 1 + 1, 0, none⟩) 4 4) 4 (fun i _ => .bool (decide (i < 1))) (fun i => (⟨g + 1 + 1 + 1 + 1 + 1 + 1, 0, none⟩ : Addr).add (i * 1))
theorem PkA.below {w w' : World} {B g : Nat} (h : PkA w B g) (hb : Below B w w') : PkA w' B g :=
  ⟨h.ro.below hb, fun i hi => (h.pk i hi).below hb, h.sp.below hb, h.le.below hb⟩
/-- a row of one-cell values as a slice that is read -/
theorem row_rd1 {t e : TypeId} {bytes : Nat} (E : ET t e 1 bytes) {w : World} {b n : Nat} {f : Nat → Value} (h : Row w b n f) (c B : Nat) (hB : b < B) : Rd t 1 w B (.slice (some ⟨b, 0, none⟩) n c) n (fun i _ => f i) (fun i => (⟨b, 0, none⟩ : Addr).add (i * 1)) :=
  Rd.addr E (fun _ => hB) fun i hi j hj => by
    have h0 : j = 0 := by omega
    subst h0
    rw [add_mk, Nat.zero_add]
    have := h.cell (i := i * 1 + 0) (by omega)
    rw [this]
    simp
/-- the world behind the literals -/
def pkW (w : World) : World := ((((((w.alloc (.cells #[.int .i64 4, .int .i64 3, .int .i64 2] 3)).alloc (.cells #[.int .i64 4, .int .i64 1, .int .i64 2] 3)).alloc (.cells #[.int .i64 4, .int .i64 3] 3)).alloc (.cells #[.int .i64 3, .int .i64 0, .int .i64 4] 3)).alloc (.cells #[.slice (some ⟨w.heap.size, 0, none⟩) 3 3, .slice (some ⟨w.heap.size + 1, 0, none⟩) 3 3, .slice (some ⟨w.heap.size + 1 + 1, 0, none⟩) 2 2, .slice (some ⟨w.heap.size + 1 + 1 + 1, 0, none⟩) 3 3] 24)).alloc (.cells #[.bool true, .bool true, .bool false, .bool false] 4)).alloc (.cells #[.bool true, .bool false, .bool false, .bool false] 4)
theorem pkW_size (w : World) : (pkW w).heap.size = w.heap.size + 7 := by simp [pkW]
theorem pkW_below (w : World) : Below w.heap.size w (pkW w) := by
  have b1 := (Below.refl w.heap.size w).alloc (Nat.le_refl _) (.cells #[.int .i64 4, .int .i64 3, .int .i64 2] 3)
  have b2 := b1.alloc b1.size (.cells #[.int .i64 4, .int .i64 1, .int .i64 2] 3)
  have b3 := b2.alloc b2.size (.cells #[.int .i64 4, .int .i64 3] 3)
  have b4 := b3.alloc b3.size (.cells #[.int .i64 3, .int .i64 0, .int .i64 4] 3)
  have b5 := b4.alloc b4.size (.cells #[.slice (some ⟨w.heap.size, 0, none⟩) 3 3, .slice (some ⟨w.heap.size + 1, 0, none⟩) 3 3, .slice (some ⟨w.heap.size + 1 + 1, 0, none⟩) 2 2, .slice (some ⟨w.heap.size + 1 + 1 + 1, 0, none⟩) 3 3] 24)
  have b6 := b5.alloc b5.size (.cells #[.bool true, .bool true, .bool false, .bool false] 4)
  exact b6.alloc b6.size _
theorem pkW_laid (w : World) : PkA (pkW w) (w.heap.size + 7) w.heap.size := by
  unfold pkW
  obtain ⟨g, hg⟩ : ∃ g, w.heap.size = g := ⟨_, rfl⟩
  rw [hg]
  have r0 := Row.lit (n := 3) (f := fun i => nums .i64 (pk 0) i 0) w #[.int .i64 4, .int .i64 3, .int .i64 2] 3 (by simp) (fun i hi => by
    match i, hi with
    | 0, _ => rfl
    | 1, _ => rfl
    | 2, _ => rfl
    | n + 3, h => omega)
  rw [hg] at r0
  obtain ⟨w1, h1⟩ : ∃ w', w.alloc (.cells #[.int .i64 4, .int .i64 3, .int .i64 2] 3) = w' := ⟨_, rfl⟩
  have s1 : w1.heap.size = g + 1 := by rw [← h1, ← hg]; simp
  rw [h1] at r0 ⊢
  have r1 := Row.lit (n := 3) (f := fun i => nums .i64 (pk 1) i 0) w1 #[.int .i64 4, .int .i64 1, .int .i64 2] 3 (by simp) (fun i hi => by
    match i, hi with
    | 0, _ => rfl
    | 1, _ => rfl
    | 2, _ => rfl
    | n + 3, h => omega)
  rw [s1] at r1
  obtain ⟨w2, h2⟩ : ∃ w', w1.alloc (.cells #[.int .i64 4, .int .i64 1, .int .i64 2] 3) = w' := ⟨_, rfl⟩
  have s2 : w2.heap.size = g + 1 + 1 := by rw [← h2, ← s1]; simp
  have r0 := r0.alloc (.cells #[.int .i64 4, .int .i64 1, .int .i64 2] 3); rw [h2] at r0
  rw [h2] at r1 ⊢
  have r2 := Row.lit (n := 2) (f := fun i => nums .i64 (pk 2) i 0) w2 #[.int .i64 4, .int .i64 3] 3 (by simp) (fun i hi => by
    match i, hi with
    | 0, _ => rfl
    | 1, _ => rfl
    | n + 2, h => omega)
  rw [s2] at r2
  obtain ⟨w3, h3⟩ : ∃ w', w2.alloc (.cells #[.int .i64 4, .int .i64 3] 3) = w' := ⟨_, rfl⟩
  have s3 : w3.heap.size = g + 1 + 1 + 1 := by rw [← h3, ← s2]; simp
  have r0 := r0.alloc (.cells #[.int .i64 4, .int .i64 3] 3); rw [h3] at r0
  have r1 := r1.alloc (.cells #[.int .i64 4, .int .i64 3] 3); rw [h3] at r1
  rw [h3] at r2 ⊢
  have r3 := Row.lit (n := 3) (f := fun i => nums .i64 (pk 3) i 0) w3 #[.int .i64 3, .int .i64 0, .int .i64 4] 3 (by simp) (fun i hi => by
    match i, hi with
    | 0, _ => rfl
    | 1, _ => rfl
    | 2, _ => rfl
    | n + 3, h => omega)
  rw [s3] at r3
  obtain ⟨w4, h4⟩ : ∃ w', w3.alloc (.cells #[.int .i64 3, .int .i64 0, .int .i64 4] 3) = w' := ⟨_, rfl⟩
  have s4 : w4.heap.size = g + 1 + 1 + 1 + 1 := by rw [← h4, ← s3]; simp
  have r0 := r0.alloc (.cells #[.int .i64 3, .int .i64 0, .int .i64 4] 3); rw [h4] at r0
  have r1 := r1.alloc (.cells #[.int .i64 3, .int .i64 0, .int .i64 4] 3); rw [h4] at r1
  have r2 := r2.alloc (.cells #[.int .i64 3, .int .i64 0, .int .i64 4] 3); rw [h4] at r2
  rw [h4] at r3 ⊢
  have r4 := Row.lit (n := 4) (f := fun i => Value.slice (some ⟨g + i, 0, none⟩) (pk i).length (pk i).length) w4 #[.slice (some ⟨g, 0, none⟩) 3 3, .slice (some ⟨g + 1, 0, none⟩) 3 3, .slice (some ⟨g + 1 + 1, 0, none⟩) 2 2, .slice (some ⟨g + 1 + 1 + 1, 0, none⟩) 3 3] 24 (by simp) (fun i hi => by
    match i, hi with
    | 0, _ => rfl
    | 1, _ => rfl
    | 2, _ => rfl
    | 3, _ => rfl
    | n + 4, h => omega)
  rw [s4] at r4
  obtain ⟨w5, h5⟩ : ∃ w', w4.alloc (.cells #[.slice (some ⟨g, 0, none⟩) 3 3, .slice (some ⟨g + 1, 0, none⟩) 3 3, .slice (some ⟨g + 1 + 1, 0, none⟩) 2 2, .slice (some ⟨g + 1 + 1 + 1, 0, none⟩) 3 3] 24) = w' := ⟨_, rfl⟩
  have s5 : w5.heap.size = g + 1 + 1 + 1 + 1 + 1 := by rw [← h5, ← s4]; simp
  have r0 := r0.alloc (.cells #[.slice (some ⟨g, 0, none⟩) 3 3, .slice (some ⟨g + 1, 0, none⟩) 3 3, .slice (some ⟨g + 1 + 1, 0, none⟩) 2 2, .slice (some ⟨g + 1 + 1 + 1, 0, none⟩) 3 3] 24); rw [h5] at r0
  have r1 := r1.alloc (.cells #[.slice (some ⟨g, 0, none⟩) 3 3, .slice (some ⟨g + 1, 0, none⟩) 3 3, .slice (some ⟨g + 1 + 1, 0, none⟩) 2 2, .slice (some ⟨g + 1 + 1 + 1, 0, none⟩) 3 3] 24); rw [h5] at r1
  have r2 := r2.alloc (.cells #[.slice (some ⟨g, 0, none⟩) 3 3, .slice (some ⟨g + 1, 0, none⟩) 3 3, .slice (some ⟨g + 1 + 1, 0, none⟩) 2 2, .slice (some ⟨g + 1 + 1 + 1, 0, none⟩) 3 3] 24); rw [h5] at r2
  have r3 := r3.alloc (.cells #[.slice (some ⟨g, 0, none⟩) 3 3, .slice (some ⟨g + 1, 0, none⟩) 3 3, .slice (some ⟨g + 1 + 1, 0, none⟩) 2 2, .slice (some ⟨g + 1 + 1 + 1, 0, none⟩) 3 3] 24); rw [h5] at r3
  rw [h5] at r4 ⊢
  have r5 := Row.lit (n := 4) (f := fun i => Value.bool (decide (i < 2))) w5 #[.bool true, .bool true, .bool false, .bool false] 4 (by simp) (fun i hi => by
    match i, hi with
    | 0, _ => rfl
    | 1, _ => rfl
    | 2, _ => rfl
    | 3, _ => rfl
    | n + 4, h => omega)
  rw [s5] at r5
  obtain ⟨w6, h6⟩ : ∃ w', w5.alloc (.cells #[.bool true, .bool true, .bool false, .bool false] 4) = w' := ⟨_, rfl⟩
  have s6 : w6.heap.size = g + 1 + 1 + 1 + 1 + 1 + 1 := by rw [← h6, ← s5]; simp
  have r0 := r0.alloc (.cells #[.bool true, .bool true, .bool false, .bool false] 4); rw [h6] at r0
  have r1 := r1.alloc (.cells #[.bool true, .bool true, .bool false, .bool false] 4); rw [h6] at r1
  have r2 := r2.alloc (.cells #[.bool true, .bool true, .bool false, .bool false] 4); rw [h6] at r2
  have r3 := r3.alloc (.cells #[.bool true, .bool true, .bool false, .bool false] 4); rw [h6] at r3
  have r4 := r4.alloc (.cells #[.bool true, .bool true, .bool false, .bool false] 4); rw [h6] at r4
  rw [h6] at r5 ⊢
  have r6 := Row.lit (n := 4) (f := fun i => Value.bool (decide (i < 1))) w6 #[.bool true, .bool false, .bool false, .bool false] 4 (by simp) (fun i hi => by
    match i, hi with
    | 0, _ => rfl
    | 1, _ => rfl
    | 2, _ => rfl
    | 3, _ => rfl
    | n + 4, h => omega)
  rw [s6] at r6
  obtain ⟨w7, h7⟩ : ∃ w', w6.alloc (.cells #[.bool true, .bool false, .bool false, .bool false] 4) = w' := ⟨_, rfl⟩
  have s7 : w7.heap.size = g + 1 + 1 + 1 + 1 + 1 + 1 + 1 := by rw [← h7, ← s6]; simp
  have r0 := r0.alloc (.cells #[.bool true, .bool false, .bool false, .bool false] 4); rw [h7] at r0
  have r1 := r1.alloc (.cells #[.bool true, .bool false, .bool false, .bool false] 4); rw [h7] at r1
  have r2 := r2.alloc (.cells #[.bool true, .bool false, .bool false, .bool false] 4); rw [h7] at r2
  have r3 := r3.alloc (.cells #[.bool true, .bool false, .bool false, .bool false] 4); rw [h7] at r3
  have r4 := r4.alloc (.cells #[.bool true, .bool false, .bool false, .bool false] 4); rw [h7] at r4
  have r5 := r5.alloc (.cells #[.bool true, .bool false, .bool false, .bool false] 4); rw [h7] at r5
  rw [h7] at r6 ⊢
  refine ⟨row_rd1 etII1 r4 4 _ (by omega), fun i hi => ?_, row_rd1 etBl r5 4 _ (by omega), row_rd1 etBl r6 4 _ (by omega)⟩
  match i, hi with
  | 0, _ => exact row_rd1 etI r0 3 _ (by omega)
  | 1, _ => exact row_rd1 etI r1 3 _ (by omega)
  | 2, _ => exact row_rd1 etI r2 2 _ (by omega)
  | 3, _ => exact row_rd1 etI r3 3 _ (by omega)
  | n + 4, h => omega
theorem make_many : ∃ c : Array Value, (∀ w : World, Row (w.alloc (.cells c 36)) w.heap.size (16384 * 3) (mC 16384 0)) ∧ ∀ w, (Instr.makeSlice 22 (.int .i64 16384) (.int .i64 16384)).run Try.prog w = .ok (.slice (some ⟨w.heap.size, 0, none⟩) 16384 16384) (w.alloc (.cells c 36)) :=
  ⟨_, fun w => made_edges w 16384, fun w => run_make_edges 16384 (Nat.le_refl _) w⟩
theorem hE_es (w : World) : ES (w.alloc (.cells #[.int .i64 0, .int .i64 1, .int .i64 9223372036854775807, .int .i64 1, .int .i64 2, .int .i64 9223372036854775807, .int .i64 0, .int .i64 2, .int .i64 9223372036854775807] 36)) (w.heap.size + 1) (.slice (some ⟨w.heap.size, 0, none⟩) hE.length 3) hE (fun i => (⟨w.heap.size, 0, none⟩ : Addr).add (i * 3)) :=
  lit_es w hE _ (by decide) (fun q hq => by
    have hl : hE.length = 3 := rfl
    match q, hq with
    | 0, _ => rfl
    | 1, _ => rfl
    | 2, _ => rfl
    | 3, _ => rfl
    | 4, _ => rfl
    | 5, _ => rfl
    | 6, _ => rfl
    | 7, _ => rfl
    | 8, _ => rfl
    | n + 9, h => omega) 3
theorem lE_es (w : World) : ES (w.alloc (.cells #[.int .i64 1, .int .i64 1, .int .i64 0] 36)) (w.heap.size + 1) (.slice (some ⟨w.heap.size, 0, none⟩) ([⟨1, 1, 0⟩] : List Ed).length 1) [⟨1, 1, 0⟩] (fun i => (⟨w.heap.size, 0, none⟩ : Addr).add (i * 3)) :=
  lit_es w _ _ (by decide) (fun q hq => by
    have hl : ([⟨1, 1, 0⟩] : List Ed).length = 1 := rfl
    match q, hq with
    | 0, _ => rfl
    | 1, _ => rfl
    | 2, _ => rfl
    | n + 3, h => omega) 1
set_option maxRecDepth 100000 in
set_option maxHeartbeats 1000000 in
theorem known_walk (w : World) : Calls Try.prog 10 #[] w fun e w' => e = .returned (.bool true) ∧ Below w.heap.size w w' := by
  go_enter Try.func10, Try.ntmps10
  go_wp2_with fail
  refine (example_any _).mono ?_
  rintro e w1 ⟨A1, rfl, hE1, b1⟩
  have HE1 := Lib.hid hE1; have B1 := Lib.hid b1
  clear hE1 b1
  go_wp2_with fail
  refine (order_any w1.heap.size wE _ 5 A1 w1 HE1.out (Nat.le_refl _) (by decide)).mono ?_
  rintro e w2 ⟨o, b, ho, rfl, hb, hR, b2⟩
  obtain rfl := wE_ord ho
  have HR := Lib.hid (row_rd hR 5)
  have B2 := Lib.hid (B1.out.trans (b2.mono B1.out.size))
  clear ho hb hR b2 HE1 B1
  have hb3 : Below w2.heap.size w2 (w2.alloc (.cells #[.int .i64 4, .int .i64 3, .int .i64 1, .int .i64 2, .int .i64 0] 3)) := (Below.refl _ _).alloc (Nat.le_refl _) _
  have HN := Lib.hid (numbers_n (w2.heap.size + 1) 5 5 (some ⟨b, 0, none⟩) (some ⟨w2.heap.size, 0, none⟩) 5 5 _ _ _ [4, 3, 1, 2, 0] (w2.alloc (.cells #[.int .i64 4, .int .i64 3, .int .i64 1, .int .i64 2, .int .i64 0] 3)) rfl rfl ((HR.out.below hb3).mono (by omega)) (lit_rd w2 [4, 3, 1, 2, 0] _ rfl 5) (by decide))
  have HB3 := Lib.hid (B2.out.trans (hb3.mono B2.out.size))
  clear hb3 B2 HR
  go_wp2_with fail
  refine HN.out.mono ?_
  clear HN
  rintro e w3 ⟨rfl, q, rfl⟩
  have HB4 := Lib.hid (below_drewN HB3.out q)
  clear HB3
  generalize (World.drewN _ q : World) = w4 at HB4 ⊢
  go_wp2_with fail
  refine (order_any w4.heap.size [] none 0 _ w4 (es_nil _ _) (Nat.le_refl _) (by decide)).mono ?_
  rintro e w5 ⟨o5, b5, -, rfl, -, -, b5'⟩
  have B5 := Lib.hid (HB4.out.trans (b5'.mono HB4.out.size))
  clear b5' HB4
  go_wp2_with fail
  have HP := Lib.hid (pkW_laid w5)
  have hsz := pkW_size w5
  have HB6 := Lib.hid (B5.out.trans ((pkW_below w5).mono B5.out.size))
  clear B5
  generalize hw6 : pkW w5 = w6 at HP hsz HB6
  unfold pkW at hw6
  rw [hw6]
  generalize w5.heap.size = g at *
  clear hw6
  go_loopw [4] (fun i wr => ∃ k : Nat, k ≤ 4 ∧ i = .int .i64 (k : Nat) ∧ Hid (Below w6.heap.size w6 wr)) (fun i _ => 4 - (intOf i).toNat)
  case atStart => exact ⟨0, by omega, rfl, Lib.hid (Below.refl _ _)⟩
  case round =>
    obtain ⟨k, hk, rfl, HW⟩ := hrel
    by_cases hlt : k < 4
    · have HQ := Lib.hid (HP.out.below (HW.out.mono (by omega)))
      have i1 := HQ.out.ro.ix k hlt
      have c1 := HQ.out.ro.cell k hlt 0 (by omega)
      have i2 := HQ.out.sp.ix k hlt
      have c2 := HQ.out.sp.cell k hlt 0 (by omega)
      have i3 := HQ.out.le.ix k hlt
      have c3 := HQ.out.le.cell k hlt 0 (by omega)
      rw [add_zero] at c1 c2 c3
      have h1 := pk_sp k hlt
      have h2 := pk_min k hlt
      have HK := Lib.hid (HQ.out.pk k hlt)
      obtain ⟨x, hx⟩ : ∃ x, decide (k < 2) = x := ⟨_, rfl⟩
      obtain ⟨y, hy⟩ : ∃ y, decide (k < 1) = y := ⟨_, rfl⟩
      rw [hx] at c2 h1
      rw [hy] at c3 h2
      generalize hA1 : ((⟨g + 1 + 1 + 1 + 1, 0, none⟩ : Addr).add (k * 1)) = a1 at *
      generalize hA2 : ((⟨g + 1 + 1 + 1 + 1 + 1, 0, none⟩ : Addr).add (k * 1)) = a2 at *
      generalize hA3 : ((⟨g + 1 + 1 + 1 + 1 + 1 + 1, 0, none⟩ : Addr).add (k * 1)) = a3 at *
      have hpl := pk_len k hlt
      have HSP : Hid (spB wE (pk k) (frs wE [4, 3, 1, 2, 0]).length = x) := Lib.hid h1.1
      have HSE : Hid (spE wE.length (pk k) = 0) := Lib.hid h1.2
      have HMI : Hid (minB wE [4, 3, 1, 2, 0] (pk k) = y) := Lib.hid h2
      clear h1 h2 hx hy
      generalize pk k = P at *
      have hxx : (x != x) = false := by simp
      have hyy : (y != y) = false := by simp
      have hlk : a1.block < g + 7 := by rw [← hA1, add_block]; show g + 1 + 1 + 1 + 1 < g + 7; omega
      have hl2 : a2.block < g + 7 := by rw [← hA2, add_block]; show g + 1 + 1 + 1 + 1 + 1 < g + 7; omega
      have hl3 : a3.block < g + 7 := by rw [← hA3, add_block]; show g + 1 + 1 + 1 + 1 + 1 + 1 < g + 7; omega
      clear hA1 hA2 hA3
      go_wp2_with fail
      have HS : wr.drew.cell? a1 = some (.slice (some ⟨g + k, 0, none⟩) P.length P.length) := c1
      refine region_plain (fun w' => w'.cell? a1 = some (.slice (some ⟨g + k, 0, none⟩) P.length P.length)) (by kernel_rfl) ?_
      refine take_at (i := 1) (d := 60) (v := ?_) rfl rfl (by kernel_rfl) (by kernel_rfl) (by kernel_rfl) (fun _ _ _ _ => NormalOnly.any) rfl ?hy1 HS ?rest1
      case hy1 => intro w' hSw; (try dsimp only at hSw); go_simp; try (with_reducible rfl)
      try simp only [List.setIfInBounds_toArray, List.set_cons_zero, List.set_cons_succ]
      refine take_at (i := 2) (d := 61) (v := ?_) rfl rfl (by kernel_rfl) (by kernel_rfl) (by kernel_rfl) (fun _ _ _ _ => NormalOnly.any) rfl ?hy2 HS ?rest2
      case hy2 => intro w' hSw; (try dsimp only at hSw); go_simp; try (with_reducible rfl)
      try simp only [List.setIfInBounds_toArray, List.set_cons_zero, List.set_cons_succ]
      refine take_at (i := 3) (d := 62) (v := ?_) rfl rfl (by kernel_rfl) (by kernel_rfl) (by kernel_rfl) (fun _ _ _ _ => NormalOnly.any) rfl ?hy3 HS ?rest3
      case hy3 => intro w' hSw; (try dsimp only at hSw); go_simp; try (with_reducible rfl)
      try simp only [List.setIfInBounds_toArray, List.set_cons_zero, List.set_cons_succ]
      refine take_at (i := 4) (d := 63) (v := ?_) rfl rfl (by kernel_rfl) (by kernel_rfl) (by kernel_rfl) (fun _ _ _ _ => NormalOnly.any) rfl ?hy4 HS ?rest4
      case hy4 => intro w' hSw; (try dsimp only at hSw); go_simp; try (with_reducible rfl)
      try simp only [List.setIfInBounds_toArray, List.set_cons_zero, List.set_cons_succ]
      refine wpAnyH_ready (rs := [0]) (by kernel_rfl) (by simp) ?_
      refine AllReadyH.cons rfl (fun K hK => ?_) AllReadyH.nil
      go_simp
      refine (example_any _).mono ?_
      rintro e wx ⟨AX, rfl, hEX, bX⟩
      dsimp only
      have szr : g + 7 ≤ wr.drew.heap.size := Nat.le_trans (by omega) HW.out.size
      refine hK.out _ _ (by rw [bX.cell (by omega)]; exact HS) (fun HS => ?_)
      clear hK
      refine wpAnyH_ready (rs := [5]) (by kernel_rfl) (by simp) ?_
      refine AllReadyH.cons rfl (fun K hK => ?_) AllReadyH.nil
      go_simp
      have belx : Below (g + 7) wr wx := ((Below.refl _ wr).drew).trans (bX.mono szr)
      refine (spansX_any wx.heap.size _ _ 5 _ AX _ 6 wE P wx hEX ((HK.out.below belx).mono (Nat.le_trans szr bX.size)) (Nat.le_refl _) (by decide) (by omega)).mono ?_
      rintro e wy ⟨bY, ⟨h0, _⟩ | ⟨_, o, ho, rfl⟩⟩
      · exact absurd wE_err h0
      obtain rfl := wE_ord ho
      rw [HSP.out, HSE.out]
      dsimp only
      refine hK.out _ _ (by rw [bY.cell (Nat.lt_of_lt_of_le hlk (Nat.le_trans szr bX.size))]; exact HS) (fun HS => ?_)
      clear hK
      refine take_at (i := 6) (d := 58) (v := ?_) rfl rfl (by kernel_rfl) (by kernel_rfl) (by kernel_rfl) (fun _ _ _ _ => NormalOnly.any) rfl ?hy5 HS ?rest5
      case hy5 => intro w' hSw; (try dsimp only at hSw); go_simp; try (with_reducible rfl)
      try simp only [List.setIfInBounds_toArray, List.set_cons_zero, List.set_cons_succ]
      refine take_at (i := 7) (d := 65) (v := ?_) rfl rfl (by kernel_rfl) (by kernel_rfl) (by kernel_rfl) (fun _ _ _ _ => NormalOnly.any) rfl ?hy6 HS ?rest6
      case hy6 => intro w' hSw; (try dsimp only at hSw); go_simp; try (with_reducible rfl)
      try simp only [List.setIfInBounds_toArray, List.set_cons_zero, List.set_cons_succ]
      refine take_at (i := 8) (d := 66) (v := ?_) rfl rfl (by kernel_rfl) (by kernel_rfl) (by kernel_rfl) (fun _ _ _ _ => NormalOnly.any) rfl ?hy7 HS ?rest7
      case hy7 => intro w' hSw; (try dsimp only at hSw); go_simp; try (with_reducible rfl)
      try simp only [List.setIfInBounds_toArray, List.set_cons_zero, List.set_cons_succ]
      refine take_at (i := 9) (d := 5) (v := ?_) rfl rfl (by kernel_rfl) (by kernel_rfl) (by kernel_rfl) (fun _ _ _ _ => NormalOnly.any) rfl ?hy8 HS ?rest8
      case hy8 => intro w' hSw; (try dsimp only at hSw); go_simp; try (with_reducible rfl)
      try simp only [List.setIfInBounds_toArray, List.set_cons_zero, List.set_cons_succ]
      refine take_at (i := 10) (d := 6) (v := ?_) rfl rfl (by kernel_rfl) (by kernel_rfl) (by kernel_rfl) (fun _ _ _ _ => NormalOnly.any) rfl ?hy9 HS ?rest9
      case hy9 => intro w' hSw; (try dsimp only at hSw); go_simp; try (with_reducible rfl)
      try simp only [List.setIfInBounds_toArray, List.set_cons_zero, List.set_cons_succ]
      refine wpAnyH_done (by kernel_rfl) ⟨rfl, ?_⟩ _
      go_wp2_with fail
      have szx : g + 7 ≤ wx.heap.size := Nat.le_trans szr bX.size
      have bely : Below (g + 7) wr wy := belx.trans (bY.mono szx)
      have szy : g + 7 ≤ wy.heap.size := Nat.le_trans szx bY.size
      have BY := Lib.hid bely
      have BW := Lib.hid ((HW.out.drew.trans (bX.mono HW.out.drew.size)).trans (bY.mono (HW.out.drew.trans (bX.mono HW.out.drew.size)).size))
      clear HS ho bX bY belx bely hEX szr szx
      have HS : wy.drew.cell? a1 = some (.slice (some ⟨g + k, 0, none⟩) P.length P.length) := by
        have := BY.out.cell (p := a1) hlk
        exact this.trans c1
      refine region_plain (fun w' => w'.cell? a1 = some (.slice (some ⟨g + k, 0, none⟩) P.length P.length)) (by kernel_rfl) ?_
      refine take_at (i := 1) (d := 69) (v := ?_) rfl rfl (by kernel_rfl) (by kernel_rfl) (by kernel_rfl) (fun _ _ _ _ => NormalOnly.any) rfl ?hy10 HS ?rest10
      case hy10 => intro w' hSw; (try dsimp only at hSw); go_simp; try (with_reducible rfl)
      try simp only [List.setIfInBounds_toArray, List.set_cons_zero, List.set_cons_succ]
      refine take_at (i := 2) (d := 70) (v := ?_) rfl rfl (by kernel_rfl) (by kernel_rfl) (by kernel_rfl) (fun _ _ _ _ => NormalOnly.any) rfl ?hy11 HS ?rest11
      case hy11 => intro w' hSw; (try dsimp only at hSw); go_simp; try (with_reducible rfl)
      try simp only [List.setIfInBounds_toArray, List.set_cons_zero, List.set_cons_succ]
      refine take_at (i := 3) (d := 71) (v := ?_) rfl rfl (by kernel_rfl) (by kernel_rfl) (by kernel_rfl) (fun _ _ _ _ => NormalOnly.any) rfl ?hy12 HS ?rest12
      case hy12 => intro w' hSw; (try dsimp only at hSw); go_simp; try (with_reducible rfl)
      try simp only [List.setIfInBounds_toArray, List.set_cons_zero, List.set_cons_succ]
      refine take_at (i := 4) (d := 72) (v := ?_) rfl rfl (by kernel_rfl) (by kernel_rfl) (by kernel_rfl) (fun _ _ _ _ => NormalOnly.any) rfl ?hy13 HS ?rest13
      case hy13 => intro w' hSw; (try dsimp only at hSw); go_simp; try (with_reducible rfl)
      try simp only [List.setIfInBounds_toArray, List.set_cons_zero, List.set_cons_succ]
      refine wpAnyH_ready (rs := [0]) (by kernel_rfl) (by simp) ?_
      refine AllReadyH.cons rfl (fun K hK => ?_) AllReadyH.nil
      go_simp
      refine (example_any _).mono ?_
      rintro e wx ⟨AX, rfl, hEX, bX⟩
      dsimp only
      have szr : g + 7 ≤ wy.drew.heap.size := szy
      refine hK.out _ _ (by rw [bX.cell (by omega)]; exact HS) (fun HS => ?_)
      clear hK
      refine wpAnyH_ready (rs := [5]) (by kernel_rfl) (by simp) ?_
      refine AllReadyH.cons rfl (fun K hK => ?_) AllReadyH.nil
      go_simp
      have belx : Below (g + 7) wr wx := (BY.out.drew).trans (bX.mono szr)
      refine (minimal_any wx.heap.size _ _ 5 _ AX _ 6 wE P wx hEX ((HK.out.below belx).mono (Nat.le_trans szr bX.size)) (Nat.le_refl _) (by decide) (by omega)).mono ?_
      rintro e wz ⟨bZ, ⟨h0, _⟩ | ⟨_, o, ho, rfl⟩⟩
      · exact absurd wE_err h0
      obtain rfl := wE_ord ho
      rw [HMI.out, HSE.out]
      dsimp only
      refine hK.out _ _ (by rw [bZ.cell (Nat.lt_of_lt_of_le hlk (Nat.le_trans szr bX.size))]; exact HS) (fun HS => ?_)
      clear hK
      refine take_at (i := 6) (d := 67) (v := ?_) rfl rfl (by kernel_rfl) (by kernel_rfl) (by kernel_rfl) (fun _ _ _ _ => NormalOnly.any) rfl ?hy14 HS ?rest14
      case hy14 => intro w' hSw; (try dsimp only at hSw); go_simp; try (with_reducible rfl)
      try simp only [List.setIfInBounds_toArray, List.set_cons_zero, List.set_cons_succ]
      refine take_at (i := 7) (d := 74) (v := ?_) rfl rfl (by kernel_rfl) (by kernel_rfl) (by kernel_rfl) (fun _ _ _ _ => NormalOnly.any) rfl ?hy15 HS ?rest15
      case hy15 => intro w' hSw; (try dsimp only at hSw); go_simp; try (with_reducible rfl)
      try simp only [List.setIfInBounds_toArray, List.set_cons_zero, List.set_cons_succ]
      refine take_at (i := 8) (d := 75) (v := ?_) rfl rfl (by kernel_rfl) (by kernel_rfl) (by kernel_rfl) (fun _ _ _ _ => NormalOnly.any) rfl ?hy16 HS ?rest16
      case hy16 => intro w' hSw; (try dsimp only at hSw); go_simp; try (with_reducible rfl)
      try simp only [List.setIfInBounds_toArray, List.set_cons_zero, List.set_cons_succ]
      refine take_at (i := 9) (d := 7) (v := ?_) rfl rfl (by kernel_rfl) (by kernel_rfl) (by kernel_rfl) (fun _ _ _ _ => NormalOnly.any) rfl ?hy17 HS ?rest17
      case hy17 => intro w' hSw; (try dsimp only at hSw); go_simp; try (with_reducible rfl)
      try simp only [List.setIfInBounds_toArray, List.set_cons_zero, List.set_cons_succ]
      refine take_at (i := 10) (d := 8) (v := ?_) rfl rfl (by kernel_rfl) (by kernel_rfl) (by kernel_rfl) (fun _ _ _ _ => NormalOnly.any) rfl ?hy18 HS ?rest18
      case hy18 => intro w' hSw; (try dsimp only at hSw); go_simp; try (with_reducible rfl)
      try simp only [List.setIfInBounds_toArray, List.set_cons_zero, List.set_cons_succ]
      refine wpAnyH_done (by kernel_rfl) ⟨rfl, ?_⟩ _
      have szx : g + 7 ≤ wx.heap.size := Nat.le_trans szr bX.size
      have belz : Below (g + 7) wr wz := belx.trans (bZ.mono szx)
      have hW6 : g + 7 ≤ w6.heap.size := by omega
      have BZ : Hid (Below w6.heap.size w6 wz) := Lib.hid ((BW.out.drew.trans (bX.mono BW.out.drew.size)).trans (bZ.mono (BW.out.drew.trans (bX.mono BW.out.drew.size)).size))
      have d2 : wz.cell? a2 = some (.bool x) := by
        have := belz.cell (p := a2) hl2
        exact this.trans c2
      have d3 : wz.cell? a3 = some (.bool y) := by
        have := belz.cell (p := a3) hl3
        exact this.trans c3
      clear HS ho bX bZ belx belz hEX szr szx c1 c2 c3
      go_wp2_with fail
      exact ⟨⟨k + 1, by omega, by go_num, BZ⟩, by simp only [intOf]; omega⟩
    · skip
      have B7 := Lib.hid (HB6.out.trans (HW.out.mono HB6.out.size))
      clear HB6 HW HP hsz
      go_wp2_with fail
      refine (example_any _).mono ?_
      rintro e wA1 ⟨AA1, rfl, hE1, bA1⟩
      have BA1 := Lib.hid (B7.out.trans (bA1.mono B7.out.size))
      clear bA1 B7
      have bl1 : Below wA1.heap.size wA1 (wA1.alloc (.cells #[.int .i64 1, .int .i64 1, .int .i64 5] 3)) := (Below.refl _ _).alloc (Nat.le_refl _) _
      have HC1 := Lib.hid (spansX_any (wA1.heap.size + 1) _ _ 5 3 AA1 _ 6 wE [1, 1, 5] _ ((hE1.below bl1).mono (by omega)) (lit_rd wA1 [1, 1, 5] _ rfl 3) (by simp) (by decide) (by decide))
      have BB1 := Lib.hid (BA1.out.trans (bl1.mono BA1.out.size))
      clear hE1 bl1 BA1
      go_wp2_with fail
      refine HC1.out.mono ?_
      clear HC1
      rintro e wB1 ⟨b1, ⟨h0, _⟩ | ⟨_, o, ho, rfl⟩⟩
      · exact absurd wE_err h0
      rw [bad_sp.1]
      generalize spB wE _ _ = x1
      have BC1 := Lib.hid (BB1.out.trans (b1.mono BB1.out.size))
      clear b1 ho BB1
      go_wp2_with fail
      refine (example_any _).mono ?_
      rintro e wA2 ⟨AA2, rfl, hE2, bA2⟩
      have BA2 := Lib.hid (BC1.out.trans (bA2.mono BC1.out.size))
      clear bA2 BC1
      have bl2 : Below wA2.heap.size wA2 (wA2.alloc (.cells #[.int .i64 4, .int .i64 1, .int .i64 4] 3)) := (Below.refl _ _).alloc (Nat.le_refl _) _
      have HC2 := Lib.hid (minimal_any (wA2.heap.size + 1) _ _ 5 3 AA2 _ 6 wE [4, 1, 4] _ ((hE2.below bl2).mono (by omega)) (lit_rd wA2 [4, 1, 4] _ rfl 3) (by simp) (by decide) (by decide))
      have BB2 := Lib.hid (BA2.out.trans (bl2.mono BA2.out.size))
      clear hE2 bl2 BA2
      go_wp2_with fail
      refine HC2.out.mono ?_
      clear HC2
      rintro e wB2 ⟨b2, ⟨h0, _⟩ | ⟨_, o, ho, rfl⟩⟩
      · exact absurd wE_err h0
      rw [bad_sp.2]
      generalize minB wE _ _ = x2
      have BC2 := Lib.hid (BB2.out.trans (b2.mono BB2.out.size))
      clear b2 ho BB2
      go_wp2_with fail
      refine (example_any _).mono ?_
      rintro e wA3 ⟨AA3, rfl, hE3, bA3⟩
      have BA3 := Lib.hid (BC2.out.trans (bA3.mono BC2.out.size))
      clear bA3 BC2
      go_wp2_with fail
      refine (swap_any wA3.heap.size _ _ AA3 6 wE 0 2 2 wA3 hE3 (Nat.le_refl _) (by decide)).mono ?_
      rintro e wB3 ⟨b3, ⟨h0, _⟩ | ⟨_, ⟨h1, _⟩ | ⟨_, ⟨h1, _⟩ | ⟨_, o, x, ho, hx, rfl⟩⟩⟩⟩
      · exact absurd wE_err h0
      · exact absurd (by decide) h1
      · exact absurd h1 (by decide)
      obtain rfl := wE_swap2 ho hx
      clear ho hx
      have BC3 := Lib.hid (BA3.out.trans (b3.mono BA3.out.size))
      clear b3 hE3 BA3
      go_wp2_with fail
      refine (example_any _).mono ?_
      rintro e wA4 ⟨AA4, rfl, hE4, bA4⟩
      have BA4 := Lib.hid (BC3.out.trans (bA4.mono BC3.out.size))
      clear bA4 BC3
      go_wp2_with fail
      refine (swap_any wA4.heap.size _ _ AA4 6 wE 0 5 0 wA4 hE4 (Nat.le_refl _) (by decide)).mono ?_
      rintro e wB4 ⟨b4, ⟨h0, _⟩ | ⟨_, ⟨h1, _⟩ | ⟨_, ⟨h1, _⟩ | ⟨_, o, x, ho, hx, rfl⟩⟩⟩⟩
      · exact absurd wE_err h0
      · exact absurd (by decide) h1
      · exact absurd h1 (by decide)
      obtain rfl := wE_swap5 ho hx
      clear ho hx
      have BC4 := Lib.hid (BA4.out.trans (b4.mono BA4.out.size))
      clear b4 hE4 BA4
      go_wp2_with fail
      refine (example_any _).mono ?_
      rintro e wA5 ⟨AA5, rfl, hE5, bA5⟩
      have BA5 := Lib.hid (BC4.out.trans (bA5.mono BC4.out.size))
      clear bA5 BC4
      go_wp2_with fail
      refine (swap_any wA5.heap.size _ _ AA5 6 wE 6 6 0 wA5 hE5 (Nat.le_refl _) (by decide)).mono ?_
      rintro e wB5 ⟨b5, ⟨h0, _⟩ | ⟨_, ⟨_, rfl⟩ | ⟨h1, _⟩⟩⟩
      · exact absurd wE_err h0
      rotate_left
      · exact absurd h1 (by decide)
      have BC5 := Lib.hid (BA5.out.trans (b5.mono BA5.out.size))
      clear b5 hE5 BA5
      go_wp2_with fail
      refine (example_any _).mono ?_
      rintro e wA6 ⟨AA6, rfl, hE6, bA6⟩
      have BA6 := Lib.hid (BC5.out.trans (bA6.mono BC5.out.size))
      clear bA6 BC5
      go_wp2_with fail
      refine (swap_any wA6.heap.size _ _ AA6 6 wE 3 3 0 wA6 hE6 (Nat.le_refl _) (by decide)).mono ?_
      rintro e wB6 ⟨b6, ⟨h0, _⟩ | ⟨_, ⟨h1, _⟩ | ⟨_, ⟨_, rfl⟩ | ⟨h1, _⟩⟩⟩⟩
      · exact absurd wE_err h0
      · exact absurd (by decide) h1
      rotate_left
      · exact absurd rfl h1
      have BC6 := Lib.hid (BA6.out.trans (b6.mono BA6.out.size))
      clear b6 hE6 BA6
      have bl7 : Below wB6.heap.size wB6 (wB6.alloc (.cells #[.int .i64 0, .int .i64 1, .int .i64 9223372036854775807, .int .i64 1, .int .i64 2, .int .i64 9223372036854775807, .int .i64 0, .int .i64 2, .int .i64 9223372036854775807] 36)) := (Below.refl _ _).alloc (Nat.le_refl _) _
      have HH := Lib.hid (hE_es wB6)
      have BB7 := Lib.hid (BC6.out.trans (bl7.mono BC6.out.size))
      have HC7 := Lib.hid (weight_any (wB6.heap.size + 1) _ 3 _ 3 hE _ HH.out (by simp) (by decide) hE_in)
      clear bl7 BC6
      go_wp2_with fail
      refine HC7.out.mono ?_
      clear HC7
      rintro e wB7 ⟨b7, ⟨h0, _⟩ | ⟨_, o, ho, rfl⟩⟩
      · exact absurd hE_err h0
      obtain rfl := hE_ord ho
      rw [hE_frs, hE_sum]
      generalize sumW _ = x7
      have HH7 := Lib.hid ((HH.out.below (b7.mono (by simp))).mono (B' := wB7.heap.size) (Nat.le_trans (by simp) b7.size))
      have BC7 := Lib.hid (BB7.out.trans (b7.mono BB7.out.size))
      clear ho b7 BB7 HH
      have bl8 : Below wB7.heap.size wB7 (wB7.alloc (.cells #[.int .i64 2, .int .i64 1] 3)) := (Below.refl _ _).alloc (Nat.le_refl _) _
      have HC8 := Lib.hid (minimal_any (wB7.heap.size + 1) _ _ 3 2 _ _ 3 hE [2, 1] _ ((HH7.out.below bl8).mono (by omega)) (lit_rd wB7 [2, 1] _ rfl 2) (by simp) (by decide) (by decide))
      have BB8 := Lib.hid (BC7.out.trans (bl8.mono BC7.out.size))
      clear bl8 BC7 HH7
      go_wp2_with fail
      refine HC8.out.mono ?_
      clear HC8
      rintro e wB8 ⟨b8, ⟨h0, _⟩ | ⟨_, o, ho, rfl⟩⟩
      · exact absurd hE_err h0
      obtain rfl := hE_ord ho
      rw [hE_min.1, hE_min.2]
      have BC8 := Lib.hid (BB8.out.trans (b8.mono BB8.out.size))
      clear ho b8 BB8
      go_wp2_with fail
      refine (forest_any wB8.heap.size none 0 _ 0 [] wB8 (es_nil _ _) (Nat.le_refl _) (by decide)).mono ?_
      rintro e wB9 ⟨b9, ⟨h0, _⟩ | ⟨_, o, v, ho, rfl, hv⟩⟩
      · exact absurd nil_err h0
      obtain rfl : o = [] := by have := ho.len; exact List.length_eq_zero_iff.1 this
      obtain ⟨fa, fc, FA, rfl, hF⟩ := ownI_rd hv
      rw [show (frs [] []).length = 0 from rfl]
      have BC9 := Lib.hid (BC8.out.trans (b9.mono BC8.out.size))
      clear ho hv hF b9 BC8
      have bl10 : Below wB9.heap.size wB9 (wB9.alloc (.cells #[.int .i64 1, .int .i64 1, .int .i64 0] 36)) := (Below.refl _ _).alloc (Nat.le_refl _) _
      have HC10 := Lib.hid (forest_any (wB9.heap.size + 1) _ 1 _ 2 [⟨1, 1, 0⟩] _ (lE_es wB9) (by simp) (by decide))
      have BB10 := Lib.hid (BC9.out.trans (bl10.mono BC9.out.size))
      clear bl10 BC9
      obtain ⟨cM, hcM, hmk⟩ := make_many
      go_wp2_with fail
      refine HC10.out.mono ?_
      clear HC10
      rintro e wB10 ⟨b10, ⟨h0, rfl⟩ | ⟨h0, _⟩⟩
      rotate_left
      · rw [loop_err] at h0; exact absurd h0 (by decide)
      rw [loop_err]
      have BC10 := Lib.hid (BB10.out.trans (b10.mono BB10.out.size))
      clear h0 b10 BB10
      go_wp2_with fail
      have HM := Lib.hid (hcM wB10)
      have hgm := BC10.out.size
      have BB11 := Lib.hid (BC10.out.trans (((Below.refl wB10.heap.size wB10).alloc (Nat.le_refl _) (.cells cM 36)).mono BC10.out.size))
      obtain ⟨w11, hw11⟩ : ∃ w', wB10.alloc (.cells cM 36) = w' := ⟨_, rfl⟩
      rw [hw11] at HM BB11
      simp only [hw11]
      generalize wB10.heap.size = gm at *
      clear hw11 hmk hcM BC10
      obtain ⟨N, hN⟩ : ∃ N : Nat, N = 16384 := ⟨_, rfl⟩
      rw [← hN] at HM ⊢
      have HN0 : Hid (N ≤ 16384) := Lib.hid (by omega)
      have HN1 : Hid (1 ≤ N) := Lib.hid (by omega)
      have hNb : (N : Int) ≤ 16384 := by omega
      clear hN
      go_loopw [32] (fun i wr => ∃ k : Nat, k ≤ N ∧ i = .int .i64 (k : Nat) ∧ Hid (Row wr gm (N * 3) (mC N k)) ∧ Hid (Below w.heap.size w wr)) (fun i _ => N - (intOf i).toNat)
      case atStart => exact ⟨0, Nat.zero_le _, rfl, HM, BB11⟩
      case round =>
        obtain ⟨k, hk, rfl, HR, HB⟩ := hrel
        by_cases hlt : k < N
        · have ix := mny_ix HR.out hlt N
          have hki : (0 : Int) ≤ k ∧ (k : Int) < N := by omega
          have c0 := HR.out.cell (i := k * 3) (by omega)
          have f0 := HR.out.frozen (k * 3)
          have R1 := HR.out.set (k * 3) (.int .i64 0)
          have c1 := R1.cell (i := k * 3 + 1) (by omega)
          have f1 := R1.frozen (k * 3 + 1)
          have R2 := R1.set (k * 3 + 1) (.int .i64 1)
          have c2 := R2.cell (i := k * 3 + 2) (by omega)
          have f2 := R2.frozen (k * 3 + 2)
          have HE := Lib.hid (store_edge HR.out hlt)
          have HBE := Lib.hid (((HB.out.setCell (p := ⟨gm, k * 3, none⟩) hgm (.int .i64 0)).setCell (p := ⟨gm, k * 3 + 1, none⟩) hgm (.int .i64 1)).setCell (p := ⟨gm, k * 3 + 2, none⟩) hgm (.int .i64 ((k : Int) + 5)))
          clear R1 R2 HR HB
          generalize mC N k (k * 3) = v0 at *
          generalize (if k * 3 + 1 = k * 3 then Value.int .i64 0 else mC N k (k * 3 + 1)) = v1 at *
          generalize (if k * 3 + 2 = k * 3 + 1 then Value.int .i64 1 else if k * 3 + 2 = k * 3 then Value.int .i64 0 else mC N k (k * 3 + 2)) = v2 at *
          go_wp2_with fail
          exact ⟨⟨k + 1, by omega, by go_num, HE, HBE⟩, by simp only [intOf]; omega⟩
        · obtain rfl : k = N := by omega
          have HS := Lib.hid (many_swap HN1.out HN0.out HR.out k)
          go_wp2_with fail
          refine HS.out.mono ?_
          clear HS HR
          rintro e w12 ⟨rfl, hb12⟩
          have B12 := Lib.hid (HB.out.trans (hb12.mono HB.out.size))
          clear hb12 HB
          go_wp2_with fail
          refine (works_any _).mono ?_
          rintro e w13 ⟨rfl, hb13⟩
          have B13 := Lib.hid (B12.out.trans (hb13.mono B12.out.size))
          clear hb13 B12
          go_wp2_with fail
          go_ret
          exact ⟨rfl, B13.out⟩
end Go.Proofs.Ytbmcflmflmlmaaa
