/- The walks of From, magnitude, Int and Reduce of the document's package of numbers, at numbers that are small. Conditions: the numbers are at most 2^40 in size. -/
import Derived.Test.YtemcilmefknbbaaModCs
namespace Go.Proofs.Ytemcilmefknbbaa
open Go.RowKit

/-- the cells of a small number of many digits -/
def wideC (s : Bool) (u : Nat) : Array Value := #[.bool s, .int .u64 ((u % 4294967296 : Nat) : Int), .int .u64 ((u / 4294967296 : Nat) : Int), .int .u64 0, .int .u64 0, .int .u64 0, .int .u64 0]
theorem wide_ret {w : World} {x : Int} {s : Bool} {a b : Int} {u : Nat} (hs : decide (x < 0) = s) (hu : x.natAbs = u) (ha : a = ((u % 4294967296 : Nat) : Int)) (hb : b = ((u / 4294967296 : Nat) : Int)) :
    Ending.returned (.agg #[.bool s, .int .u64 a, .int .u64 b, .int .u64 0, .int .u64 0, .int .u64 0, .int .u64 0]) = .returned (.agg (wideC (decide (x < 0)) x.natAbs)) ∧ Below w.heap.size w ((w.alloc (.cells #[.bool s, .int .u64 a, .int .u64 b, .int .u64 0, .int .u64 0, .int .u64 0, .int .u64 0] 115)).alloc (.cells #[.bool s, .int .u64 a, .int .u64 b, .int .u64 0, .int .u64 0, .int .u64 0, .int .u64 0] 115)) :=
  ⟨by rw [hs, hu, ha, hb]; rfl, ((Below.refl _ _).alloc (Nat.le_refl _) _).alloc (by simp) _⟩
set_option maxRecDepth 100000 in
set_option maxHeartbeats 1000000 in
theorem rfrom_any (x : Int) (w : World) (h0 : -1099511627776 ≤ x) (h1 : x ≤ 1099511627776) :
    Calls Try.prog 80 #[.int .i64 x] w fun e w' => e = .returned (.agg (wideC (decide (x < 0)) x.natAbs)) ∧ Below w.heap.size w w' := by
  by_cases h : x < 0
  · go_enter Try.func80, Try.ntmps80
    go_wp2_with fail
    exact bodyPost_ret (v := .agg #[.bool true, .int .u64 ((-(x + 1) + 1) % 4294967296), .int .u64 ((-(x + 1) + 1) / 4294967296), .int .u64 0, .int .u64 0, .int .u64 0, .int .u64 0]) (by simp [results, Try.results80, go_sem]) rfl (wide_ret (decide_eq_true h) rfl (by omega) (by omega))
  · go_enter Try.func80, Try.ntmps80
    go_wp2_with fail
    exact bodyPost_ret (v := .agg #[.bool false, .int .u64 (x % 4294967296), .int .u64 (x / 4294967296), .int .u64 0, .int .u64 0, .int .u64 0, .int .u64 0]) (by simp [results, Try.results80, go_sem]) rfl (wide_ret (decide_eq_false (by omega)) rfl (by omega) (by omega))

/-- a block that holds a small number of many digits -/
structure WB (w : World) (b : Nat) (s : Bool) (u : Nat) : Prop where
  c0 : w.cell? ⟨b, 0, none⟩ = some (.bool s)
  c1 : w.cell? ⟨b, 1, none⟩ = some (.int .u64 ((u % 4294967296 : Nat) : Int))
  c2 : w.cell? ⟨b, 2, none⟩ = some (.int .u64 ((u / 4294967296 : Nat) : Int))
theorem WB.new (w : World) (s : Bool) (u : Nat) (t : TypeId) : WB (w.alloc (.cells (wideC s u) t)) w.heap.size s u :=
  ⟨by unfold wideC; go_simp, by unfold wideC; go_simp, by unfold wideC; go_simp⟩
set_option maxRecDepth 100000 in
set_option maxHeartbeats 1000000 in
theorem rmag_any (x : Int) (w : World) (h0 : -1099511627776 ≤ x) (h1 : x ≤ 1099511627776) :
    Calls Try.prog 72 #[.int .i64 x] w fun e w' => e = .returned (.int .u64 (x.natAbs : Nat)) ∧ Below w.heap.size w w' := by
  obtain ⟨u, hu⟩ : ∃ u : Nat, x.natAbs = u := ⟨_, rfl⟩
  obtain ⟨s, hs⟩ : ∃ s, decide (x < 0) = s := ⟨_, rfl⟩
  have HF := rfrom_any x w h0 h1
  rw [hu, hs] at HF
  rw [hu]
  have hle : u ≤ 1099511627776 := by omega
  have H := Lib.hid HF
  have hr : (0 : Int) ≤ ((u % 4294967296 : Nat) : Int) ∧ ((u % 4294967296 : Nat) : Int) < 4294967296 := by omega
  have hq : (0 : Int) ≤ ((u / 4294967296 : Nat) : Int) ∧ ((u / 4294967296 : Nat) : Int) ≤ 256 := by omega
  have he := Lib.hid (show ((u / 4294967296 : Nat) : Int) * 4294967296 + ((u % 4294967296 : Nat) : Int) = (u : Int) by omega)
  clear HF hu hs h0 h1
  go_enter Try.func72, Try.ntmps72
  go_wp2_with fail
  refine H.out.mono ?_
  rintro e w1 ⟨rfl, hb1⟩
  unfold wideC
  generalize ((u / 4294967296 : Nat) : Int) = q at *
  generalize ((u % 4294967296 : Nat) : Int) = r at *
  go_wp2_with fail
  go_ret
  exact ⟨by rw [he.out]; rfl, hb1.alloc hb1.size _⟩

theorem rmag_is {x : Int} {A : Nat} {w : World} (hA : x.natAbs = A) (h0 : -1099511627776 ≤ x) (h1 : x ≤ 1099511627776) :
    Calls Try.prog 72 #[.int .i64 x] w fun e w' => e = .returned (.int .u64 (A : Nat)) ∧ Below w.heap.size w w' := by
  subst hA; exact rmag_any x w h0 h1

/-- the number of a sign and a size -/
def sgn (s : Bool) (u : Int) : Int := if s then -u else u
set_option maxRecDepth 100000 in
set_option maxHeartbeats 1000000 in
theorem rint_any (s : Bool) (u : Nat) (w : World) (h1 : u ≤ 1099511627776) :
    Calls Try.prog 73 #[.agg (wideC s u)] w fun e w' => e = .returned (.tuple #[.int .i64 (sgn s u), .bool true]) ∧ Below w.heap.size w w' := by
  have hr : (0 : Int) ≤ ((u % 4294967296 : Nat) : Int) ∧ ((u % 4294967296 : Nat) : Int) < 4294967296 := by omega
  have hq : (0 : Int) ≤ ((u / 4294967296 : Nat) : Int) ∧ ((u / 4294967296 : Nat) : Int) ≤ 256 := by omega
  have he : ((u / 4294967296 : Nat) : Int) * 4294967296 + ((u % 4294967296 : Nat) : Int) = (u : Int) := by omega
  unfold wideC
  generalize ((u / 4294967296 : Nat) : Int) = q at *
  generalize ((u % 4294967296 : Nat) : Int) = r at *
  generalize (u : Int) = x at *
  have hb : ∀ c, Below w.heap.size w (w.alloc c) := fun c => (Below.refl _ _).alloc (Nat.le_refl _) c
  cases s with
  | false =>
    have H := Lib.hid (show q * 4294967296 + r = sgn false x from he)
    have hg1 : decide (9223372036854775807 < q * 4294967296 + r) = false := decide_eq_false (by omega)
    clear he
    go_enter Try.func73, Try.ntmps73
    go_wp2_with fail
    go_ret2
    exact ⟨by rw [← H.out]; rfl, hb _⟩
  | true =>
    have hg1 : decide (9223372036854775808 < q * 4294967296 + r) = false := decide_eq_false (by omega)
    by_cases h0 : x = 0
    · have H := Lib.hid (show 0 = sgn true x by simp [sgn, h0])
      have hz : ((q * 4294967296 + r) == 0) = true := by simp; omega
      clear he h0
      go_enter Try.func73, Try.ntmps73
      go_wp2_with fail
      go_ret2
      exact ⟨by rw [← H.out]; rfl, hb _⟩
    · have H := Lib.hid (show -(q * 4294967296 + r - 1) - 1 = sgn true x by simp [sgn]; omega)
      have hz : ((q * 4294967296 + r) == 0) = false := by simp; omega
      have hp : 1 ≤ q * 4294967296 + r := by omega
      clear he h0
      go_enter Try.func73, Try.ntmps73
      go_wp2_with fail
      go_ret2
      exact ⟨by rw [← H.out]; rfl, hb _⟩

theorem rint_is {s : Bool} {u : Nat} {a b : Int} (w : World) (ha : a = ((u % 4294967296 : Nat) : Int)) (hb : b = ((u / 4294967296 : Nat) : Int)) (h1 : u ≤ 1099511627776) :
    Calls Try.prog 73 #[.agg #[.bool s, .int .u64 a, .int .u64 b, .int .u64 0, .int .u64 0, .int .u64 0, .int .u64 0]] w fun e w' => e = .returned (.tuple #[.int .i64 (sgn s u), .bool true]) ∧ Below w.heap.size w w' := by
  subst ha; subst hb; exact rint_any s u w h1
theorem Two.drew {w : World} {b : Nat} {x y : Int} (h : Two w b x y) : Two w.drew b x y := ⟨h.c0, h.c1, h.z⟩
set_option maxRecDepth 100000 in
set_option maxHeartbeats 2000000 in
theorem rreduce_any (n d : Int) (w : World) (h0 : -1099511627776 ≤ n) (h1 : n ≤ 1099511627776) (hd : 0 < d) (hd1 : d ≤ 1099511627776) :
    Calls Try.prog 56 #[.int .i64 n, .int .i64 d] w fun e w' => e = .returned (.tuple #[.agg #[.int .i64 (rN n d), .int .i64 (rD n d)], .int .i64 0]) ∧ Below w.heap.size w w' := by
  have hg := rG_pos (n := n) hd
  have hQ := rQ_bd (n := n) hd h0 h1
  have hD := rD_bd (n := n) hd hd1
  have hd0 : (d == 0) = false := by simp; omega
  have hq : (n.natAbs : Int) / (rG n d : Int) = rQ n d := rfl
  have hr : (d.natAbs : Int) / (rG n d : Int) = rD n d := rfl
  have HG := Lib.hid (show n.natAbs.gcd d.natAbs = rG n d from rfl)
  have HN := Lib.hid (show rN n d = sgn (decide (n < 0)) (rQ n d) by unfold rN sgn; simp)
  have hb1 : Below w.heap.size w (w.alloc (.cells #[.int .i64 0, .int .i64 0] 33)) := (Below.refl _ _).alloc (Nat.le_refl _) _
  have T1 := Two.new w 0 0 33
  have hs1 : (w.alloc (.cells #[.int .i64 0, .int .i64 0] 33)).heap.size = w.heap.size + 1 := by simp
  have hb2 : decide (d < 0) = false := decide_eq_false (by omega)
  obtain ⟨s, hs⟩ : ∃ s, decide (n < 0) = s := ⟨_, rfl⟩
  obtain ⟨A, hA⟩ : ∃ A : Nat, n.natAbs = A := ⟨_, rfl⟩
  obtain ⟨D, hDD⟩ : ∃ D : Nat, d.natAbs = D := ⟨_, rfl⟩
  rw [hs] at HN
  rw [hA] at HG hq
  rw [hDD] at HG hr
  have hA1 : A ≤ 1099511627776 := by omega
  have hD1 : D ≤ 1099511627776 := by omega
  have rm1 := Lib.hid (fun W => rmag_is (w := W) hA h0 h1)
  have rm2 := Lib.hid (fun W => rmag_is (w := W) hDD (by omega) hd1)
  clear hA hDD
  generalize rQ n d = Q at *
  generalize rD n d = DD at *
  generalize rN n d = N at *
  generalize rG n d = G at *
  go_enter Try.func56, Try.ntmps56
  go_wp2_with fail
  generalize w.alloc (.cells #[.int .i64 0, .int .i64 0] 33) = W1 at *
  refine (rm1.out _).mono ?_
  rintro e w2 ⟨rfl, hb3⟩
  have T2 := T1.below hb3 (by omega)
  have bel2 := hb1.trans (hb3.mono (by omega))
  have hs2 := hb3.size
  clear T1 hb3 hb1
  go_wp2_with fail
  refine (rm2.out _).mono ?_
  rintro e w3 ⟨rfl, hb3⟩
  have T3 := T2.below hb3 (by omega)
  have bel3 := bel2.trans (hb3.mono (by omega))
  have hs3 := hb3.size
  clear T2 hb3 bel2
  go_wp2_with fail
  go_loopw [8, 9] (fun p q wr => ∃ a b : Nat, p = .int .u64 (a : Nat) ∧ q = .int .u64 (b : Nat) ∧ a ≤ 1099511627776 ∧ b ≤ 1099511627776 ∧ Hid (a.gcd b = G) ∧ Two wr w.heap.size 0 0 ∧ Below w.heap.size w wr ∧ w.heap.size < wr.heap.size) (fun _ q _ => (intOf q).toNat)
  case atStart => exact ⟨A, D, rfl, rfl, hA1, hD1, HG, T3, bel3, by omega⟩
  case round =>
    clear T3 bel3 hs3
    obtain ⟨a, b, rfl, rfl, ha, hb, HGG, T, bel, hsz⟩ := hrel
    by_cases hz : b = 0
    · subst hz
      have e1 : a = G := by rw [← HGG.out, Nat.gcd_zero_right]
      subst e1
      obtain ⟨q, rfl⟩ : ∃ q : Nat, Q = q := ⟨Q.toNat, by omega⟩
      have hqq : q ≤ 1099511627776 := by omega
      have HI := Lib.hid (fun W => rint_is (s := s) (u := q) (a := (q : Int) % 4294967296) (b := (q : Int) / 4294967296) W (by omega) (by omega) hqq)
      have h2 : (1 : Int) ≤ a := by omega
      have T' := T.drew
      have bel' := bel.drew
      have hg9 : decide (9223372036854775807 < DD) = false := decide_eq_false (by omega)
      have hsz' : w.heap.size < wr.drew.heap.size := hsz
      go_upto_region 7 with fail
      go_region
      clear T bel hsz
      generalize wr.drew = W4 at *
      have Tn : ∀ c, Two (W4.alloc c) w.heap.size 0 0 := fun c => T'.below (B := W4.heap.size) ((Below.refl _ _).alloc (Nat.le_refl _) _) hsz'
      have beln : ∀ c, Below w.heap.size w (W4.alloc c) := fun c => bel'.alloc bel'.size c
      cases s with
      | false =>
        go_wp2_with fail
        refine (HI.out _).mono ?_
        rintro e w5 ⟨rfl, hb5⟩
        have T5 := (Tn _).below hb5 (by simp; omega)
        have bel5 := (beln _).trans (hb5.mono (by simp; omega))
        have c0 := T5.c0; have c1 := T5.c1; have z := T5.z
        clear T5 Tn beln HI
        go_wp2_with fail
        exact bodyPost_ret (v := .tuple #[.agg #[.int .i64 (sgn false q), .int .i64 DD], .int .i64 0]) (by simp [results, Try.results56, go_sem, c0, c1]) rfl ⟨by rw [HN.out], (bel5.setCell (p := ⟨w.heap.size, 0, none⟩) (Nat.le_refl _) _).setCell (p := ⟨w.heap.size, 1, none⟩) (Nat.le_refl _) _⟩
      | true =>
        go_wp2_with fail
        refine (HI.out _).mono ?_
        rintro e w5 ⟨rfl, hb5⟩
        have T5 := (Tn _).below hb5 (by simp; omega)
        have bel5 := (beln _).trans (hb5.mono (by simp; omega))
        have c0 := T5.c0; have c1 := T5.c1; have z := T5.z
        clear T5 Tn beln HI
        go_wp2_with fail
        exact bodyPost_ret (v := .tuple #[.agg #[.int .i64 (sgn true q), .int .i64 DD], .int .i64 0]) (by simp [results, Try.results56, go_sem, c0, c1]) rfl ⟨by rw [HN.out], (bel5.setCell (p := ⟨w.heap.size, 0, none⟩) (Nat.le_refl _) _).setCell (p := ⟨w.heap.size, 1, none⟩) (Nat.le_refl _) _⟩
    · have h1 : ((b : Int) != 0) = true := by simp; omega
      have h2 : (1 : Int) ≤ b := by omega
      have hm : a % b < b := Nat.mod_lt _ (by omega)
      have T' := T.drew
      have bel' := bel.drew
      go_wp2_with fail
      go_region
      go_wp2_with fail
      go_roundw
      case rel => exact ⟨b, a % b, rfl, by go_num, hb, by omega, Lib.hid (by rw [Nat.gcd_comm, ← Nat.gcd_rec, Nat.gcd_comm]; exact HGG.out), T', bel', hsz⟩
      case measure => simp [intOf]; omega
end Go.Proofs.Ytemcilmefknbbaa
