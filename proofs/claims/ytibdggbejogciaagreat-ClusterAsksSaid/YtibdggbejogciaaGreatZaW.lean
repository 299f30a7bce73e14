/- The walk of the law ClusterAsks: the cluster of a vertex is that of the document. No conditions. -/
import Derived.Test.YtibdggbejogciaaGreatRh
import Derived.Test.YtibdggbejogciaaGreatRu
import Derived.Test.YtibdggbejogciaaGreatCk
import Derived.Test.YtibdggbejogciaaGreatCz
namespace Go.Proofs.YtibdggbejogciaaGreat
open Go.RowKit

/-- what Members answers, as a list that is read -/
def MemR (l : List Nat) (er : Int) (w : World) (e : Ending) (w' : World) : Prop :=
  ∃ (a : Option Addr) (cap : Nat) (A : Nat → Addr), e = .returned (.tuple #[.slice a l.length cap, .int .i64 er]) ∧ Rd 37 1 w' w'.heap.size (.slice a l.length cap) l.length (nums .i64 (intsN l)) A ∧ Below w.heap.size w w'
/-- what Of answers -/
def OfR (x y : Nat) (er : Int) (w : World) (e : Ending) (w' : World) : Prop :=
  e = .returned (.tuple #[.agg (grpV x y), .int .i64 er]) ∧ Below w.heap.size w w'
/-- both views answer alike -/
structure AskOk (w : World) (v r : Value) (u θ : Int) (x y : Nat) (er : Int) (l : List Nat) : Prop where
  len : l.length ≤ 1000000
  of1 : ∀ W, Below w.heap.size w W → Calls Tryz.prog 12 #[v, .int .i64 u, .int .i64 θ] W (OfR x y er W)
  of2 : ∀ W, Below w.heap.size w W → Calls Tryz.prog 13 #[r, .int .i64 u, .int .i64 θ] W (OfR x y er W)
  m1 : ∀ W, Below w.heap.size w W → Calls Tryz.prog 14 #[v, .int .i64 u, .int .i64 θ] W (MemR l er W)
  m2 : ∀ W, Below w.heap.size w W → Calls Tryz.prog 15 #[r, .int .i64 u, .int .i64 θ] W (MemR l er W)
theorem MemR.nil (er : Int) {w w' : World} (hb : Below w.heap.size w w') : MemR [] er w (.returned (.tuple #[.slice none 0 0, .int .i64 er])) w' :=
  ⟨none, 0, fun _ => ⟨0, 0, none⟩, rfl, Rd.nil _, hb⟩
theorem MemR.own {l : List Nat} {v : Value} {er : Int} {w w' : World} (h : OwnI w.heap.size v l w') (hb : Below w.heap.size w w') : MemR l er w (.returned (.tuple #[v, .int .i64 er])) w' := by
  obtain ⟨a, cap, A, rfl, h1⟩ := ownI_rd h
  exact ⟨a, cap, A, rfl, h1, hb⟩
theorem BothV.ask {n : Int} {E : List Ed} {w w1 : World} {e : Ending} (h : BothV n E w e w1) (u θ : Int) :
    ∃ (v r : Value) (x y : Nat) (er : Int) (l : List Nat), e = .returned (.tuple #[v, r, .bool true]) ∧ Below w.heap.size w w1 ∧ AskOk w1 v r u θ x y er l := by
  obtain ⟨b1, ⟨_, rfl⟩ | ⟨k, vb, rb, rfl, G, rfl, hv, hr⟩⟩ := h
  · exact ⟨_, _, 0, 0, 1, [], rfl, b1, by decide, fun W hb => of_no (noVw_nil W) u θ, fun W hb => rwof_err (.pointer none) u θ 1 (by decide) fun W1 _ => rwmembers_no u θ,
      fun W hb => (members_no (noVw_nil W) u θ).mono fun e w' h => by obtain ⟨rfl, rfl⟩ := h; exact MemR.nil 1 (Below.refl _ _),
      fun W hb => (rwmembers_no (w := W) u θ).mono fun e w' h => by obtain ⟨rfl, rfl⟩ := h; exact MemR.nil 1 (Below.refl _ _)⟩
  · by_cases hu : 0 ≤ u ∧ u < k
    · obtain ⟨m, rfl⟩ : ∃ m : Nat, u = m := ⟨u.toNat, by omega⟩
      have hm : m < k := by omega
      exact ⟨_, _, lbW E θ m, clsN k (lbW E θ) m, 0, lvs k (lbW E θ) (lbW E θ m), rfl, b1, by
          have h1 : (lvs k (lbW E θ) (lbW E θ m)).length ≤ k := Nat.le_trans (List.length_filter_le _ _) (by simp)
          have h2 := G.n_le
          omega,
        fun W hb => of_in vb k m E θ W (hv.at hb) hm, fun W hb => rwof_in m θ (hr.at hb) hm,
        fun W hb => (members_in vb k m E θ W (hv.at hb) hm).mono fun e w' h => by obtain ⟨v, rfl, h1, h2⟩ := h; exact MemR.own h1 h2,
        fun W hb => (rwmembers_in m θ (hr.at hb) hm).mono fun e w' h => by obtain ⟨v, rfl, h1, h2⟩ := h; exact MemR.own h1 h2⟩
    · exact ⟨_, _, 0, 0, 3, [], rfl, b1, by decide, fun W hb => of_out vb k u E θ W (hv.at hb) hu, fun W hb => rwof_err (.pointer (some ⟨rb, 0, none⟩)) u θ 3 (by decide) fun W1 h1 => rwmembers_out u θ (hr.at (hb.trans (h1.mono hb.size))) hu,
        fun W hb => (members_out vb k u E θ W (hv.at hb) hu).mono fun e w' h => by obtain ⟨rfl, rfl⟩ := h; exact MemR.nil 3 (Below.refl _ _),
        fun W hb => (rwmembers_out u θ (hr.at hb) hu).mono fun e w' h => by obtain ⟨rfl, rfl⟩ := h; exact MemR.nil 3 (Below.refl _ _)⟩
theorem grpRow (w : World) (x y : Int) : Row (w.alloc (.cells #[.int .i64 x, .int .i64 y] 33)) w.heap.size 2 (fun i => (#[Value.int .i64 x, .int .i64 y] : Array Value).getD i undef) := Row.lit w _ _ (by simp) fun i hi => by
  match i, hi with
  | 0, _ => rfl
  | 1, _ => rfl
  | n + 2, h => omega
set_option maxRecDepth 100000 in
set_option maxHeartbeats 2000000 in
theorem casks_walk (B : Nat) (a : Option Addr) (cap : Nat) (A : Nat → Addr) (n : Int) (E : List Ed) (u θ : Int) (w : World) (hS : ES w B (.slice a E.length cap) E A) (hB : B ≤ w.heap.size) (hm : E.length ≤ 9223372036854775807) :
    Calls Tryz.prog 4 #[.int .i64 n, .slice a E.length cap, .int .i64 u, .int .i64 θ] w fun e w' => e = .returned (.bool true) ∧ Below w.heap.size w w' := by
  have HS := Lib.hid hS
  have HSm := Lib.hid (small_any n a cap E.length w hm)
  clear hS
  by_cases hl : (n ≤ 60 ∨ 4096 < n) ∧ E.length ≤ 150
  · rw [decide_eq_true hl] at HSm
    have HBo := Lib.hid (both_any B a cap A n E w HS.out hB hl.2)
    clear HS hl hm hB
    go_enter Tryz.func4, Tryz.ntmps4
    go_wp2_with fail
    refine HSm.out.mono ?_
    rintro e w0 ⟨rfl, rfl⟩
    go_wp2_with fail
    refine HBo.out.mono ?_
    intro e w1 hv
    obtain ⟨v, r, x, y, er, l, rfl, b1, ha⟩ := hv.ask u θ
    have HA := Lib.hid ha; have B1 := Lib.hid b1
    clear ha b1 HBo HSm hv
    go_wp2_with fail
    refine (HA.out.of1 w1 (Below.refl _ _)).mono ?_
    rintro e w2 ⟨rfl, b2⟩
    have B2 := Lib.hid b2
    clear b2
    unfold grpV
    go_wp2_with fail
    have bA : Below w2.heap.size w2 (w2.alloc (.cells #[.int .i64 (x : Nat), .int .i64 (y : Nat)] 33)) := (Below.refl _ _).alloc (Nat.le_refl _) _
    have R2 := grpRow w2 (x : Nat) (y : Nat)
    have hlt : w2.heap.size < (w2.alloc (.cells #[.int .i64 (x : Nat), .int .i64 (y : Nat)] 33)).heap.size := by simp
    generalize w2.alloc (.cells #[.int .i64 (x : Nat), .int .i64 (y : Nat)] 33) = W2 at *
    have B2a := Lib.hid (B2.out.trans (bA.mono B2.out.size))
    obtain ⟨g, hg⟩ : ∃ g, w2.heap.size = g := ⟨_, rfl⟩
    rw [hg] at R2 hlt ⊢
    have HR2 := Lib.hid R2
    clear bA R2 hg B2
    refine (HA.out.of2 W2 B2a.out).mono ?_
    rintro e w3 ⟨rfl, b3⟩
    have R3 := HR2.out.below b3 hlt
    have hl3 := R3.lt
    have B3 := Lib.hid (B2a.out.trans (b3.mono B2a.out.size))
    clear b3 HR2 hlt B2a
    unfold grpV
    go_wp2_with fail
    have bA : Below w3.heap.size w3 (w3.alloc (.cells #[.int .i64 (x : Nat), .int .i64 (y : Nat)] 33)) := (Below.refl _ _).alloc (Nat.le_refl _) _
    have R4 := grpRow w3 (x : Nat) (y : Nat)
    have hlt : w3.heap.size < (w3.alloc (.cells #[.int .i64 (x : Nat), .int .i64 (y : Nat)] 33)).heap.size := by simp
    generalize w3.alloc (.cells #[.int .i64 (x : Nat), .int .i64 (y : Nat)] 33) = W3 at *
    have R3a := R3.below bA hl3
    have hl3a := R3a.lt
    have B3a := Lib.hid (B3.out.trans (bA.mono B3.out.size))
    obtain ⟨g', hg'⟩ : ∃ g, w3.heap.size = g := ⟨_, rfl⟩
    rw [hg'] at R4 hlt ⊢
    have HR := Lib.hid (And.intro R3a R4)
    clear bA R3 R3a R4 hg' B3 hl3
    refine (HA.out.m1 W3 B3a.out).mono ?_
    rintro e w4 ⟨la, lc, LA, rfl, hLA, b4⟩
    have HL := Lib.hid hLA; have B4 := Lib.hid (B3a.out.trans (b4.mono B3a.out.size))
    have HR4 := Lib.hid (And.intro (HR.out.1.below b4 hl3a) (HR.out.2.below b4 hlt))
    obtain ⟨m, hmm⟩ : ∃ m, l.length = m := ⟨_, rfl⟩
    have Hm := Lib.hid hmm
    rw [hmm] at HL ⊢
    clear hLA b4 B3a HR hl3a hlt hmm
    go_wp2_with fail
    refine (HA.out.m2 w4 B4.out).mono ?_
    rintro e w5 ⟨ra, rc, RA, rfl, hRA, b5⟩
    rw [Hm.out] at hRA ⊢
    have HN := Lib.hid (numbers_n w5.heap.size m m la ra lc rc LA RA (intsN l) (intsN l) w5 (by rw [intsN_len, Hm.out]) (by rw [intsN_len, Hm.out]) ((HL.out.below b5).mono b5.size) hRA (by have := HA.out.len; have := Hm.out; omega))
    have B5 := Lib.hid (B4.out.trans (b5.mono B4.out.size))
    have R5 := HR4.out.1.below b5 HR4.out.1.lt
    have R5' := HR4.out.2.below b5 HR4.out.2.lt
    have c0 : w5.cell? ⟨g, 0, none⟩ = some (.int .i64 (x : Nat)) := R5.cell (i := 0) (by omega)
    have c1 : w5.cell? ⟨g, 1, none⟩ = some (.int .i64 (y : Nat)) := R5.cell (i := 1) (by omega)
    have c2 : w5.cell? ⟨g', 0, none⟩ = some (.int .i64 (x : Nat)) := R5'.cell (i := 0) (by omega)
    have c3 : w5.cell? ⟨g', 1, none⟩ = some (.int .i64 (y : Nat)) := R5'.cell (i := 1) (by omega)
    have hge := fun W => group_eql (x : Nat) (y : Nat) (x : Nat) (y : Nat) W
    simp only [decide_true, Bool.and_self] at hge
    have de : (er == er) = true := by simp
    clear hRA b5 B4 HR4 R5 R5' HL
    go_wp2_with fail
    refine HN.out.mono ?_
    rintro e w6 ⟨rfl, q, rfl⟩
    simp only [decide_true]
    have B6 := Lib.hid (below_drewN B5.out q)
    clear HN B5 c0 c1 c2 c3
    obtain ⟨w6, h6⟩ : ∃ x, w5.drewN q = x := ⟨_, rfl⟩
    rw [h6] at B6 ⊢
    clear h6
    go_wp2_with fail
    refine (works_any _).mono ?_
    rintro e w7 ⟨rfl, b7⟩
    have B7 := Lib.hid (B6.out.trans (b7.mono B6.out.size))
    clear b7 B6
    go_wp2_with fail
    go_ret
    exact ⟨rfl, B1.out.trans (B7.out.mono B1.out.size)⟩
  · rw [decide_eq_false hl] at HSm
    clear HS hl hm
    go_enter Tryz.func4, Tryz.ntmps4
    go_wp2_with fail
    refine HSm.out.mono ?_
    rintro e w0 ⟨rfl, rfl⟩
    go_wp2_with fail
    refine (works_any _).mono ?_
    rintro e w9 ⟨rfl, b9⟩
    go_wp2_with fail
    go_ret
    exact ⟨rfl, b9⟩
end Go.Proofs.YtibdggbejogciaaGreat
