/- The walks of the document's Depth, Up, Root, Above, Dist and Climb. Conditions: the table was made by the document's New. -/
import Derived.Test.YtbjakjgabolkeaaDoorRef
namespace Go.Proofs.YtbjakjgabolkeaaDoor
open Go.RowKit Go.Shelf

theorem line_ref (c B : Nat) (p : List Int) (v : Int) (w : World) (h : RefAt w B c p) (hB : B ≤ w.heap.size) :
    Calls Tryd.prog 41 #[.pointer (some ⟨c, 0, none⟩), .int .i64 v] w (OwnPost w.heap.size (lineI p v) w) := by
  cases hi : inB p v with
  | true =>
    obtain ⟨u, rfl, hu⟩ := inB_iff.1 hi
    exact line_in c B p u w h hB hu
  | false =>
    rw [lineI_out hi]
    have H := Lib.hid hi; clear hi
    go_enter Tryd.func41, Tryd.ntmps41
    go_wp2_with fail
    refine (node_is H.out h).mono ?_
    rintro e w' ⟨rfl, rfl⟩
    go_wp2
    go_ret
    exact ⟨_, rfl, World.ownsRow_nil _ _ _ _, Below.refl _ _⟩
/-- the same, told as a slice that is read -/
def LinePost (l : List Int) (w : World) (e : Ending) (w' : World) : Prop := ∃ a cap A, e = .returned (.slice a l.length cap) ∧ Sl 25 .i64 w' w'.heap.size (.slice a l.length cap) l A ∧ Below w.heap.size w w'
theorem line_sl (c B : Nat) (p : List Int) (v : Int) (w : World) (h : RefAt w B c p) (hB : B ≤ w.heap.size) :
    Calls Tryd.prog 41 #[.pointer (some ⟨c, 0, none⟩), .int .i64 v] w (LinePost (lineI p v) w) :=
  (line_ref c B p v w h hB).mono fun e w' ⟨val, he, hown, hb⟩ => by
    obtain ⟨_, a, cap, A, rfl, hS⟩ := Sl.own et25 hown
    exact ⟨a, cap, A, he, hS, hb⟩

theorem depth_ref (c B : Nat) (p : List Int) (v : Int) (w : World) (h : RefAt w B c p) (hB : B ≤ w.heap.size) :
    Calls Tryd.prog 31 #[.pointer (some ⟨c, 0, none⟩), .int .i64 v] w fun e w' => e = .returned (.int .i64 (dpV p v)) ∧ Below w.heap.size w w' := by
  cases hi : inB p v with
  | true =>
    obtain ⟨u, rfl, hu⟩ := inB_iff.1 hi
    have H := Lib.hid hi
    have hl := lineI_len hu
    have hd := dp_v hu
    have hlt := dep_lt h.tree hu
    have hs := h.small
    have HL := line_sl c B p u w h hB
    rw [hd]
    generalize lineI p u = l at *
    clear hi hd
    go_enter Tryd.func31, Tryd.ntmps31
    go_wp2_with fail
    refine (node_is H.out h).mono ?_
    rintro e w' ⟨rfl, rfl⟩
    go_wp2_with fail
    refine HL.mono ?_
    rintro e w1 ⟨a, cap, A, rfl, _, hb⟩
    go_wp2
    go_ret
    exact ⟨rfl, hb⟩
  | false =>
    have hd : dpV p v = 0 := by simp [dpV, hi]
    rw [hd]
    have H := Lib.hid hi
    clear hi hd
    go_enter Tryd.func31, Tryd.ntmps31
    go_wp2_with fail
    refine (node_is H.out h).mono ?_
    rintro e w' ⟨rfl, rfl⟩
    go_wp2
    go_ret
    exact ⟨rfl, Below.refl _ _⟩

/-- an element of a list, where it is in range, else 0 -/
def atV (l : List Int) (k : Int) : Int := if 0 ≤ k ∧ k < l.length then nth l k.toNat else 0
def atB (l : List Int) (k : Int) : Bool := decide (0 ≤ k ∧ k < l.length)
theorem up_line {p : List Int} (F : Tree p) (v k : Int) : atV (lineI p v) k = upV p v k ∧ atB (lineI p v) k = upB p v k := by
  cases hi : inB p v with
  | false =>
    have e1 : upB p v k = false := by simp [upB, hi]
    rw [lineI_out hi]
    constructor
    · rw [upV, e1, atV, if_neg (by simp)]; rfl
    · rw [e1]; simp [atB]
  | true =>
    obtain ⟨u, rfl, hu⟩ := inB_iff.1 hi
    have hl := lineI_len hu
    have e : atB (lineI p u) k = upB p u k := by
      rw [Bool.eq_iff_iff]
      simp only [atB, upB, hi, hl, Bool.true_and, Bool.and_eq_true, decide_eq_true_eq, Int.toNat_natCast]
      omega
    refine ⟨?_, e⟩
    by_cases hk : 0 ≤ k ∧ k < (lineI p u).length
    · obtain ⟨j, rfl⟩ := Int.eq_ofNat_of_zero_le hk.1
      have hj : j ≤ dp p u := by omega
      obtain ⟨x, _, hx, _, h2, _⟩ := up_at F hu hj
      rw [atV, if_pos hk, h2, Int.toNat_natCast, lineI_nth hu hj hx]
    · have e1 : upB p u k = false := by rw [← e]; simp only [atB, decide_eq_false_iff_not]; exact hk
      rw [atV, if_neg hk, upV, e1]; rfl

theorem up_ref (c B : Nat) (p : List Int) (v k : Int) (w : World) (h : RefAt w B c p) (hB : B ≤ w.heap.size) :
    Calls Tryd.prog 33 #[.pointer (some ⟨c, 0, none⟩), .int .i64 v, .int .i64 k] w fun e w' => e = .returned (.tuple #[.int .i64 (upV p v k), .bool (upB p v k)]) ∧ Below w.heap.size w w' := by
  obtain ⟨h1, h2⟩ := up_line h.tree v k
  rw [← h1, ← h2]
  have HL := line_sl c B p v w h hB
  clear h1 h2 h
  generalize lineI p v = l at *
  by_cases hk : k < 0
  · have e1 : atV l k = 0 := by rw [atV, if_neg (by omega)]
    have e2 : atB l k = false := by simp [atB]; omega
    rw [e1, e2]
    clear e1 e2
    go_enter Tryd.func33, Tryd.ntmps33
    go_wp2_with fail
    refine HL.mono ?_
    rintro e w1 ⟨a, cap, A, rfl, hS, hb⟩
    go_wp2
    go_ret2
    exact ⟨rfl, hb⟩
  · obtain ⟨j, rfl⟩ := Int.eq_ofNat_of_zero_le (show 0 ≤ k by omega)
    by_cases hj : j < l.length
    · have e1 : atV l j = nth l j := by rw [atV, if_pos (by omega), Int.toNat_natCast]
      have e2 : atB l j = true := by simp [atB, hj]
      rw [e1, e2]
      clear e1 e2
      go_enter Tryd.func33, Tryd.ntmps33
      go_wp2_with fail
      refine HL.mono ?_
      rintro e w1 ⟨a, cap, A, rfl, hS, hb⟩
      have ix := hS.ix j hj
      have ce := hS.cell j hj
      have hj' : ¬ (l.length ≤ j) := by omega
      go_wp2
      go_ret2
      exact ⟨rfl, hb⟩
    · have e1 : atV l j = 0 := by rw [atV, if_neg (by omega)]
      have e2 : atB l j = false := by simp [atB]; omega
      rw [e1, e2]
      clear e1 e2
      go_enter Tryd.func33, Tryd.ntmps33
      go_wp2_with fail
      refine HL.mono ?_
      rintro e w1 ⟨a, cap, A, rfl, hS, hb⟩
      go_wp2
      go_ret2
      exact ⟨rfl, hb⟩
theorem root_ref (c B : Nat) (p : List Int) (v : Int) (w : World) (h : RefAt w B c p) (hB : B ≤ w.heap.size) :
    Calls Tryd.prog 29 #[.pointer (some ⟨c, 0, none⟩), .int .i64 v] w fun e w' => e = .returned (.tuple #[.int .i64 (upV p v (dpV p v)), .bool (upB p v (dpV p v))]) ∧ Below w.heap.size w w' := by
  go_enter Tryd.func29, Tryd.ntmps29
  go_wp2_with fail
  refine (depth_ref _ _ _ _ _ h hB).mono ?_
  rintro e w1 ⟨rfl, hb1⟩
  go_wp2_with fail
  refine (up_ref _ _ _ _ _ _ (h.below (hb1.mono hB)) (Nat.le_trans hB hb1.size)).mono ?_
  rintro e w2 ⟨rfl, hb2⟩
  go_wp2_with fail
  go_ret2
  exact ⟨rfl, hb1.trans (hb2.mono hb1.size)⟩

theorem lineI_le {p : List Int} (F : Tree p) (v : Int) : (lineI p v).length ≤ p.length := by
  cases hi : inB p v with
  | false => rw [lineI_out hi]; exact Nat.zero_le _
  | true =>
    obtain ⟨u, rfl, hu⟩ := inB_iff.1 hi
    have := dep_lt F hu
    rw [lineI_len hu]; omega
/-- whether a number is in a list -/
def inL (l : List Int) (x : Int) : Bool := (List.range l.length).any fun k => nth l k == x
theorem inL_true {l : List Int} {x : Int} : inL l x = true ↔ ∃ k, k < l.length ∧ nth l k = x := by
  simp [inL]
theorem inL_false {l : List Int} {x : Int} : inL l x = false ↔ ∀ k, k < l.length → nth l k ≠ x := by
  simp [inL]
theorem ab_line {p : List Int} (F : Tree p) (x v : Int) : inL (lineI p v) x = abB p x v := by
  cases hi : inB p v with
  | false => rw [lineI_out hi]; simp [abB, hi, inL]
  | true =>
    obtain ⟨u, rfl, hu⟩ := inB_iff.1 hi
    rw [Bool.eq_iff_iff, inL_true]
    constructor
    · rintro ⟨k, hk, hx⟩
      rw [lineI_len hu] at hk
      obtain ⟨y, hyl, hy, _⟩ := up_at F hu (show k ≤ dp p u by omega)
      rw [lineI_nth hu (by omega) hy] at hx
      subst hx
      rw [ab_at hyl hu]
      exact (isAnc_iff F hu).2 ⟨k, hy⟩
    · intro hx
      have hx2 := hx
      simp only [abB, Bool.and_eq_true] at hx2
      obtain ⟨y, rfl, hy⟩ := inB_iff.1 hx2.1.1
      rw [ab_at hy hu] at hx
      obtain ⟨k, hk⟩ := (isAnc_iff F hu).1 hx
      have hd := anc_d F hu hk
      exact ⟨k, by rw [lineI_len hu]; omega, lineI_nth hu (by omega) hk⟩
set_option maxHeartbeats 1000000 in
theorem above_ref (c B : Nat) (p : List Int) (x v : Int) (w : World) (h : RefAt w B c p) (hB : B ≤ w.heap.size) :
    Calls Tryd.prog 32 #[.pointer (some ⟨c, 0, none⟩), .int .i64 x, .int .i64 v] w fun e w' => e = .returned (.bool (abB p x v)) ∧ Below w.heap.size w w' := by
  rw [← ab_line h.tree x v]
  have HL := line_sl c B p v w h hB
  have hll := lineI_le h.tree v
  have hs := h.small
  clear h
  generalize lineI p v = l at *
  go_enter Tryd.func32, Tryd.ntmps32
  go_wp2_with fail
  refine HL.mono ?_
  rintro e w1 ⟨a, cap, A, rfl, hS, hb⟩
  clear HL
  go_wp2_with fail
  go_loop [8] (fun i => ∃ k : Nat, k ≤ l.length ∧ i = .int .i64 k ∧ ∀ j, j < k → nth l j ≠ x) (fun i => l.length - (intOf i).toNat)
  case atStart => exact ⟨0, Nat.zero_le _, rfl, fun j hj => absurd hj (by omega)⟩
  case round =>
    obtain ⟨k, hk, rfl, hall⟩ := hrel
    by_cases hlt : k < l.length
    · have ix := hS.ix k hlt
      have ce := hS.cell k hlt
      by_cases hx : nth l k = x
      · have H := Lib.hid (inL_true.2 ⟨k, hlt, hx⟩)
        have hx' : (nth l k == x) = true := by rw [beq_iff_eq]; exact hx
        clear hx hall
        go_wp2
        go_ret
        exact ⟨by rw [H.out]; rfl, hb⟩
      · have HA := Lib.hid (show ∀ j, j < k + 1 → nth l j ≠ x from fun j hj => by
          by_cases e : j = k
          · subst e; exact hx
          · exact hall j (by omega))
        have hx' : (nth l k == x) = false := by rw [beq_eq_false_iff_ne]; exact hx
        clear hx hall
        go_wp2
        go_round
        case rel => exact ⟨k + 1, by omega, by go_num, HA.out⟩
        case measure => simp [intOf]; omega
    · obtain rfl : k = l.length := by omega
      have H := Lib.hid (inL_false.2 hall)
      clear hall
      go_wp2
      go_ret
      exact ⟨by rw [H.out]; rfl, hb⟩
end Go.Proofs.YtbjakjgabolkeaaDoor
