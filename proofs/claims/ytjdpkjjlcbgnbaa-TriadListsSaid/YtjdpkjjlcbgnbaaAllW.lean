/- The walk of the document's all. Conditions: the graph was made by the document's New, or it is nil. -/
import Derived.Test.YtjdpkjjlcbgnbaaAllL
namespace Go.Proofs.Ytjdpkjjlcbgnbaa
open Go.RowKit Go.Shelf

theorem flatMap_le {α : Type} (f : Nat → List α) (m b : Nat) (h : ∀ i, i < b → (f i).length ≤ m) : ((List.range b).flatMap f).length ≤ b * m := by
  induction b with
  | zero => simp
  | succ b ih =>
    rw [List.range_succ, List.flatMap_append, List.length_append, Nat.succ_mul]
    have h1 := ih fun i hi => h i (by omega)
    have h2 := h b (by omega)
    simp only [List.flatMap_singleton]
    omega
theorem rC_len (E : List Ed) (a b c : Nat) : (rC E a b c).length ≤ c := by
  unfold rC; rw [List.length_map]
  exact Nat.le_trans (List.length_filter_le _ _) (by simp)
theorem rB_len (E : List Ed) (n a b : Nat) : (rB E n a b).length ≤ b * n := by
  refine flatMap_le _ _ _ fun i _ => ?_
  split
  · exact rC_len _ _ _ _
  · exact Nat.zero_le _
theorem rA_len (E : List Ed) (n a : Nat) : (rA E n a).length ≤ a * (n * n) := flatMap_le _ _ _ fun _ _ => rB_len _ _ _ _
theorem all_len (E : List Ed) {n a b c : Nat} (hn : n ≤ 4096) (ha : a ≤ n) (hb : b ≤ n) (hc : c ≤ n) : (rA E n a ++ rB E n a b ++ rC E a b c).length ≤ 69000000000 := by
  have h1 := rA_len E n a
  have h2 := rB_len E n a b
  have h3 := rC_len E a b c
  have m1 : n * n ≤ 4096 * 4096 := Nat.mul_le_mul hn hn
  have m2 : a * (n * n) ≤ 4096 * (4096 * 4096) := Nat.mul_le_mul (by omega) m1
  have m3 : b * n ≤ 4096 * 4096 := Nat.mul_le_mul (by omega) hn
  rw [List.length_append, List.length_append]
  omega
/-- a row of triangles that the call owns -/
def OwnT (base : Nat) (v : Value) (l : List (Int × Int × Int)) (w : World) : Prop := w.ownsRow base 56 3 v l.length (flat (tC l) l.length 3)
theorem OwnT.nil (base : Nat) (w : World) : OwnT base (.slice none 0 0) [] w := World.ownsRow_nil _ _ _ _
theorem OwnT.snoc {base g cp : Nat} {l : List (Int × Int × Int)} {x y z : Int} {w : World} (h : w.ownsRow base 56 3 (.slice (some ⟨g, 0, none⟩) (l.length + 1 : Nat) cp) (l.length + 1) (flat (tC l) l.length 3 ++ #[Value.int .i64 x, .int .i64 y, .int .i64 z].toList)) :
    OwnT base (.slice (some ⟨g, 0, none⟩) (l.length + 1 : Nat) cp) (l ++ [(x, y, z)]) w := by
  rw [OwnT, tC_snoc, List.length_append, List.length_singleton]; exact h
theorem OwnT.mono {base base' : Nat} {v : Value} {l : List (Int × Int × Int)} {w : World} (h : OwnT base v l w) (hb : base' ≤ base) : OwnT base' v l w := by
  refine ⟨h.1, ?_⟩
  rcases h.2 with h1 | ⟨g, cap, cur, h1, h2, h3⟩
  · exact .inl h1
  · exact .inr ⟨g, cap, cur, h1, Nat.le_trans hb h2, h3⟩
def RAll (o : Option (Nat × List Ed)) (w : World) (e : Ending) (w' : World) : Prop := ∃ v, e = .returned v ∧ OwnT w.heap.size v (tri o) w' ∧ Below w.heap.size w w'
theorem rA_all {o : Option (Nat × List Ed)} (h : GoG o) : rA (gE o) (gN o) (gN o) = tri o := by
  cases o with
  | none => rfl
  | some x => exact rA_tri h

set_option maxRecDepth 100000 in
set_option maxHeartbeats 2000000 in
theorem rall_any (B : Nat) (x : Value) (o : Option (Nat × List Ed)) (w : World) (h : RG w B x o) (hB : B ≤ w.heap.size) :
    Calls Try.prog 31 #[x] w (RAll o w) := by
  have hg := h.good
  have hn := hg.n_le
  have HT := Lib.hid (rA_all hg)
  have HM := Lib.hid (rmatrix_any B x o w h hB)
  clear h
  go_enter Try.func31, Try.ntmps31
  go_wp2_with fail
  refine HM.out.mono ?_
  rintro e w1 ⟨v, rb, rfl, hM, hb1⟩
  obtain ⟨la, lc, rfl⟩ := own_len hM.own
  have hs1 := hb1.size
  have M := Lib.hid hM
  clear hM HM
  generalize gE o = E at *
  generalize gN o = n at *
  go_wp2_with fail
  go_loopw [3, 5, 6, 7] (fun t i _ _ wr => ∃ a : Nat, a ≤ n ∧ i = .int .i64 a ∧ OwnT w1.heap.size t (rA E n a) wr ∧ Below w1.heap.size w1 wr) (fun _ i _ _ _ => n - (intOf i).toNat)
  case atStart => exact ⟨0, Nat.zero_le _, rfl, OwnT.nil _ _, Below.refl _ _⟩
  case round =>
    obtain ⟨a, ha, rfl, hown, bel⟩ := hrel
    by_cases hlt : a < n
    · have hown2 : OwnT w1.heap.size u3 (rA E n a ++ rB E n a (a + 1)) wr := by rw [rB_start, List.append_nil]; exact hown
      clear hown
      go_wp2_with fail
      go_loopw [3, 6, 7] (fun t i _ wr => ∃ b : Nat, a < b ∧ b ≤ n ∧ i = .int .i64 b ∧ OwnT w1.heap.size t (rA E n a ++ rB E n a b) wr ∧ Below w1.heap.size w1 wr) (fun _ i _ _ => n - (intOf i).toNat)
      case atStart => exact ⟨a + 1, by omega, by omega, by go_num, hown2, bel⟩
      case round =>
        clear bel hown2
        obtain ⟨b, hab, hb, rfl, hown, bel⟩ := hrel
        by_cases hlb : b < n
        · obtain ⟨p, hp1, hp2, -⟩ := (M.out.below bel).outer hlt
          have r1 := ((M.out.below bel).row a hlt).cell hlb
          cases hq : nearB E (a : Int) (b : Int) with
          | false =>
            rw [hq] at r1
            have HB := Lib.hid (show rB E n a (b + 1) = rB E n a b by rw [rB_succ E n a b hab, if_neg (by unfold nb; rw [hq]; decide)])
            clear hq
            go_wp2_with fail
            go_roundw
            case rel => exact ⟨b + 1, by omega, by omega, by go_num, by rw [HB.out]; exact hown, bel⟩
            case measure => simp only [intOf]; omega
          | true =>
            rw [hq] at r1
            have HB := Lib.hid (show rB E n a (b + 1) = rB E n a b ++ rC E a b n by rw [rB_succ E n a b hab, if_pos (by unfold nb; rw [hq])])
            clear hq
            have hown2 : OwnT w1.heap.size u3 (rA E n a ++ rB E n a b ++ rC E a b (b + 1)) wr := by rw [rC_start, List.append_nil]; exact hown
            clear hown
            go_wp2_with fail
            go_loopw [3, 7] (fun t i wr => ∃ c : Nat, b < c ∧ c ≤ n ∧ i = .int .i64 c ∧ OwnT w1.heap.size t (rA E n a ++ rB E n a b ++ rC E a b c) wr ∧ Below w1.heap.size w1 wr) (fun _ i _ => n - (intOf i).toNat)
            case atStart => exact ⟨b + 1, by omega, by omega, by go_num, hown2, bel⟩
            case round =>
              clear hown2 bel hp1 hp2 r1
              obtain ⟨c, hbc, hc, rfl, hown, bel⟩ := hrel
              by_cases hlc : c < n
              · obtain ⟨p, hp1, hp2, -⟩ := (M.out.below bel).outer hlt
                obtain ⟨q, hq1, hq2, -⟩ := (M.out.below bel).outer hlb
                have r1 := ((M.out.below bel).row a hlt).cell hlc
                have r2 := ((M.out.below bel).row b hlb).cell hlc
                have hCs := rC_succ E a b c hbc
                unfold nb at hCs
                have hsr := bel.size
                have hlen := all_len E (a := a) (b := b) (c := c) hn (by omega) hb hc
                generalize nearB E (a : Int) (c : Int) = f1 at *
                generalize nearB E (b : Int) (c : Int) = f2 at *
                cases f1 with
                | false =>
                  have HC := Lib.hid (show rC E a b (c + 1) = rC E a b c by rw [hCs]; rfl)
                  clear hCs
                  go_wp2_with fail
                  go_roundw
                  case rel => exact ⟨c + 1, by omega, by omega, by go_num, by rw [HC.out]; exact hown, bel⟩
                  case measure => simp only [intOf]; omega
                | true =>
                  cases f2 with
                  | false =>
                    have HC := Lib.hid (show rC E a b (c + 1) = rC E a b c by rw [hCs]; rfl)
                    clear hCs
                    go_wp2_with fail
                    go_roundw
                    case rel => exact ⟨c + 1, by omega, by omega, by go_num, by rw [HC.out]; exact hown, bel⟩
                    case measure => simp only [intOf]; omega
                  | true =>
                    have HC := Lib.hid (show rC E a b (c + 1) = rC E a b c ++ [((a : Int), (b : Int), (c : Int))] by rw [hCs]; rfl)
                    obtain ⟨P, hP⟩ : ∃ P, rA E n a ++ rB E n a b ++ rC E a b c = P := ⟨_, rfl⟩
                    have HP := Lib.hid hP
                    rw [hP] at hown hlen
                    have hown' : wr.ownsRow w1.heap.size 56 3 u3 P.length (flat (tC P) P.length 3) := hown
                    clear hCs hP hown
                    go_wp2_with (at_builtin; refine push etT rfl _ _ rfl w1.heap.size _ _ _ hown' rfl #[.int .i64 a, .int .i64 b, .int .i64 c] _ rfl rfl rfl (by simp [Value.oneCell']) (by omega) (by omega) bel.size ?_; intro g cp w6 hown6 hg6 hv6)
                    have bel6 : Below w1.heap.size w1 w6 := bel.grown hg6 bel.size (fun j e => (hown'.lt j e).1)
                    go_roundw
                    case rel => exact ⟨c + 1, by omega, by omega, by go_num, by rw [HC.out, ← List.append_assoc, HP.out]; exact OwnT.snoc hown6, bel6⟩
                    case measure => simp only [intOf]; omega
              · obtain rfl : c = n := by omega
                go_wp2_with fail
                go_roundw
                case rel => exact ⟨b + 1, by omega, by omega, by go_num, by rw [HB.out, ← List.append_assoc]; exact hown, bel⟩
                case measure => simp only [intOf]; omega
        · obtain rfl : b = n := by omega
          have HA := Lib.hid (rA_succ E b a)
          go_wp2_with fail
          go_roundw
          case rel => exact ⟨a + 1, by omega, by go_num, by rw [HA.out]; exact hown, bel⟩
          case measure => simp only [intOf]; omega
    · obtain rfl : a = n := by omega
      go_wp2_with fail
      go_ret
      exact ⟨_, rfl, by rw [← HT.out]; exact hown.mono hs1, stepB0 hb1 bel⟩
end Go.Proofs.Ytjdpkjjlcbgnbaa
