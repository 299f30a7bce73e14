/- The walk of the document's New. Conditions: at most 8192 parents are given as cells. -/
import Derived.Test.YtbjakjgabolkeaaDoorBoth
namespace Go.Proofs.YtbjakjgabolkeaaDoor
open Go.RowKit Go.Shelf

theorem anc_in {p : List Int} (hR : InRange p) : ∀ (s v x : Nat), v < p.length → anc p s v = some x → x < p.length := by
  intro s
  induction s with
  | zero => intro v x hv h; cases h; exact hv
  | succ s ih =>
    intro v x hv h
    rw [anc_succ] at h
    cases h2 : anc p s v with
    | none => rw [h2] at h; cases h
    | some y => rw [h2] at h; exact hR.lt h
theorem anc_over {p : List Int} {s k v : Nat} (h : anc p s v = none) (hk : s ≤ k) : anc p k v = none := by
  obtain ⟨j, rfl⟩ : ∃ j, k = s + j := ⟨k - s, by omega⟩
  rw [anc_add, h]; rfl
/-- if from no node one gets far, it is a forest -/
theorem tree_of_short {p : List Int} (hR : InRange p) (h : ∀ v, v < p.length → anc p (p.length + 1) v = none) : Tree p := by
  refine tree_of_rank (fun v => ((List.range (p.length + 2)).filter fun k => (anc p k v).isSome).length) (fun v u hp => ?_)
  have hu := hR.lt hp
  refine ⟨hu, ?_⟩
  have e1 : ((List.range (p.length + 2)).filter fun k => (anc p k v).isSome).length = 1 + ((List.range (p.length + 1)).filter fun k => (anc p k u).isSome).length := by
    rw [List.range_succ_eq_map, List.filter_cons, if_pos (by rfl), List.filter_map, List.length_cons, List.length_map, Nat.add_comm]
    have : ((fun k => (anc p k v).isSome) ∘ Nat.succ) = fun k => (anc p k u).isSome := by
      funext k
      show (anc p (k + 1) v).isSome = _
      rw [anc_succ', hp]; rfl
    rw [this]
  have e2 : ((List.range (p.length + 2)).filter fun k => (anc p k u).isSome).length = ((List.range (p.length + 1)).filter fun k => (anc p k u).isSome).length := by
    rw [show p.length + 2 = (p.length + 1) + 1 from rfl, List.range_succ, List.filter_append, List.length_append]
    simp [h u hu]
  rw [e1, e2]; omega
theorem newE_far {p : List Int} (h8 : p.length ≤ 8192) (hR : InRange p) {v x : Nat} (hv : v < p.length) (h : anc p (p.length + 1) v = some x) : newE p = 9 := by
  have h2 : ¬ treeB p = true := by
    rw [treeB_iff]
    intro F
    have h3 := anc_d F hv h
    have h4 := dep_lt F hv
    omega
  unfold newE
  rw [if_neg (by omega), if_pos (inRB_iff.2 hR), if_neg h2]
theorem newE_good {p : List Int} (h8 : p.length ≤ 8192) (hR : InRange p) (F : Tree p) : newE p = 0 := by
  unfold newE
  rw [if_neg (by omega), if_pos (inRB_iff.2 hR), if_pos (treeB_iff.2 F)]
theorem newE_range {p : List Int} (h8 : p.length ≤ 8192) (hR : ¬ InRange p) : newE p = 3 := by
  unfold newE
  rw [if_neg (by omega), if_neg (fun h => hR (inRB_iff.1 h))]
/-- what the document's New leaves -/
def RefPost (p : List Int) (w : World) (e : Ending) (w' : World) : Prop :=
  Below w.heap.size w w' ∧ ((newE p = 0 ∧ ∃ c, e = .returned (.tuple #[.pointer (some ⟨c, 0, none⟩), .int .i64 0]) ∧ ∀ W', (∀ k, w.heap.size ≤ k → k < w'.heap.size → W'.heap[k]? = w'.heap[k]?) → RefAt W' w'.heap.size c p) ∨ (newE p ≠ 0 ∧ e = .returned (.tuple #[.pointer none, .int .i64 (newE p)])))

set_option maxHeartbeats 1000000 in
theorem ref_range (B : Nat) (a : Option Addr) (cap : Nat) (A : Nat → Addr) (p : List Int) (w : World) (hp : p.length ≤ 8192) (hR : ¬ InRange p) (hS : Sl 25 .i64 w B (.slice a p.length cap) p A) :
    Calls Tryd.prog 21 #[.slice a p.length cap] w (RefPost p w) := by
  have hE := newE_range hp hR
  have HE := Lib.hid hE
  clear hE
  go_enter Tryd.func21, Tryd.ntmps21
  go_wp2
  go_loop [4] (fun i => ∃ k : Nat, k ≤ p.length ∧ i = .int .i64 k ∧ ∀ i, i < k → -1 ≤ nth p i ∧ nth p i < p.length) (fun i => p.length - (intOf i).toNat)
  case atStart => exact ⟨0, Nat.zero_le _, rfl, fun i hi => absurd hi (by omega)⟩
  case round =>
    obtain ⟨k, hk, rfl, hall⟩ := hrel
    by_cases hlt : k < p.length
    · have hix := hS.ix k hlt
      have hc := hS.cell k hlt
      have HA := Lib.hid hall
      clear hall
      by_cases h1 : nth p k < -1
      · go_wp2
        go_ret2
        exact ⟨Below.refl _ _, .inr ⟨by rw [HE.out]; decide, by rw [HE.out]; rfl⟩⟩
      · have h1' : -1 ≤ nth p k := by omega
        by_cases h2 : (p.length : Int) ≤ nth p k
        · clear h1
          go_wp2
          go_ret2
          exact ⟨Below.refl _ _, .inr ⟨by rw [HE.out]; decide, by rw [HE.out]; rfl⟩⟩
        · have h2' : nth p k < p.length := by omega
          clear h1 h2
          go_wp2
          go_round
          case rel =>
            refine ⟨k + 1, by omega, by go_num, fun i hi => ?_⟩
            by_cases e : i = k
            · subst e; exact ⟨h1', h2'⟩
            · exact HA.out i (by omega)
          case measure => simp [intOf]; omega
    · obtain rfl : k = p.length := by omega
      exact absurd hall hR

set_option maxHeartbeats 2000000 in
theorem ref_in (B : Nat) (a : Option Addr) (cap : Nat) (A : Nat → Addr) (p : List Int) (w : World) (hp : p.length ≤ 8192) (hR : InRange p) (hS : Sl 25 .i64 w B (.slice a p.length cap) p A) (hB : B ≤ w.heap.size) :
    Calls Tryd.prog 21 #[.slice a p.length cap] w (RefPost p w) := by
  have HR := Lib.hid hR
  clear hR
  go_enter Tryd.func21, Tryd.ntmps21
  go_wp2
  go_loop [4] (fun i => ∃ k : Nat, k ≤ p.length ∧ i = .int .i64 k) (fun i => p.length - (intOf i).toNat)
  case atStart => exact ⟨0, Nat.zero_le _, rfl⟩
  case round =>
    obtain ⟨k, hk, rfl⟩ := hrel
    by_cases hlt : k < p.length
    · have hix := hS.ix k hlt
      have hc := hS.cell k hlt
      obtain ⟨h1, h2⟩ := HR.out k hlt
      go_wp2
      go_round
      case rel => exact ⟨k + 1, by omega, by go_num⟩
      case measure => simp [intOf]; omega
    · obtain rfl : k = p.length := by omega
      go_wp2_with (at_builtin; refine copiedAny et25 rfl _ _ rfl hS hB rfl _ rfl rfl rfl (by omega) (by omega) ?_; intro g cp w1 hg R1 D1)
      have R2 := R1.alloc (.cells #[.bool true, .slice (some ⟨g, 0, none⟩) p.length cp] 69)
      have D2 := D1.alloc D1.size (.cells #[.bool true, .slice (some ⟨g, 0, none⟩) p.length cp] 69)
      have c1 : (w1.alloc (.cells #[.bool true, .slice (some ⟨g, 0, none⟩) p.length cp] 69)).cell? ⟨w1.heap.size, 0, none⟩ = some (.bool true) := by go_simp
      have c2 : (w1.alloc (.cells #[.bool true, .slice (some ⟨g, 0, none⟩) p.length cp] 69)).cell? ⟨w1.heap.size, 1, none⟩ = some (.slice (some ⟨g, 0, none⟩) p.length cp) := by go_simp
      have hc : w1.heap.size < (w1.alloc (.cells #[.bool true, .slice (some ⟨g, 0, none⟩) p.length cp] 69)).heap.size := by simp
      obtain ⟨_, A2, S2⟩ := Sl.ownAt R2
      have hgl := (R2.lt g rfl).2
      have hcg : ∀ i, i < p.length → (w1.alloc (.cells #[.bool true, .slice (some ⟨g, 0, none⟩) p.length cp] 69)).cell? ⟨g, i, none⟩ = some (.int .i64 (nth p i)) := fun i hi => (R2.cellAt i (by omega)).trans (by simp [nth, hi])
      have hlo := D1.size
      have hS2 := hS.below (D2.mono hB)
      clear R1 R2 D1
      generalize (w1.alloc (.cells #[.bool true, .slice (some ⟨g, 0, none⟩) p.length cp] 69)) = W2 at *
      go_loop [6] (fun i => ∃ v : Nat, v ≤ p.length ∧ i = .int .i64 v ∧ ∀ u, u < v → anc p (p.length + 1) u = none) (fun i => p.length - (intOf i).toNat)
      case atStart => exact ⟨0, Nat.zero_le _, rfl, fun u hu => absurd hu (by omega)⟩
      case round =>
        obtain ⟨v, hv, rfl, hall⟩ := hrel
        by_cases hvl : v < p.length
        · have HA := Lib.hid hall
          clear hall
          go_wp2
          go_loop [7, 8] (fun x s => ∃ q : Nat, q ≤ p.length + 1 ∧ s = .int .i64 q ∧ x = .int .i64 (oi (anc p q v))) (fun _ s => p.length + 1 - (intOf s).toNat)
          case atStart => exact ⟨0, Nat.zero_le _, rfl, rfl⟩
          case round =>
            obtain ⟨q, hq, rfl, rfl⟩ := hrel
            cases hx : anc p q v with
            | none =>
              rw [show oi none = (-1 : Int) from rfl]
              have HN := Lib.hid (show ∀ u, u < v + 1 → anc p (p.length + 1) u = none from fun u hu => by
                by_cases e : u = v
                · subst e; exact anc_over hx hq
                · exact HA.out u (by omega))
              clear hx
              go_wp2
              go_round
              case rel => exact ⟨v + 1, by omega, by go_num, HN.out⟩
              case measure => simp [intOf]; omega
            | some x =>
              have hxl := anc_in HR.out q v x hvl hx
              rw [show oi (some x) = (x : Int) from rfl]
              by_cases hql : q ≤ p.length
              · have hnx := nth_pa hxl HR.out
                have hst : anc p (q + 1) v = pa p x := by rw [anc_succ, hx]; rfl
                have ix := hS2.ix x hxl
                have ce := hS2.cell x hxl
                rw [hnx, ← hst] at ce
                clear hx hnx hst
                go_wp2
                go_round
                case rel => exact ⟨q + 1, by omega, by go_num, rfl⟩
                case measure => simp [intOf]; omega
              · obtain rfl : q = p.length + 1 := by omega
                have HE := Lib.hid (newE_far hp HR.out hvl hx)
                clear hx
                go_wp2
                go_ret2
                exact ⟨D2, .inr ⟨by rw [HE.out]; decide, by rw [HE.out]; rfl⟩⟩
        · obtain rfl : v = p.length := by omega
          have F := Lib.hid (tree_of_short HR.out hall)
          clear hall
          go_wp2
          go_ret2
          exact ⟨D2, .inl ⟨newE_good hp HR.out F.out, w1.heap.size, rfl, fun W' hW => ⟨F.out, HR.out, hp, hc, (World.cell?_of_block (hW _ hlo hc)).trans c1, _, _, _, (World.cell?_of_block (hW _ hlo hc)).trans c2,
            Sl.addr et25 rfl hgl (fun i hi => by
              have e : (⟨g, 0, none⟩ : Addr).add i = ⟨g, i, none⟩ := by unfold Addr.add; split <;> simp_all
              rw [e]; exact (World.cell?_of_block (hW _ hg hgl)).trans (hcg i hi))⟩⟩⟩
end Go.Proofs.YtbjakjgabolkeaaDoor
