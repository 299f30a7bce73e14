/- The walk of some of the statements about kruskal; the edges up to a weight. Conditions: the indexes exist. -/
import Derived.Test.YtbmcflmflmlmaaaSmE
import Derived.Test.YtbmcflmflmlmaaaGrL
import Derived.Test.YtbmcflmflmlmaaaSwD
namespace Go.Proofs.Ytbmcflmflmlmaaa
open Go.RowKit

theorem someE_all (E : List Ed) : someE E (List.range E.length) = E := by
  apply List.ext_getElem
  · simp [someE]
  · intro i h1 h2
    simp only [someE, List.getElem_map, List.getElem_range]
    exact eAt_eq h2
theorem und_some (E : List Ed) (p : List Nat) (θ : Int) : undE (someE E p) θ = someE E (p.filter (leW E θ)) := by
  unfold undE someE
  rw [List.filter_map]
  rfl
theorem und_all (E : List Ed) (θ : Int) : undE E θ = someE E ((List.range E.length).filter (leW E θ)) := by
  rw [← und_some, someE_all]
/-- the forest has the components of each threshold -/
theorem thr_same {E : List Ed} {o : List Nat} (ho : OrdOf E o) (θ : Int) : labO (undE (someE E (frs E o)) θ) (List.range (undE (someE E (frs E o)) θ).length) = labO (undE E θ) (List.range (undE E θ).length) := by
  rw [und_some, someE_lab, und_all, someE_lab]
  have h1 : labO E ((List.range E.length).filter (leW E θ)) = labO E (o.filter (leW E θ)) := labO_set fun i => by
    rw [List.mem_filter, List.mem_filter, List.mem_range, ho.mem]
  rw [h1]
  unfold labO
  refine labL_same fun a b => ?_
  rw [← ci_cn, ← ci_cn]
  have hd := ci_down (S := fun i => leW E θ i = true) (a := a) (b := b) ho.sorted (fun i l hi hl => by
    unfold leW at *
    simp only [decide_eq_true_eq] at *
    unfold ltE at hl; omega)
  exact ⟨fun h => (hd.1 (h.mono fun i hi => List.mem_filter.1 hi)).mono fun i hi => List.mem_filter.2 hi, fun h => (hd.2 (h.mono fun i hi => List.mem_filter.1 hi)).mono fun i hi => List.mem_filter.2 hi⟩
/-- what some answers -/
def SomRes (E : List Ed) (p : List Nat) (w : World) (e : Ending) (w' : World) : Prop := ∃ v, e = .returned v ∧ OwnE w.heap.size v (someE E p) w' ∧ Below w.heap.size w w'
set_option maxRecDepth 100000 in
set_option maxHeartbeats 2000000 in
theorem some_any (a pa : Option Addr) (cap pc : Nat) (A PA : Nat → Addr) (E : List Ed) (p : List Nat) (w : World) (hS : ES w w.heap.size (.slice a E.length cap) E A) (hP : Rd 24 1 w w.heap.size (.slice pa p.length pc) p.length (nums .i64 (intsN p)) PA) (hp : ∀ i, i ∈ p → i < E.length) (hl : p.length ≤ 16384) :
    Calls Try.prog 26 #[.slice a E.length cap, .slice pa p.length pc] w (SomRes E p w) := by
  have HS := Lib.hid hS; have HP := Lib.hid hP; have HPm := Lib.hid hp
  clear hS hP hp
  go_enter Try.func26, Try.ntmps26
  go_wp2_with fail
  go_loopw [5, 6] (fun v iv wr => ∃ q : Nat, q ≤ p.length ∧ iv = .int .i64 (q : Nat) ∧ Hid (OwnE w.heap.size v (someE E (p.take q)) wr) ∧ Below w.heap.size w wr) (fun _ iv _ => p.length - (intOf iv).toNat)
  case atStart => exact ⟨0, Nat.zero_le _, rfl, Lib.hid (OwnE.nil _ _), Below.refl _ _⟩
  case round =>
    obtain ⟨q, hq, rfl, HO, bel⟩ := hrel
    by_cases hlt : q < p.length
    · obtain ⟨x, hx⟩ : ∃ x, p.getD q 0 = x := ⟨_, rfl⟩
      have hxl : x < E.length := HPm.out x (by rw [← hx, List.getD_eq_getElem?_getD, List.getElem?_eq_getElem hlt]; exact List.getElem_mem _)
      have ix := HP.out.ix q hlt
      have c0 := (HP.out.below bel).cell q hlt 0 (by omega)
      rw [add_zero] at c0
      unfold nums at c0
      rw [intsN_nth, hx] at c0
      have i1 := HS.out.ix x hxl
      have hEr := HS.out.below bel
      have e0 := ES.u hEr hxl
      have e1 := ES.v hEr hxl
      have e2 := ES.w hEr hxl
      obtain ⟨u, hu⟩ : ∃ z, (eAt E x).u = z := ⟨_, rfl⟩
      obtain ⟨v, hv⟩ : ∃ z, (eAt E x).v = z := ⟨_, rfl⟩
      obtain ⟨y, hy⟩ : ∃ z, (eAt E x).w = z := ⟨_, rfl⟩
      have HT := Lib.hid (show someE E (p.take (q + 1)) = someE E (p.take q) ++ [⟨u, v, y⟩] by
        rw [take_snocN hlt, someE_snoc, hx, ← hu, ← hv, ← hy])
      rw [hu] at e0; rw [hv] at e1; rw [hy] at e2
      have d1 : decide ((x : Int) < 0) = false := decide_eq_false (by omega)
      have d2 : decide ((x : Int) ≥ (E.length : Int)) = false := decide_eq_false (by omega)
      have d3 : decide (E.length ≤ x) = false := decide_eq_false (by omega)
      have hqv : (0 : Int) ≤ q ∧ (q : Int) < p.length := by omega
      have hxv : (0 : Int) ≤ x ∧ (x : Int) < E.length := by omega
      have hln : (someE E (p.take q)).length ≤ 16384 := by rw [someE_len, List.length_take]; omega
      have hown := HO.out
      unfold OwnE at hown
      have hsz := bel.size
      clear hx hEr hu hv hy HO
      go_wp2_with (at_builtin; refine push etE rfl _ _ rfl w.heap.size _ _ _ hown rfl #[.int .i64 u, .int .i64 v, .int .i64 y] _ rfl rfl rfl (by simp [Value.oneCell']) (by omega) (by omega) hsz ?_; intro g cp w5 hown5 hg5 hv5)
      have hb5 : Below w.heap.size w w5 := bel.grown hg5 hsz (fun j e => (hown.lt j e).1)
      go_roundw
      case rel =>
        refine ⟨q + 1, by omega, by go_num, Lib.hid ?_, hb5⟩
        rw [HT.out]
        exact OwnE.snoc (x := ⟨u, v, y⟩) hown5
      case measure => simp only [intOf]; omega
    · obtain rfl : q = p.length := by omega
      have hO := HO.out
      rw [List.take_length] at hO
      have HO2 := Lib.hid hO
      clear hO HO
      go_wp2_with fail
      go_ret
      exact ⟨_, rfl, HO2.out, bel⟩
end Go.Proofs.Ytbmcflmflmlmaaa
