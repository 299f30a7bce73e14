/- The document's forest: joined and grown. Conditions: the edges are accepted; their number is bounded. -/
import Derived.Test.YtbmcflmflmlmaaaROrd
import Derived.Test.YtbmcflmflmlmaaaFst
namespace Go.Proofs.Ytbmcflmflmlmaaa
open Go.RowKit

/-- labels as a list -/
def labs (n : Nat) (f : Nat → Nat) : List Nat := (List.range n).map f
theorem labs_len (n : Nat) (f : Nat → Nat) : (labs n f).length = n := by simp [labs]
theorem labs_succ (n : Nat) (f : Nat → Nat) : labs (n + 1) f = labs n f ++ [f n] := by simp [labs, List.range_succ]
theorem labs_at {n i : Nat} {f : Nat → Nat} (h : i < n) : (labs n f).getD i 0 = f i := by simp [labs, List.getD, h]
theorem joinF_a {f : Nat → Nat} {x y i : Nat} (hi' : f i = max (f x) (f y)) : joinF f x y i = min (f x) (f y) := by unfold joinF; rw [if_pos hi']
theorem joinF_b {f : Nat → Nat} {x y i : Nat} (hi' : ¬ f i = max (f x) (f y)) : joinF f x y i = f i := by unfold joinF; rw [if_neg hi']
/-- labels in memory, as they are read -/
abbrev LabR (w : World) (B : Nat) (v : Value) (n : Nat) (f : Nat → Nat) (A : Nat → Addr) : Prop := Rd 24 1 w B v n (nums .i64 (intsN (labs n f))) A
theorem lab_cell {w : World} {B n : Nat} {v : Value} {f : Nat → Nat} {A : Nat → Addr} (h : LabR w B v n f A) {i : Nat} (hi : i < n) : w.cell? (A i) = some (.int .i64 ((f i : Nat) : Int)) := by
  have h1 := h.cell i hi 0 (by omega)
  rw [add_zero] at h1
  rw [h1]
  unfold nums
  rw [intsN_nth, labs_at hi]
/-- labels that a call has laid -/
def LabO (base : Nat) (v : Value) (n : Nat) (f : Nat → Nat) (w : World) : Prop := w.ownsRow base 3 1 v n ((intsN (labs n f)).map (Value.int .i64))
theorem LabO.rd {base n : Nat} {v : Value} {f : Nat → Nat} {w : World} (h : LabO base v n f w) : ∃ a cap A, v = .slice a n cap ∧ LabR w w.heap.size (.slice a n cap) n f A := by
  have h0 : OwnI base v (labs n f) w := by unfold OwnI; rw [labs_len]; exact h
  obtain ⟨a, cap, A, e1, e2⟩ := ownI_rd h0
  rw [labs_len] at e1 e2
  exact ⟨a, cap, A, e1, e2⟩
def JoinRes (n : Nat) (f : Nat → Nat) (x y : Nat) (w : World) (e : Ending) (w' : World) : Prop :=
  ∃ v, e = .returned v ∧ LabO w.heap.size v n (joinF f x y) w' ∧ Below w.heap.size w w'
set_option maxRecDepth 100000 in
set_option maxHeartbeats 4000000 in
theorem rjoined_any (B : Nat) (a : Option Addr) (cap n : Nat) (A : Nat → Addr) (f : Nat → Nat) (x y : Nat) (w : World) (hR : LabR w B (.slice a n cap) n f A) (hB : B ≤ w.heap.size) (hx : x < n) (hy : y < n) (hn : n ≤ 1000000) :
    Calls Try.prog 70 #[.slice a n cap, .int .i64 (x : Nat), .int .i64 (y : Nat)] w (JoinRes n f x y w) := by
  have HR := Lib.hid hR
  have ix := hR.ix x hx
  have iy := hR.ix y hy
  have cx := lab_cell hR hx
  have cy := lab_cell hR hy
  obtain ⟨p, hp⟩ : ∃ p, f x = p := ⟨_, rfl⟩
  obtain ⟨q, hq⟩ : ∃ q, f y = q := ⟨_, rfl⟩
  rw [hp] at cx; rw [hq] at cy
  have HP := Lib.hid hp; have HQ := Lib.hid hq
  clear hR hp hq
  by_cases hpq : q < p
  · have d1 : decide ((p : Int) > (q : Int)) = true := decide_eq_true (by omega)
    have d2 : decide (q < p) = true := decide_eq_true hpq
    have HMX := Lib.hid (show p = max (f x) (f y) by rw [HP.out, HQ.out]; omega)
    have HMN := Lib.hid (show q = min (f x) (f y) by rw [HP.out, HQ.out]; omega)
    clear hpq
    go_enter Try.func70, Try.ntmps70
    go_wp2_with fail
    go_quiet (fail)
    go_wp2_with fail
    go_loopw [9, 10] (fun v iv wr => ∃ i : Nat, i ≤ n ∧ iv = .int .i64 (i : Nat) ∧ Hid (wr.ownsRow w.heap.size 3 1 v i ((intsN (labs i (joinF f x y))).map (Value.int .i64))) ∧ Below w.heap.size w wr) (fun _ iv _ => n - (intOf iv).toNat)
    case atStart => exact ⟨0, Nat.zero_le _, rfl, Lib.hid (World.ownsRow_nil _ _ _ _), below_drewN (Below.refl _ _) _⟩
    case round =>
      clear ix iy cx cy d1 d2
      obtain ⟨i, hi, rfl, HO, bel⟩ := hrel
      by_cases hlt : i < n
      · have hown := HO.out
        have hsz := bel.size
        have hRr := HR.out.below (bel.mono hB)
        have i0 := hRr.ix i hlt
        have c0 := lab_cell hRr hlt
        obtain ⟨z, hz⟩ : ∃ z, f i = z := ⟨_, rfl⟩
        rw [hz] at c0
        have hii : (0 : Int) ≤ i ∧ (i : Int) < n := by omega
        by_cases hc : z = p
        · have HJ := Lib.hid (show intsN (labs (i + 1) (joinF f x y)) = intsN (labs i (joinF f x y)) ++ [((q : Nat) : Int)] by rw [labs_succ, intsN_snoc, joinF_a (hi' := hz.trans (hc.trans HMX.out)), ← HMN.out])
          have e1 : ((z : Int) == ((p : Nat) : Int)) = true := by simp [hc]
          clear HO hRr hz hc
          go_wp2_with (at_builtin; refine push etI rfl _ _ rfl w.heap.size _ _ _ hown rfl #[.int .i64 (q : Nat)] _ rfl rfl rfl (by simp [Value.oneCell']) (by omega) (by omega) hsz ?_; intro g cp w5 hown5 hg5 hv5)
          have hb5 : Below w.heap.size wr w5 := (Below.refl _ wr).grown hg5 hsz (fun j e => (hown.lt j e).1)
          go_roundw
          case rel => exact ⟨i + 1, by omega, by go_num, by rw [HJ.out, List.map_append]; exact Lib.hid hown5, bel.trans hb5⟩
          case measure => simp only [intOf]; omega
        · have HJ := Lib.hid (show intsN (labs (i + 1) (joinF f x y)) = intsN (labs i (joinF f x y)) ++ [((z : Nat) : Int)] by rw [labs_succ, intsN_snoc, joinF_b (hi' := fun e => hc (hz.symm.trans (e.trans HMX.out.symm))), hz])
          have e1 : ((z : Int) == ((p : Nat) : Int)) = false := by simp; omega
          clear HO hRr hz hc
          go_wp2_with (at_builtin; refine push etI rfl _ _ rfl w.heap.size _ _ _ hown rfl #[.int .i64 (z : Nat)] _ rfl rfl rfl (by simp [Value.oneCell']) (by omega) (by omega) hsz ?_; intro g cp w5 hown5 hg5 hv5)
          have hb5 : Below w.heap.size wr w5 := (Below.refl _ wr).grown hg5 hsz (fun j e => (hown.lt j e).1)
          go_roundw
          case rel => exact ⟨i + 1, by omega, by go_num, by rw [HJ.out, List.map_append]; exact Lib.hid hown5, bel.trans hb5⟩
          case measure => simp only [intOf]; omega
      · obtain rfl : i = n := by omega
        go_wp2_with fail
        go_ret
        exact ⟨_, rfl, HO.out, bel⟩
  · have d1 : decide ((p : Int) > (q : Int)) = false := decide_eq_false (by omega)
    have d2 : decide (q < p) = false := decide_eq_false hpq
    have HMX := Lib.hid (show q = max (f x) (f y) by rw [HP.out, HQ.out]; omega)
    have HMN := Lib.hid (show p = min (f x) (f y) by rw [HP.out, HQ.out]; omega)
    clear hpq
    go_enter Try.func70, Try.ntmps70
    go_wp2_with fail
    go_quiet (fail)
    go_wp2_with fail
    go_loopw [9, 10] (fun v iv wr => ∃ i : Nat, i ≤ n ∧ iv = .int .i64 (i : Nat) ∧ Hid (wr.ownsRow w.heap.size 3 1 v i ((intsN (labs i (joinF f x y))).map (Value.int .i64))) ∧ Below w.heap.size w wr) (fun _ iv _ => n - (intOf iv).toNat)
    case atStart => exact ⟨0, Nat.zero_le _, rfl, Lib.hid (World.ownsRow_nil _ _ _ _), below_drewN (Below.refl _ _) _⟩
    case round =>
      clear ix iy cx cy d1 d2
      obtain ⟨i, hi, rfl, HO, bel⟩ := hrel
      by_cases hlt : i < n
      · have hown := HO.out
        have hsz := bel.size
        have hRr := HR.out.below (bel.mono hB)
        have i0 := hRr.ix i hlt
        have c0 := lab_cell hRr hlt
        obtain ⟨z, hz⟩ : ∃ z, f i = z := ⟨_, rfl⟩
        rw [hz] at c0
        have hii : (0 : Int) ≤ i ∧ (i : Int) < n := by omega
        by_cases hc : z = q
        · have HJ := Lib.hid (show intsN (labs (i + 1) (joinF f x y)) = intsN (labs i (joinF f x y)) ++ [((p : Nat) : Int)] by rw [labs_succ, intsN_snoc, joinF_a (hi' := hz.trans (hc.trans HMX.out)), ← HMN.out])
          have e1 : ((z : Int) == ((q : Nat) : Int)) = true := by simp [hc]
          clear HO hRr hz hc
          go_wp2_with (at_builtin; refine push etI rfl _ _ rfl w.heap.size _ _ _ hown rfl #[.int .i64 (p : Nat)] _ rfl rfl rfl (by simp [Value.oneCell']) (by omega) (by omega) hsz ?_; intro g cp w5 hown5 hg5 hv5)
          have hb5 : Below w.heap.size wr w5 := (Below.refl _ wr).grown hg5 hsz (fun j e => (hown.lt j e).1)
          go_roundw
          case rel => exact ⟨i + 1, by omega, by go_num, by rw [HJ.out, List.map_append]; exact Lib.hid hown5, bel.trans hb5⟩
          case measure => simp only [intOf]; omega
        · have HJ := Lib.hid (show intsN (labs (i + 1) (joinF f x y)) = intsN (labs i (joinF f x y)) ++ [((z : Nat) : Int)] by rw [labs_succ, intsN_snoc, joinF_b (hi' := fun e => hc (hz.symm.trans (e.trans HMX.out.symm))), hz])
          have e1 : ((z : Int) == ((q : Nat) : Int)) = false := by simp; omega
          clear HO hRr hz hc
          go_wp2_with (at_builtin; refine push etI rfl _ _ rfl w.heap.size _ _ _ hown rfl #[.int .i64 (z : Nat)] _ rfl rfl rfl (by simp [Value.oneCell']) (by omega) (by omega) hsz ?_; intro g cp w5 hown5 hg5 hv5)
          have hb5 : Below w.heap.size wr w5 := (Below.refl _ wr).grown hg5 hsz (fun j e => (hown.lt j e).1)
          go_roundw
          case rel => exact ⟨i + 1, by omega, by go_num, by rw [HJ.out, List.map_append]; exact Lib.hid hown5, bel.trans hb5⟩
          case measure => simp only [intOf]; omega
      · obtain rfl : i = n := by omega
        go_wp2_with fail
        go_ret
        exact ⟨_, rfl, HO.out, bel⟩

/-- two slices that lie in two blocks -/
def Apart (a b : Value) : Prop := ∀ g, a.ownBlock = some g → b.ownBlock ≠ some g
theorem Apart.nil (a : Value) : Apart a (.slice none 0 0) := fun _ _ c => by cases c
/-- what the document's grown answers -/
def GrownRes (E : List Ed) (w : World) (e : Ending) (w' : World) : Prop :=
  ∃ v o, e = .returned v ∧ OrdOf E o ∧ OwnI w.heap.size v (frs E o) w' ∧ Below w.heap.size w w'
theorem labs_id_succ (k : Nat) : intsN (labs (k + 1) id) = intsN (labs k id) ++ [(k : Int)] := by rw [labs_succ, intsN_snoc]; rfl
set_option maxRecDepth 100000 in
set_option maxHeartbeats 4000000 in
theorem rgrown_any (B : Nat) (a : Option Addr) (cap n : Nat) (A : Nat → Addr) (E : List Ed) (w : World) (hS : ES w B (.slice a E.length cap) E A) (hB : B ≤ w.heap.size) (hm : E.length ≤ 1000000) (hn : n ≤ 1000000)
    (hE : ∀ i, i < E.length → 0 ≤ (eAt E i).u ∧ (eAt E i).u < n ∧ 0 ≤ (eAt E i).v ∧ (eAt E i).v < n) :
    Calls Try.prog 44 #[.int .i64 (n : Nat), .slice a E.length cap] w (GrownRes E w) := by
  have HS := Lib.hid hS
  have HE := Lib.hid hE
  clear hS hE
  go_enter Try.func44, Try.ntmps44
  go_wp2_with fail
  go_loopw [5, 6] (fun v iv wr => ∃ i : Nat, i ≤ n ∧ iv = .int .i64 (i : Nat) ∧ Hid (wr.ownsRow w.heap.size 3 1 v i ((intsN (labs i id)).map (Value.int .i64))) ∧ Below w.heap.size w wr) (fun _ iv _ => n - (intOf iv).toNat)
  case atStart => exact ⟨0, Nat.zero_le _, rfl, Lib.hid (World.ownsRow_nil _ _ _ _), Below.refl _ _⟩
  case round =>
    obtain ⟨i, hi, rfl, HO, bel⟩ := hrel
    by_cases hlt : i < n
    · have hown := HO.out
      have hsz := bel.size
      clear HO
      go_wp2_with (at_builtin; refine push etI rfl _ _ rfl w.heap.size _ _ _ hown rfl #[.int .i64 (i : Nat)] _ rfl rfl rfl (by simp [Value.oneCell']) (by omega) (by omega) hsz ?_; intro g cp w5 hown5 hg5 hv5)
      have hb5 : Below w.heap.size wr w5 := (Below.refl _ wr).grown hg5 hsz (fun j e => (hown.lt j e).1)
      go_roundw
      case rel => exact ⟨i + 1, by omega, by go_num, by rw [labs_id_succ, List.map_append]; exact Lib.hid hown5, bel.trans hb5⟩
      case measure => simp only [intOf]; omega
    · obtain rfl : i = n := by omega
      have hsz := bel.size
      have HOr := Lib.hid (rorder_any B a cap A E wr (HS.out.below (bel.mono hB)) (by omega) hm)
      have HK := Lib.hid (show LabO w.heap.size u5 i id wr from HO.out)
      clear HO
      go_wp2_with fail
      refine HOr.out.mono ?_
      clear HOr
      rintro e w1 ⟨ov, o, rfl, ho, hov, bel1⟩
      obtain ⟨oa, oc, OA, rfl, hoR⟩ := ownI_rd hov
      have hol := ho.len
      rw [hol] at hoR ⊢
      have HOd := Lib.hid ho; have HRo := Lib.hid hoR; have HOl := Lib.hid hol
      have bel2 := bel.trans (bel1.mono hsz)
      have HK1 := Lib.hid (show LabO w.heap.size u5 i (labO E (o.take 0)) w1 from ownsRow_below HK.out bel1)
      have hs1 := bel2.size
      have hs11 := bel1.size
      clear ho hov hoR hol HK
      go_wp2_with fail
      go_loopw [5, 8, 9] (fun k v iv wr => ∃ q : Nat, q ≤ E.length ∧ iv = .int .i64 (q : Nat) ∧ Hid (LabO w.heap.size k i (labO E (o.take q)) wr) ∧ Hid (OwnI w1.heap.size v (frs E (o.take q)) wr) ∧ Hid (Apart k v) ∧ Below w1.heap.size w1 wr ∧ Below w.heap.size w wr) (fun _ _ iv _ => E.length - (intOf iv).toNat)
      case atStart => exact ⟨0, Nat.zero_le _, rfl, HK1, Lib.hid (World.ownsRow_nil _ _ _ _), Lib.hid (Apart.nil _), Below.refl _ _, bel2⟩
      case round =>
        clear HK1 bel2
        obtain ⟨q, hq, rfl, HK, HF, HAp, bel, bel2⟩ := hrel
        by_cases hlt : q < E.length
        · obtain ⟨x, hx⟩ : ∃ x, o.getD q 0 = x := ⟨_, rfl⟩
          have hxl : x < E.length := HOd.out.mem.1 (by rw [← hx, List.getD_eq_getElem?_getD, List.getElem?_eq_getElem (by rw [HOl.out]; omega)]; exact List.getElem_mem _)
          have hOr := HRo.out.below bel
          have i0 := hOr.ix q hlt
          have d0 := hOr.cell q hlt 0 (by omega)
          rw [add_zero] at d0
          have hn0 : nums .i64 (intsN o) q 0 = .int .i64 (x : Nat) := by unfold nums; rw [intsN_nth, hx]
          rw [hn0] at d0
          have hEr := HS.out.below (bel2.mono hB)
          have i1 := hEr.ix x hxl
          have e0 := ES.u hEr hxl
          have e1 := ES.v hEr hxl
          have e2 := ES.w hEr hxl
          obtain ⟨hu0, hu1, hv0, hv1⟩ := HE.out x hxl
          obtain ⟨u, hu⟩ : ∃ u : Nat, (eAt E x).u = u := ⟨(eAt E x).u.toNat, by omega⟩
          obtain ⟨v, hv⟩ : ∃ v : Nat, (eAt E x).v = v := ⟨(eAt E x).v.toNat, by omega⟩
          obtain ⟨z, hz⟩ : ∃ z : Int, (eAt E x).w = z := ⟨_, rfl⟩
          rw [hu] at e0; rw [hv] at e1; rw [hz] at e2
          rw [hu] at hu1; rw [hv] at hv1
          have hqv : (0 : Int) ≤ q ∧ (q : Int) < E.length := by omega
          have hxv : (0 : Int) ≤ x ∧ (x : Int) < E.length := by omega
          have hu1' : u < i := by omega
          have hv1' : v < i := by omega
          have huv : (0 : Int) ≤ u ∧ (u : Int) < i := by omega
          have hvv : (0 : Int) ≤ v ∧ (v : Int) < i := by omega
          have HX := Lib.hid hx
          have HUV := Lib.hid (show edP E x = (u, v) by unfold edP; rw [hu, hv]; simp)
          clear hx hOr hEr hu0 hv0 hu hv hz
          obtain ⟨ka, kc, KA, rfl, hK⟩ := HK.out.rd
          obtain ⟨p, hp⟩ : ∃ p, labO E (o.take q) u = p := ⟨_, rfl⟩
          obtain ⟨r, hr⟩ : ∃ r, labO E (o.take q) v = r := ⟨_, rfl⟩
          have hbw : Below wr.heap.size wr (wr.alloc (.cells #[.int .i64 u, .int .i64 v, .int .i64 z] 36)) := (Below.refl _ wr).alloc (Nat.le_refl _) _
          have hK2 := hK.below hbw
          have i2 := hK2.ix u hu1'
          have i3 := hK2.ix v hv1'
          have c2 := lab_cell hK2 hu1'
          have c3 := lab_cell hK2 hv1'
          rw [hp] at c2; rw [hr] at c3
          have hRw := Row.lit (n := 3) (f := fun i => (#[Value.int .i64 u, .int .i64 v, .int .i64 z] : Array Value).getD i undef) wr #[.int .i64 u, .int .i64 v, .int .i64 z] 36 (by simp) (fun i hi => by
            rw [Array.getD_eq_getD_getElem?, Array.getElem?_eq_getElem (by simpa using hi)]; rfl)
          have c4 := hRw.cell (i := 0) (by omega)
          have c5 := hRw.cell (i := 1) (by omega)
          have d1 := (hbw.mono (by have := bel.size; omega) : Below w1.heap.size wr _)
          have belA := bel.trans d1
          have bel2A := bel2.trans (hbw.mono bel2.size)
          have i0' := (HRo.out.below belA).ix q hlt
          have d0' := (HRo.out.below belA).cell q hlt 0 (by omega)
          rw [add_zero, hn0] at d0'
          have HKA := Lib.hid (show LabO w.heap.size (.slice ka i kc) i (labO E (o.take q)) _ from ownsRow_below HK.out hbw)
          have HFA := Lib.hid (show OwnI w1.heap.size u8 (frs E (o.take q)) _ from ownsRow_below HF.out hbw)
          have hol2 : q < o.length := by rw [HOl.out]; exact hlt
          have HL := Lib.hid (show labO E (o.take (q + 1)) = joinF (labO E (o.take q)) u v by rw [take_snocN hol2, labO_snoc, HX.out, HUV.out])
          have HPq := Lib.hid hp; have HRq := Lib.hid hr
          have HRw := Lib.hid hRw
          have HFb := Lib.hid (show ∀ g, u8.ownBlock = some g → g < wr.heap.size from fun g e => (World.ownsRow.lt HF.out g e).2)
          clear hK hK2 hRw d1 bel bel2 HK HF hn0 hp hr hol2
          go_wp2_with fail
          generalize wr.alloc (.cells #[.int .i64 u, .int .i64 v, .int .i64 z] 36) = wa at *
          by_cases hc : p = r
          · have k1 : ((p : Int) != (r : Int)) = false := by simp [hc]
            have HFr := Lib.hid (show frs E (o.take (q + 1)) = frs E (o.take q) by rw [take_snocN (by rw [HOl.out]; exact hlt), frs_snoc, HX.out, accB, HUV.out, if_neg (by simp only [HPq.out, HRq.out]; simpa using hc)])
            have HL2 := Lib.hid (show labO E (o.take (q + 1)) = labO E (o.take q) by rw [HL.out, joinF_same (HPq.out.trans (hc.trans HRq.out.symm))])
            clear hc
            go_quiet (fail)
            go_wp2_with fail
            go_roundw
            case rel => exact ⟨q + 1, by omega, by go_num, by rw [HL2.out]; exact Lib.hid (show LabO _ _ _ _ _ from ownsRow_below HKA.out (below_drewN (Below.refl _ _) _)), by rw [HFr.out]; exact Lib.hid (show OwnI _ _ _ _ from ownsRow_below HFA.out (below_drewN (Below.refl _ _) _)), HAp, below_drewN belA _, below_drewN bel2A _⟩
            case measure => simp only [intOf]; omega
          · have k1 : ((p : Int) != (r : Int)) = true := by simp; omega
            have HFr := Lib.hid (show frs E (o.take (q + 1)) = frs E (o.take q) ++ [x] by rw [take_snocN (by rw [HOl.out]; exact hlt), frs_snoc, HX.out, accB, HUV.out, if_pos (by simp only [HPq.out, HRq.out]; simpa using hc)])
            have hfl : (frs E (o.take q)).length ≤ 1000000 := by have := frs_len E (o.take q); rw [List.length_take] at this; omega
            have hown : ∀ m, (wa.drewN m).ownsRow w1.heap.size 3 1 u8 (frs E (o.take q)).length ((intsN (frs E (o.take q))).map (Value.int .i64)) := fun m => ownsRow_below HFA.out (below_drewN (Below.refl _ _) _)
            have HOW := Lib.hid hown
            have hsA := belA.size
            have hsB : ∀ m, w1.heap.size ≤ (wa.drewN m).heap.size := fun m => hsA
            have HSB := Lib.hid hsB
            clear hc hown hsB
            go_quiet (fail)
            go_wp2_with (at_builtin; refine push etI rfl _ _ rfl w1.heap.size _ _ _ (HOW.out _) rfl #[.int .i64 (x : Nat)] _ rfl rfl rfl (by simp [Value.oneCell']) (by omega) (by omega) (HSB.out _) ?_; intro g cp w5 hown5 hg5 hv5; refine Hid.out ?_)
            refine Lib.hid ?_
            have hb15 : Below w1.heap.size wa w5 := (below_drewN (Below.refl _ wa) _).grown hg5 hsA (fun j e => ((HOW.out 0).lt j e).1)
            have hb5 := hb15.mono hs1
            have bel5 := belA.trans hb15
            have bel25 := bel2A.trans hb5
            have hs5 := bel25.size
            have HK5 : LabO w.heap.size (.slice ka i kc) i (labO E (o.take q)) w5 := World.ownsRow.kept (ownsRow_below HKA.out (below_drewN (Below.refl _ _) _)) hg5 (by
              cases hc : (Value.slice ka i kc).ownBlock with
              | none => exact .inl rfl
              | some b => exact .inr (fun c => HAp.out b hc c.symm))
            obtain ⟨a2, c2', A2, e2', hK5⟩ := HK5.rd
            cases e2'
            have HJ := Lib.hid (rjoined_any w5.heap.size ka kc i A2 (labO E (o.take q)) u v w5 hK5 (Nat.le_refl _) hu1' hv1' hn)
            have HF5 := Lib.hid (show OwnI w1.heap.size (.slice (some ⟨g, 0, none⟩) ((frs E (o.take q)).length + 1 : Nat) cp) (frs E (o.take (q + 1))) w5 by
              rw [HFr.out]; unfold OwnI; rw [intsN_snoc, List.length_append, List.map_append]; exact hown5)
            have hR5 : Row w5 wr.heap.size 3 _ := HRw.out.of_block (hg5.block wr.heap.size (HRw.out.lt) (fun e => by have := HFb.out _ e.symm; omega))
            have c6 := hR5.cell (i := 0) (by omega)
            have c7 := hR5.cell (i := 1) (by omega)
            clear hb5 hb15 HK5 hK5 hown5 hg5 hv5 hR5
            go_wp2_with fail
            refine HJ.out.mono ?_
            clear HJ
            rintro e w6 ⟨kv, rfl, hK6, bel6⟩
            have HK6 := Lib.hid (show LabO w.heap.size kv i (labO E (o.take (q + 1))) w6 by
              rw [HL.out]
              exact ⟨hK6.1, hK6.2.imp id (by rintro ⟨g, cap, cur, e1, e2, e3⟩; exact ⟨g, cap, cur, e1, by omega, e3⟩)⟩)
            have HF6 := Lib.hid (ownI_below HF5.out bel6)
            have HAp6 := Lib.hid (show Apart kv (.slice (some ⟨g, 0, none⟩) ((frs E (o.take q)).length + 1 : Nat) cp) from fun b hb c => by
              have h1 := (hK6.lt b hb).1
              have h2 := (World.ownsRow.lt HF5.out b c).2
              omega)
            have bel56 := bel5.trans (bel6.mono bel5.size)
            have bel256 := bel25.trans (bel6.mono hs5)
            clear hK6
            go_wp2_with fail
            go_roundw
            case rel => exact ⟨q + 1, by omega, by go_num, HK6, HF6, HAp6, bel56, bel256⟩
            case measure => simp only [intOf]; omega
        · obtain rfl : q = E.length := by omega
          have hF := HF.out
          rw [← HOl.out, List.take_length] at hF
          have HF2 := Lib.hid hF
          clear hF HF
          go_wp2_with fail
          go_ret
          exact ⟨_, o, rfl, HOd.out, ⟨HF2.out.1, HF2.out.2.imp id (by rintro ⟨g, cap, cur, e1, e2, e3⟩; exact ⟨g, cap, cur, e1, by omega, e3⟩)⟩, bel2⟩
end Go.Proofs.Ytbmcflmflmlmaaa
