/- The walk of the law KruskalLeast: no spanning forest is lighter. No conditions. -/
import Derived.Test.YtbmcflmflmlmaaaKWorks
import Derived.Test.YtbmcflmflmlmaaaKLeD
import Derived.Test.YtbmcflmflmlmaaaKLsm
import Derived.Test.YtbmcflmflmlmaaaBlt
namespace Go.Proofs.Ytbmcflmflmlmaaa
open Go.RowKit

/-- two slices that lie in two blocks -/
def Apart2 (a b : Value) : Prop := ∀ g, a.ownBlock = some g → b.ownBlock ≠ some g
/-- the first edges of a list, owned -/
def OwnT (base : Nat) (v : Value) (i : Nat) (X : List Ed) (w : World) : Prop := w.ownsRow base 36 3 v i (flat (edC (X.take i)) i 3)
theorem OwnT.snoc {base g cp i : Nat} {X : List Ed} {x y z : Int} {w : World} (ht : X.take (i + 1) = X.take i ++ [⟨x, y, z⟩]) (hl : (X.take i).length = i) (h : w.ownsRow base 36 3 (.slice (some ⟨g, 0, none⟩) (i + 1 : Nat) cp) (i + 1) (flat (edC (X.take i)) i 3 ++ #[Value.int .i64 x, .int .i64 y, .int .i64 z].toList)) :
    OwnT base (.slice (some ⟨g, 0, none⟩) (i + 1 : Nat) cp) (i + 1) X w := by
  unfold OwnT
  have h1 := flat_snoc (X.take i) ⟨x, y, z⟩
  rw [List.length_append, hl, List.length_singleton] at h1
  rw [ht, h1]; exact h
theorem OwnT.all {base : Nat} {v : Value} {X : List Ed} {w : World} (h : OwnT base v X.length X w) : OwnE base v X w := by
  unfold OwnT at h; rw [List.take_length] at h; exact h
theorem toN_ints (p : List Nat) : toN (intsN p) = p := by
  unfold toN intsN
  rw [List.map_map]
  conv => rhs; rw [← List.map_id p]
  exact List.map_congr_left fun x _ => by simp
theorem spE_ints {m : Nat} {p : List Nat} (h : ∀ i, i ∈ p → i < m) (hd : p.Nodup) : spE m (intsN p) = 0 := by
  unfold spE
  rw [if_pos (fun x hx => by obtain ⟨i, hi, rfl⟩ := List.mem_map.1 hx; have := h i hi; omega), toN_ints, if_pos hd]
theorem some_ws (E : List Ed) (p : List Nat) : (someE E p).map (fun e => e.w) = wsOf E p := by unfold someE wsOf; rw [List.map_map]; rfl
theorem some_sum (E : List Ed) (p : List Nat) : eSum (someE E p) = wSum E p := by unfold eSum wSum; rw [some_ws]
theorem some_same {E E' : List Ed} {p p' : List Nat} (h : wsOf E p = wsOf E' p') {i : Nat} (hi : i < p.length) (hi' : i < p'.length) : (eAt (someE E p) i).w = (eAt (someE E' p') i).w := by
  rw [← some_ws, ← some_ws] at h
  have h1 := congrArg (fun l => l[i]?) h
  simp only [List.getElem?_map] at h1
  rw [List.getElem?_eq_getElem (by rw [someE_len]; exact hi), List.getElem?_eq_getElem (by rw [someE_len]; exact hi')] at h1
  rw [eAt_eq (by rw [someE_len]; exact hi), eAt_eq (by rw [someE_len]; exact hi')]
  simpa using h1
theorem some_small {E : List Ed} {p : List Nat} (hp : ∀ i, i ∈ p → i < E.length) (hw : ∀ i, i < E.length → -128 ≤ (eAt E i).w ∧ (eAt E i).w ≤ 127) : ∀ i, i < (someE E p).length → -128 ≤ (eAt (someE E p) i).w ∧ (eAt (someE E p) i).w ≤ 127 := fun i hi => by
  rw [someE_len] at hi
  rw [someE_at hi]
  exact hw _ (hp _ (by rw [List.getD_eq_getElem?_getD, List.getElem?_eq_getElem hi]; exact List.getElem_mem _))
set_option maxRecDepth 100000 in
set_option maxHeartbeats 4000000 in
theorem least_walk (a : Option Addr) (cap : Nat) (L : List Lk) (A : Nat → Addr) (ma : Option Addr) (mc : Nat) (M : List Int) (MA : Nat → Addr) (w : World) (hS : LS w w.heap.size (.slice a L.length cap) L A) (hl : L.length ≤ 9223372036854775807) (hr : LkR L) (hM : Sl 54 .i8 w w.heap.size (.slice ma M.length mc) M MA) (hml : M.length ≤ 9223372036854775807) (hmr : ∀ z, z ∈ M → -128 ≤ z ∧ z ≤ 127) :
    Calls Try.prog 9 #[.slice a L.length cap, .slice ma M.length mc] w fun e w' => e = .returned (.bool true) ∧ Below w.heap.size w w' := by
  have HS := Lib.hid hS; have HR := Lib.hid hr; have HM := Lib.hid hM; have HMr := Lib.hid hmr
  clear hS hr hM hmr
  by_cases hbig : 120 < L.length ∨ 120 < M.length
  · by_cases h1 : 120 < L.length
    · have d1 : decide ((L.length : Int) > 120) = true := decide_eq_true (by omega)
      have d2 : decide (120 < L.length) = true := decide_eq_true h1
      clear h1 hbig
      go_enter Try.func9, Try.ntmps9
      go_wp2_with fail
      refine (works_any _).mono ?_
      rintro e w7 ⟨rfl, b7⟩
      go_wp2_with fail
      go_ret
      exact ⟨rfl, b7⟩
    · have h2 : 120 < M.length := hbig.resolve_left h1
      have d1 : decide ((L.length : Int) > 120) = false := decide_eq_false (by omega)
      have d2 : decide (120 < L.length) = false := decide_eq_false h1
      have d3 : decide ((M.length : Int) > 120) = true := decide_eq_true (by omega)
      have d4 : decide (120 < M.length) = true := decide_eq_true h2
      clear h1 h2 hbig
      go_enter Try.func9, Try.ntmps9
      go_wp2_with fail
      refine (works_any _).mono ?_
      rintro e w7 ⟨rfl, b7⟩
      go_wp2_with fail
      go_ret
      exact ⟨rfl, b7⟩
  · have hl2 : L.length ≤ 120 := by omega
    have hml2 : M.length ≤ 120 := by omega
    have d1 : decide ((L.length : Int) > 120) = false := decide_eq_false (by omega)
    have d2 : decide (120 < L.length) = false := decide_eq_false (by omega)
    have d3 : decide ((M.length : Int) > 120) = false := decide_eq_false (by omega)
    have d4 : decide (120 < M.length) = false := decide_eq_false (by omega)
    clear hbig hl hml
    go_enter Try.func9, Try.ntmps9
    go_wp2_with fail
    refine (built_any w.heap.size a cap 30 A L w HS.out (Nat.le_refl _) HR.out (by omega) (by omega) (by omega)).mono ?_
    rintro e w1 ⟨v, rfl, hO, b1⟩
    obtain ⟨E, hE⟩ : ∃ E, bltE 30 L = E := ⟨_, rfl⟩
    have hG : GOk 30 E := by rw [← hE]; exact bltE_ok (by omega) (by omega) (by omega)
    have hEl : E.length ≤ 120 := by rw [← hE]; exact Nat.le_trans (bltE_len 30 L) hl2
    have hEw : ∀ i, i < E.length → -128 ≤ (eAt E i).w ∧ (eAt E i).w ≤ 127 := by rw [← hE]; exact bltE_w HR.out
    rw [hE] at hO
    obtain ⟨ea, ec, EA, rfl, hES⟩ := hO.rd
    have HG := Lib.hid hG; have HE1 := Lib.hid hES; have B1 := Lib.hid b1; have HEw := Lib.hid hEw
    have HM1 := Lib.hid (show Sl 54 .i8 w1 w1.heap.size (.slice ma M.length mc) M MA from (HM.out.below b1).mono b1.size)
    clear hE hG hO hES b1 hEw d1 d2 d3 d4
    go_wp2_with fail
    go_loopw [6, 7, 8] (fun bv sv iv wr => ∃ i : Nat, i ≤ E.length ∧ iv = .int .i64 (i : Nat) ∧ Hid (OwnT w1.heap.size bv i E.reverse wr) ∧ Hid (OwnT w1.heap.size sv i (strE E M) wr) ∧ Hid (Apart2 bv sv) ∧ Below w1.heap.size w1 wr) (fun _ _ iv _ => E.length - (intOf iv).toNat)
    case atStart => exact ⟨0, Nat.zero_le _, rfl, Lib.hid (World.ownsRow_nil _ _ _ _), Lib.hid (World.ownsRow_nil _ _ _ _), Lib.hid (fun _ c => by cases c), Below.refl _ _⟩
    case round =>
      obtain ⟨i, hi, rfl, HO6, HO7, HAp, bel⟩ := hrel
      by_cases hlt : i < E.length
      · obtain ⟨j, hj⟩ : ∃ j, E.length - 1 - i = j := ⟨_, rfl⟩
        have hjl : j < E.length := by omega
        have hEr := HE1.out.below bel
        have ij := hEr.ix j hjl
        have j0 := ES.u hEr hjl
        have j1 := ES.v hEr hjl
        have j2 := ES.w hEr hjl
        obtain ⟨p, hp⟩ : ∃ z, (eAt E j).u = z := ⟨_, rfl⟩
        obtain ⟨q, hq⟩ : ∃ z, (eAt E j).v = z := ⟨_, rfl⟩
        obtain ⟨t, ht⟩ : ∃ z, (eAt E j).w = z := ⟨_, rfl⟩
        have HT6 := Lib.hid (show E.reverse.take (i + 1) = E.reverse.take i ++ [(⟨p, q, t⟩ : Ed)] by rw [rev_take hlt, hj, ← hp, ← hq, ← ht])
        rw [hp] at j0; rw [hq] at j1; rw [ht] at j2
        have w1' : IntKind.i64.wrap ((E.length : Int) - 1) = (E.length : Int) - 1 := IntWalk.i64_in _ (by omega)
        have w2' : IntKind.i64.wrap ((E.length : Int) - 1 - (i : Int)) = (j : Nat) := by rw [IntWalk.i64_in _ (by omega)]; omega
        have w3' : (E.length : Int) - 1 - (i : Int) = (j : Nat) := by omega
        have hjv : (0 : Int) ≤ j ∧ (j : Int) < E.length := by omega
        have hiv : (0 : Int) ≤ i ∧ (i : Int) < E.length := by omega
        have hsz := bel.size
        have HW6 := Lib.hid (show wr.ownsRow w1.heap.size 36 3 u6 i (flat (edC (E.reverse.take i)) i 3) from HO6.out)
        have hi120 : i ≤ 120 := by omega
        clear hj hEr hp hq ht HO6
        go_wp2_with (at_builtin; refine push etE rfl _ _ rfl w1.heap.size _ _ _ HW6.out rfl #[.int .i64 p, .int .i64 q, .int .i64 t] _ rfl rfl rfl (by simp [Value.oneCell']) (by omega) (by omega) hsz ?_; intro g cp w5 hown6 hg5 hv5; refine Hid.out ?_)
        have bel5 := bel.grown hg5 hsz (fun j e => (HW6.out.lt j e).1)
        have hs5 := bel5.size
        have HO6b := Lib.hid (show OwnT w1.heap.size (.slice (some ⟨g, 0, none⟩) (i + 1 : Nat) cp) (i + 1) E.reverse w5 from OwnT.snoc HT6.out (by simp; omega) hown6)
        have HO7b := Lib.hid (show OwnT w1.heap.size u7 i (strE E M) w5 from World.ownsRow.kept HO7.out hg5 (by
          cases hc : u7.ownBlock with
          | none => exact .inl rfl
          | some b => exact .inr (fun c => HAp.out b c.symm hc)))
        have HAp5 := Lib.hid (show Apart2 (.slice (some ⟨g, 0, none⟩) (i + 1 : Nat) cp) u7 from fun b hb c => by
          have hb2 := (World.ownsRow.lt HO7.out b c).2
          have hb : g = b := Option.some.inj hb
          subst hb
          rcases hv5 with e | e
          · exact HAp.out g e c
          · omega)
        refine Lib.hid ?_
        clear hown6 hg5 hv5 HW6 HO7 HAp ij j0 j1 j2 w1' w2' w3' hjv bel hsz
        have hE5 := HE1.out.below bel5
        have ix := hE5.ix i hlt
        have e0 := ES.u hE5 hlt
        have e1 := ES.v hE5 hlt
        have e2 := ES.w hE5 hlt
        obtain ⟨u, hu⟩ : ∃ z, (eAt E i).u = z := ⟨_, rfl⟩
        obtain ⟨v, hv⟩ : ∃ z, (eAt E i).v = z := ⟨_, rfl⟩
        obtain ⟨x, hx⟩ : ∃ z, (eAt E i).w = z := ⟨_, rfl⟩
        have HEq := Lib.hid (show eAt E i = ⟨u, v, x⟩ by rw [← hu, ← hv, ← hx])
        rw [hu] at e0; rw [hv] at e1; rw [hx] at e2
        clear hE5 hu hv hx
        by_cases hM : i < M.length
        · obtain ⟨y, hyy⟩ : ∃ y, nth M i = y := ⟨_, rfl⟩
          have hyr : -9223372036854775808 ≤ y ∧ y ≤ 9223372036854775807 := by have := HMr.out y (by rw [← hyy, nth_eq hM]; exact List.getElem_mem hM); omega
          have HT7 := Lib.hid (show (strE E M).take (i + 1) = (strE E M).take i ++ [(⟨u, v, y⟩ : Ed)] by rw [strE_take hlt, if_pos hM, hyy, HEq.out])
          have d1 : decide ((i : Int) < (M.length : Int)) = true := decide_eq_true (by omega)
          have d2 : decide (i < M.length) = true := decide_eq_true hM
          have hMr := HM1.out.below bel5
          have im := hMr.ix i (by omega)
          have cm := Sl.at hMr (i := i) (by omega)
          rw [hyy] at cm
          have cm2 : (w5.alloc (.cells #[.int .i64 u, .int .i64 v, .int .i64 x] 36)).cell? (MA i) = some (.int .i8 y) := by rw [World.cell?_alloc_some _ _ _ (by rw [cm]; rfl)]; exact cm
          have cw : IntKind.i64.wrap y = y := IntWalk.i64_in _ hyr
          have hiv2 : (0 : Int) ≤ i ∧ (i : Int) < M.length := by omega
          clear hMr hyy
          clear hM
          have hown7 : (w5.alloc (.cells #[.int .i64 u, .int .i64 v, .int .i64 y] 36)).ownsRow w1.heap.size 36 3 u7 i (flat (edC ((strE E M).take i)) i 3) := ownsRow_below HO7b.out ((Below.refl _ _).alloc (Nat.le_refl _) _)
          have hown6 : OwnT w1.heap.size (.slice (some ⟨g, 0, none⟩) (i + 1 : Nat) cp) (i + 1) E.reverse (w5.alloc (.cells #[.int .i64 u, .int .i64 v, .int .i64 y] 36)) := ownsRow_below HO6b.out ((Below.refl _ _).alloc (Nat.le_refl _) _)
          have HW6 := Lib.hid hown6; have HW7 := Lib.hid hown7
          have hba : Below w1.heap.size w1 (w5.alloc (.cells #[.int .i64 u, .int .i64 v, .int .i64 y] 36)) := bel5.alloc hs5 _
          have hsa := hba.size
          clear hown6 hown7
          go_wp2_with (at_builtin; go_loud (refine push etE rfl _ _ rfl w1.heap.size _ _ _ HW7.out rfl #[.int .i64 u, .int .i64 v, .int .i64 y] _ rfl (by simp) rfl (by simp [Value.oneCell']) (by omega) (by omega) hsa ?_; intro g2 cp2 w6 hown7 hg6 hv6; refine Hid.out ?_))
          have bel6 := hba.grown hg6 hsa (fun j e => (HW7.out.lt j e).1)
          have HO6c := Lib.hid (show OwnT w1.heap.size (.slice (some ⟨g, 0, none⟩) (i + 1 : Nat) cp) (i + 1) E.reverse w6 from World.ownsRow.kept HW6.out hg6 (by
            cases hc : (Value.slice (some ⟨g, 0, none⟩) (i + 1 : Nat) cp).ownBlock with
            | none => exact .inl rfl
            | some b => exact .inr (fun c => HAp5.out b hc c.symm)))
          have HO7c := Lib.hid (show OwnT w1.heap.size (.slice (some ⟨g2, 0, none⟩) (i + 1 : Nat) cp2) (i + 1) (strE E M) w6 from OwnT.snoc HT7.out (by rw [List.length_take, strE_len]; omega) hown7)
          have HAp6 := Lib.hid (show Apart2 (.slice (some ⟨g, 0, none⟩) (i + 1 : Nat) cp) (.slice (some ⟨g2, 0, none⟩) (i + 1 : Nat) cp2) from fun b hb c => by
            have hb2 := (World.ownsRow.lt HW6.out b hb).2
            have hb : g = b := Option.some.inj hb
            have c : g2 = b := Option.some.inj c
            subst hb
            rcases hv6 with e | e
            · exact HAp5.out g rfl (by rw [e, c])
            · rw [c] at e; omega)
          refine Lib.hid ?_
          clear hown7 hg6 hv6 HW6 HW7 hba hsa
          go_wp2_with fail
          go_roundw
          case rel => exact ⟨i + 1, by omega, by go_num, HO6c, HO7c, HAp6, bel6⟩
          case measure => simp only [intOf]; omega
        · have HT7 := Lib.hid (show (strE E M).take (i + 1) = (strE E M).take i ++ [(⟨u, v, x⟩ : Ed)] by rw [strE_take hlt, if_neg hM, HEq.out])
          have d1 : decide ((i : Int) < (M.length : Int)) = false := decide_eq_false (by omega)
          have d2 : decide (i < M.length) = false := decide_eq_false hM
          clear hM
          have hown7 : (w5.alloc (.cells #[.int .i64 u, .int .i64 v, .int .i64 x] 36)).ownsRow w1.heap.size 36 3 u7 i (flat (edC ((strE E M).take i)) i 3) := ownsRow_below HO7b.out ((Below.refl _ _).alloc (Nat.le_refl _) _)
          have hown6 : OwnT w1.heap.size (.slice (some ⟨g, 0, none⟩) (i + 1 : Nat) cp) (i + 1) E.reverse (w5.alloc (.cells #[.int .i64 u, .int .i64 v, .int .i64 x] 36)) := ownsRow_below HO6b.out ((Below.refl _ _).alloc (Nat.le_refl _) _)
          have HW6 := Lib.hid hown6; have HW7 := Lib.hid hown7
          have hba : Below w1.heap.size w1 (w5.alloc (.cells #[.int .i64 u, .int .i64 v, .int .i64 x] 36)) := bel5.alloc hs5 _
          have hsa := hba.size
          clear hown6 hown7
          go_wp2_with (at_builtin; go_loud (refine push etE rfl _ _ rfl w1.heap.size _ _ _ HW7.out rfl #[.int .i64 u, .int .i64 v, .int .i64 x] _ rfl (by simp) rfl (by simp [Value.oneCell']) (by omega) (by omega) hsa ?_; intro g2 cp2 w6 hown7 hg6 hv6; refine Hid.out ?_))
          have bel6 := hba.grown hg6 hsa (fun j e => (HW7.out.lt j e).1)
          have HO6c := Lib.hid (show OwnT w1.heap.size (.slice (some ⟨g, 0, none⟩) (i + 1 : Nat) cp) (i + 1) E.reverse w6 from World.ownsRow.kept HW6.out hg6 (by
            cases hc : (Value.slice (some ⟨g, 0, none⟩) (i + 1 : Nat) cp).ownBlock with
            | none => exact .inl rfl
            | some b => exact .inr (fun c => HAp5.out b hc c.symm)))
          have HO7c := Lib.hid (show OwnT w1.heap.size (.slice (some ⟨g2, 0, none⟩) (i + 1 : Nat) cp2) (i + 1) (strE E M) w6 from OwnT.snoc HT7.out (by rw [List.length_take, strE_len]; omega) hown7)
          have HAp6 := Lib.hid (show Apart2 (.slice (some ⟨g, 0, none⟩) (i + 1 : Nat) cp) (.slice (some ⟨g2, 0, none⟩) (i + 1 : Nat) cp2) from fun b hb c => by
            have hb2 := (World.ownsRow.lt HW6.out b hb).2
            have hb : g = b := Option.some.inj hb
            have c : g2 = b := Option.some.inj c
            subst hb
            rcases hv6 with e | e
            · exact HAp5.out g rfl (by rw [e, c])
            · rw [c] at e; omega)
          refine Lib.hid ?_
          clear hown7 hg6 hv6 HW6 HW7 hba hsa
          go_wp2_with fail
          go_roundw
          case rel => exact ⟨i + 1, by omega, by go_num, HO6c, HO7c, HAp6, bel6⟩
          case measure => simp only [intOf]; omega
      · obtain rfl : i = E.length := by omega
        obtain ⟨Bk, hBk⟩ : ∃ X, E.reverse = X := ⟨_, rfl⟩
        obtain ⟨St, hSt⟩ : ∃ X, strE E M = X := ⟨_, rfl⟩
        have hBl : Bk.length = E.length := by rw [← hBk]; simp
        have hSl : St.length = E.length := by rw [← hSt]; exact strE_len E M
        have GB := Lib.hid (show GOk 30 Bk by rw [← hBk]; exact rev_ok HG.out)
        have GS := Lib.hid (show GOk 30 St by rw [← hSt]; exact strE_ok HG.out M)
        have HBw := Lib.hid (show ∀ i, i < Bk.length → -128 ≤ (eAt Bk i).w ∧ (eAt Bk i).w ≤ 127 from fun i hi => by
          have hm : eAt Bk i ∈ E := by rw [eAt_eq hi]; exact List.mem_reverse.1 (by rw [hBk]; exact List.getElem_mem hi)
          obtain ⟨j, hj, he⟩ := List.mem_iff_getElem.1 hm
          have := HEw.out j hj
          rw [eAt_eq hj, he] at this; exact this)
        rw [hBk] at HO6; rw [hSt] at HO7
        have h6 : OwnE w1.heap.size u6 Bk wr := by have := HO6.out; rw [← hBl] at this; exact OwnT.all this
        have h7 : OwnE w1.heap.size u7 St wr := by have := HO7.out; rw [← hSl] at this; exact OwnT.all this
        obtain ⟨ba, bc, BA, rfl, hB⟩ := h6.rd
        obtain ⟨sa, sc, SA, rfl, hS7⟩ := h7.rd
        have HEa := Lib.hid ((HE1.out.below bel).mono bel.size); have HBa := Lib.hid hB; have HSa := Lib.hid hS7
        have Ba := Lib.hid (B1.out.trans (bel.mono B1.out.size))
        have HBk := Lib.hid hBk; have HSt := Lib.hid hSt
        have hB120 : Bk.length ≤ 120 := by omega
        have hS120 : St.length ≤ 120 := by omega
        have HSl := Lib.hid hSl
        clear h6 h7 hB hS7 HO6 HO7 HAp hBk hSt hBl hSl HE1 bel B1 HM1 HM HS
        go_wp2_with fail
        refine (forest_any wr.heap.size _ _ EA 30 E wr HEa.out (Nat.le_refl _) (by omega)).mono ?_
        rintro e x1 ⟨bb, ⟨h0, _⟩ | ⟨_, fo, fv, hof, rfl, hfv⟩⟩
        · exact absurd (gErr_ok HG.out) h0
        obtain ⟨fa, fc, fA, rfl, hF⟩ := ownI_rd hfv
        have HOf := Lib.hid hof
        have HfL := Lib.hid hF
        have HFf1 := HfL
        have HE1 := Lib.hid ((HEa.out.below bb).mono bb.size)
        have HB1 := Lib.hid ((HBa.out.below bb).mono bb.size)
        have HS1 := Lib.hid ((HSa.out.below bb).mono bb.size)
        have B1 := Lib.hid (Ba.out.trans (bb.mono Ba.out.size))
        clear hof hfv hF bb HEa HBa HSa
        go_wp2_with fail
        refine (forest_any x1.heap.size _ _ BA 30 Bk x1 HB1.out (Nat.le_refl _) (by omega)).mono ?_
        rintro e x2 ⟨bb, ⟨h0, _⟩ | ⟨_, go, fv, hog, rfl, hfv⟩⟩
        · exact absurd (gErr_ok GB.out) h0
        obtain ⟨ga, gc, gA, rfl, hF⟩ := ownI_rd hfv
        have HOg := Lib.hid hog
        have HgL := Lib.hid hF
        have HFg2 := HgL
        have HE2 := Lib.hid ((HE1.out.below bb).mono bb.size)
        have HB2 := Lib.hid ((HB1.out.below bb).mono bb.size)
        have HS2 := Lib.hid ((HS1.out.below bb).mono bb.size)
        have HFf2 := Lib.hid ((HFf1.out.below bb).mono bb.size)
        have B2 := Lib.hid (B1.out.trans (bb.mono B1.out.size))
        clear hog hfv hF bb HE1 HB1 HS1 HFf1
        go_wp2_with fail
        refine (forest_any x2.heap.size _ _ SA 30 St x2 HS2.out (Nat.le_refl _) (by omega)).mono ?_
        rintro e x3 ⟨bb, ⟨h0, _⟩ | ⟨_, ho, fv, hoh, rfl, hfv⟩⟩
        · exact absurd (gErr_ok GS.out) h0
        obtain ⟨ha, hc, hA, rfl, hF⟩ := ownI_rd hfv
        have HOh := Lib.hid hoh
        have HhL := Lib.hid hF
        have HFh3 := HhL
        have HE3 := Lib.hid ((HE2.out.below bb).mono bb.size)
        have HB3 := Lib.hid ((HB2.out.below bb).mono bb.size)
        have HFf3 := Lib.hid ((HFf2.out.below bb).mono bb.size)
        have HFg3 := Lib.hid ((HFg2.out.below bb).mono bb.size)
        have B3 := Lib.hid (B2.out.trans (bb.mono B2.out.size))
        have HLF := Lib.hid (show _ ∧ _ ∧ _ ∧ _ ∧ _ ∧ _ from least_facts (M := M) HG.out HOf.out (by rw [HBk.out]; exact HOg.out) (by rw [HSt.out]; exact HOh.out))
        rw [HBk.out, HSt.out] at HLF
        clear hoh hfv hF bb HE2 HB2 HS2 HFf2 HFg2
        have hFm : ∀ i, i ∈ frs E fo → i < E.length := fun i hi => HOf.out.mem.1 ((frs_sub E fo).mem hi)
        have hGm : ∀ i, i ∈ frs Bk go → i < Bk.length := fun i hi => HOg.out.mem.1 ((frs_sub Bk go).mem hi)
        have hFl : (frs E fo).length ≤ 120 := by have := frs_len E fo; rw [HOf.out.len] at this; omega
        have HLe := Lib.hid (least_of HG.out HOf.out HLF.out.2.2.2.1 HLF.out.2.2.2.2.2 HLF.out.2.1.symm)
        obtain ⟨F, hF⟩ : ∃ F, frs E fo = F := ⟨_, rfl⟩
        obtain ⟨FB, hFB⟩ : ∃ F, frs Bk go = F := ⟨_, rfl⟩
        obtain ⟨FS, hFS⟩ : ∃ F, frs St ho = F := ⟨_, rfl⟩
        rw [hF] at HLF HFf3 hFm hFl HLe ⊢
        rw [hFB] at HLF HFg3 hGm ⊢
        rw [hFS] at HLF HFh3 HLe ⊢
        have HF := Lib.hid hF
        have hl1 := HLF.out.1; have hl3 := HLF.out.2.1
        have k1 : ((F.length : Int) != (FB.length : Int)) = false := by simp; omega
        have k2 : ((F.length : Int) != (FS.length : Int)) = false := by simp; omega
        have HFm := Lib.hid hFm; have HGm := Lib.hid hGm
        have hgl : FB.length ≤ 120 := by omega
        have hhl : FS.length ≤ 120 := by omega
        clear hF hFB hFS hFm hGm hl1 hl3
        go_wp2_with fail
        refine (some_any _ _ _ _ EA fA E F x3 HE3.out HFf3.out HFm.out (by omega)).mono ?_
        rintro e x4 ⟨xv, rfl, hX, bb⟩
        obtain ⟨xa, xc, XA, rfl, hXE⟩ := hX.rd
        obtain ⟨X, hXe⟩ : ∃ X, someE E F = X := ⟨_, rfl⟩
        have HXw := Lib.hid (some_small HFm.out HEw.out)
        have hXl : X.length = F.length := by rw [← hXe]; exact someE_len E F
        rw [hXe] at hXE HXw ⊢
        have HXe := Lib.hid hXe; have HXl := Lib.hid hXl
        have HX4 := Lib.hid hXE
        have HE4 := Lib.hid ((HE3.out.below bb).mono bb.size)
        have HB4 := Lib.hid ((HB3.out.below bb).mono bb.size)
        have HFg4 := Lib.hid ((HFg3.out.below bb).mono bb.size)
        have HFh4 := Lib.hid ((HFh3.out.below bb).mono bb.size)
        have B4 := Lib.hid (B3.out.trans (bb.mono B3.out.size))
        have hX120 : X.length ≤ 120 := by omega
        clear hX hXE hXe hXl bb HE3 HB3 HFf3 HFg3 HFh3
        go_wp2_with fail
        refine (some_any _ _ _ _ BA gA Bk FB x4 HB4.out HFg4.out HGm.out (by omega)).mono ?_
        rintro e x5 ⟨yv, rfl, hY, bb⟩
        obtain ⟨ya, yc, YA, rfl, hYE⟩ := hY.rd
        obtain ⟨Y, hYe⟩ : ∃ X, someE Bk FB = X := ⟨_, rfl⟩
        have hYl : Y.length = FB.length := by rw [← hYe]; exact someE_len Bk FB
        rw [hYe] at hYE ⊢
        have HYe := Lib.hid hYe
        have HY5 := Lib.hid hYE
        have HE5 := Lib.hid ((HE4.out.below bb).mono bb.size)
        have HX5 := Lib.hid ((HX4.out.below bb).mono bb.size)
        have HFh5 := Lib.hid ((HFh4.out.below bb).mono bb.size)
        have B5 := Lib.hid (B4.out.trans (bb.mono B4.out.size))
        have hY120 : Y.length ≤ 120 := by omega
        have k3 : ((X.length : Int) != (F.length : Int)) = false := by simp; rw [HXl.out]
        have k4 : ((Y.length : Int) != (FB.length : Int)) = false := by simp; omega
        have hXY : X.length = Y.length := by have := HXl.out; have := HLF.out.1; omega
        have HXY := Lib.hid hXY
        have HWs := Lib.hid (show ∀ i, i < X.length → (eAt Y i).w = (eAt X i).w from fun i hi => by
          rw [← HXe.out, ← HYe.out]
          exact (some_same HLF.out.2.2.1 (by have := HXl.out; omega) (by have := HXl.out; omega)).symm)
        clear hY hYE hYe hYl bb HE4 HB4 HX4 HFg4 HFh4 hXY
        go_wp2_with fail
        go_loopw [18] (fun iv wr => ∃ q : Nat, q ≤ X.length ∧ iv = .int .i64 (q : Nat) ∧ Hid (∃ m, wr = x5.drewN m)) (fun iv _ => X.length - (intOf iv).toNat)
        case atStart => exact ⟨0, Nat.zero_le _, rfl, Lib.hid ⟨0, rfl⟩⟩
        case round =>
          obtain ⟨q, hq, rfl, HW⟩ := hrel
          have bw : Below x5.heap.size x5 wr := by obtain ⟨m, rfl⟩ := HW.out; exact below_drewN (Below.refl _ _) _
          by_cases hlt : q < X.length
          · have i1 := HX5.out.ix q hlt
            have hqY : q < Y.length := by have := HXY.out; omega
            have i2 := HY5.out.ix q hqY
            have c1 := ES.w (HX5.out.below bw) hlt
            have c2 := ES.w (HY5.out.below bw) hqY
            rw [HWs.out q hlt] at c2
            generalize (eAt X q).w = z at *
            have kz : (z != z) = false := by simp
            have hqv : (0 : Int) ≤ q ∧ (q : Int) < X.length := by omega
            have hqv2 : (0 : Int) ≤ q ∧ (q : Int) < Y.length := by omega
            clear hqY bw
            go_wp2_with fail
            go_quiet (fail)
            go_wp2_with fail
            go_roundw
            case rel =>
              refine ⟨q + 1, by omega, by go_num, Lib.hid ?_⟩
              obtain ⟨m, rfl⟩ := HW.out; exact ⟨_, World.drewN_drewN _ _ _⟩
            case measure => simp only [intOf]; omega
          · have HE6 := Lib.hid ((HE5.out.below bw).mono bw.size); have HX6 := Lib.hid ((HX5.out.below bw).mono bw.size); have HFh6 := Lib.hid ((HFh5.out.below bw).mono bw.size)
            have B6 := Lib.hid (B5.out.trans (bw.mono B5.out.size))
            have hpl : (intsN FS).length = FS.length := intsN_len FS
            have hSp := spansX_any wr.heap.size ea ha ec hc EA hA 30 E (intsN FS) wr HE6.out (by unfold Sl; rw [hpl]; exact HFh6.out) (Nat.le_refl _) (by omega) (by rw [hpl]; omega)
            rw [hpl] at hSp
            have HSp := Lib.hid hSp
            have HPl := Lib.hid hpl
            clear hSp hpl bw HW HX5 HY5 HE5 HFh5 k1 k2 k3 k4
            go_wp2_with fail
            refine HSp.out.mono ?_
            clear HSp
            rintro e x7 ⟨bb, ⟨h0, _⟩ | ⟨_, o2, ho2, rfl⟩⟩
            · exact absurd (gErr_ok HG.out) h0
            obtain rfl := HOf.out.uniq ho2
            have HSE := Lib.hid (spE_ints HLF.out.2.2.2.1 HLF.out.2.2.2.2.1)
            have hsb : spB E (intsN FS) (frs E fo).length = true := decide_eq_true ⟨HSE.out, by rw [HPl.out, HF.out, HLF.out.2.1], by rw [toN_ints]; exact HLF.out.2.2.2.2.2⟩
            rw [hsb, HSE.out]
            have HSB := Lib.hid hsb
            have HE7 := Lib.hid ((HE6.out.below bb).mono bb.size); have HX7 := Lib.hid ((HX6.out.below bb).mono bb.size); have HFh7 := Lib.hid ((HFh6.out.below bb).mono bb.size)
            have B7 := Lib.hid (B6.out.trans (bb.mono B6.out.size))
            have hMn := minimal_any x7.heap.size ea ha ec hc EA hA 30 E (intsN FS) x7 HE7.out (by unfold Sl; rw [HPl.out]; exact HFh7.out) (Nat.le_refl _) (by omega) (by rw [HPl.out]; omega)
            rw [HPl.out] at hMn
            have HMn := Lib.hid hMn
            clear hMn hsb ho2 bb HE6 HX6 HFh6
            go_wp2_with fail
            refine HMn.out.mono ?_
            clear HMn
            rintro e x8 ⟨bb, ⟨h0, _⟩ | ⟨_, o2, ho2, rfl⟩⟩
            · exact absurd (gErr_ok HG.out) h0
            obtain rfl := HOf.out.uniq ho2
            obtain ⟨sx, hsx⟩ : ∃ z, wSum E F = z := ⟨_, rfl⟩
            obtain ⟨sz, hsz⟩ : ∃ z, wSum E FS = z := ⟨_, rfl⟩
            have hmb : minB E fo (intsN FS) = (sz == sx) := by
              unfold minB
              rw [HSB.out, Bool.true_and, toN_ints, HF.out, Bool.eq_iff_iff]
              simp only [decide_eq_true_eq, beq_iff_eq]
              rw [HLe.out.2, hsz, hsx]
            have hle : sx ≤ sz := by rw [← hsx, ← hsz]; exact HLe.out.1
            rw [hmb, HSE.out]
            have HE8 := Lib.hid ((HE7.out.below bb).mono bb.size); have HX8 := Lib.hid ((HX7.out.below bb).mono bb.size); have HFh8 := Lib.hid ((HFh7.out.below bb).mono bb.size)
            have B8 := Lib.hid (B7.out.trans (bb.mono B7.out.size))
            have HSx := Lib.hid hsx; have HSz := Lib.hid hsz
            have d5 : decide (sz ≥ sx) = true := decide_eq_true hle
            clear hsx hsz hmb hle ho2 bb HE7 HX7 HFh7
            go_wp2_with fail
            refine (some_any _ _ _ _ EA hA E FS x8 HE8.out HFh8.out HLF.out.2.2.2.1 (by omega)).mono ?_
            rintro e x9 ⟨zv, rfl, hZ, bb⟩
            obtain ⟨za, zc, ZA, rfl, hZE⟩ := hZ.rd
            have HZE := Lib.hid hZE
            have hzs := lsum_any za zc ZA (someE E FS) x9 hZE (by rw [someE_len]; omega) (some_small HLF.out.2.2.2.1 HEw.out)
            rw [some_sum, HSz.out] at hzs
            have HZs := Lib.hid hzs
            have HE9 := Lib.hid ((HE8.out.below bb).mono bb.size); have HX9 := Lib.hid ((HX8.out.below bb).mono bb.size); have HFh9 := Lib.hid ((HFh8.out.below bb).mono bb.size)
            have B9 := Lib.hid (B8.out.trans (bb.mono B8.out.size))
            have hxs := lsum_any xa xc XA X x9 HX9.out (by omega) HXw.out
            rw [← HXe.out] at hxs
            rw [some_sum, HXe.out, HSx.out] at hxs
            have HXs := Lib.hid hxs
            clear hZ hZE hzs hxs bb HE8 HX8 HFh8
            go_wp2_with fail
            refine HZs.out.mono ?_
            rintro e wz ⟨rfl, rfl⟩
            go_wp2_with fail
            refine HXs.out.mono ?_
            rintro e wz ⟨rfl, rfl⟩
            clear HZs HXs HZE
            go_wp2_with fail
            refine (some_any _ _ _ _ EA hA E FS x9 HE9.out HFh9.out HLF.out.2.2.2.1 (by omega)).mono ?_
            rintro e x10 ⟨zv, rfl, hZ, bb⟩
            obtain ⟨za, zc, ZA, rfl, hZE⟩ := hZ.rd
            have HZE := Lib.hid hZE
            have hzs := lsum_any za zc ZA (someE E FS) x10 hZE (by rw [someE_len]; omega) (some_small HLF.out.2.2.2.1 HEw.out)
            rw [some_sum, HSz.out] at hzs
            have HZs := Lib.hid hzs
            have HE10 := Lib.hid ((HE9.out.below bb).mono bb.size); have HX10 := Lib.hid ((HX9.out.below bb).mono bb.size); have HFh10 := Lib.hid ((HFh9.out.below bb).mono bb.size)
            have B10 := Lib.hid (B9.out.trans (bb.mono B9.out.size))
            have hxs := lsum_any xa xc XA X x10 HX10.out (by omega) HXw.out
            rw [← HXe.out] at hxs
            rw [some_sum, HXe.out, HSx.out] at hxs
            have HXs := Lib.hid hxs
            clear hZ hZE hzs hxs bb HE9 HX9 HFh9
            go_wp2_with fail
            refine HZs.out.mono ?_
            rintro e wz ⟨rfl, rfl⟩
            go_wp2_with fail
            refine HXs.out.mono ?_
            rintro e wz ⟨rfl, rfl⟩
            clear HZs HXs HZE
            go_wp2_with fail
            refine (works_any _).mono ?_
            rintro e w7 ⟨rfl, b7⟩
            have Bz := Lib.hid (B10.out.trans (b7.mono B10.out.size))
            clear b7
            go_wp2_with fail
            go_ret
            exact ⟨rfl, Bz.out⟩
end Go.Proofs.Ytbmcflmflmlmaaa
