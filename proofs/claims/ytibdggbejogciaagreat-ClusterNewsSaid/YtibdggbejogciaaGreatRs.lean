/- The walk of below of the document's view: how many clusters the lighter edges leave. Conditions: New has made the view. -/
import Derived.Test.YtibdggbejogciaaGreatRu
import Derived.Test.YtibdggbejogciaaGreatMe
import Derived.Test.YtibdggbejogciaaGreatRcS
import Derived.Test.YtibdggbejogciaaGreatCk
import Derived.BigRegion
import Derived.BigQuiet
import Derived.IntWalk
namespace Go.Proofs.YtibdggbejogciaaGreat
open Go.RowKit
section
variable {vb n : Nat} {E : List Ed} {w : World}
theorem litG (w : World) (n : Int) (v : Value) : Row (w.alloc (.cells #[.bool true, .int .i64 n, v] 65)) w.heap.size 3 (fun i => (#[.bool true, .int .i64 n, v] : Array Value).getD i undef) := Row.lit w _ _ (by simp) fun i hi => by
  match i, hi with
  | 0, _ => rfl
  | 1, _ => rfl
  | 2, _ => rfl
  | n + 3, h => omega
set_option maxRecDepth 100000 in
set_option maxHeartbeats 2000000 in
theorem rbelow_any (x : Int) (h : RwAt w w.heap.size vb n E) : Calls Tryz.prog 33 #[.pointer (some ⟨vb, 0, none⟩), .int .i64 x] w fun e w' => e = .returned (.int .i64 (cntN n (lbB E x) : Nat)) ∧ Below w.heap.size w w' := by
  have HG := Lib.hid (show GOk n (belE E x) from filt_ok h.ok _)
  have hml := h.ok.m_le
  obtain ⟨gb, _, c1, hg⟩ := h.ex
  have hvb := h.lt
  have hgb := hg.lt
  have c2 := hg.num
  obtain ⟨a, cap, A, c3, hE⟩ := hg.edges
  have HC := Lib.hid (fun (W : World) (hW : Below w.heap.size w W) => And.intro ((hW.cell (p := ⟨vb, 1, none⟩) hvb).trans c1) (And.intro ((hW.cell (p := ⟨gb, 1, none⟩) hgb).trans c2) ((hW.cell (p := ⟨gb, 2, none⟩) hgb).trans c3)))
  have HE := Lib.hid hE
  clear h hg c1 c2 c3 hE hvb hgb
  go_enter Tryz.func33, Tryz.ntmps33
  go_wp2_with fail
  go_loopw [5, 6] (fun v iv wr => ∃ k : Nat, k ≤ E.length ∧ iv = .int .i64 (k : Nat) ∧ Hid (OwnE w.heap.size v (belE (E.take k) x) wr) ∧ Hid (Below w.heap.size w wr)) (fun _ iv _ => E.length - (intOf iv).toNat)
  case atStart => exact ⟨0, Nat.zero_le _, rfl, Lib.hid (OwnE.nil _ _), Lib.hid (Below.refl _ _)⟩
  case round =>
    obtain ⟨k, hk, rfl, HO, BW⟩ := hrel
    obtain ⟨l1, l2, l3⟩ := HC.out wr BW.out
    by_cases hlt : k < E.length
    · have ix := HE.out.ix k hlt
      have hEr := HE.out.below BW.out
      have e0 := ES.u hEr hlt
      have e1 := ES.v hEr hlt
      have e2 := ES.w hEr hlt
      have HT := Lib.hid (show belE (E.take (k + 1)) x = if decide ((eAt E k).w < x) = true then belE (E.take k) x ++ [eAt E k] else belE (E.take k) x from filtE_take _ hlt)
      have hPl : (belE (E.take k) x).length ≤ 16384 := by
        have h1 := List.length_filter_le (fun e : Ed => decide (e.w < x)) (E.take k)
        rw [List.length_take] at h1
        unfold belE; omega
      clear hEr
      obtain ⟨P, hP⟩ : ∃ P, belE (E.take k) x = P := ⟨_, rfl⟩
      rw [hP] at HO HT hPl
      obtain ⟨u, hu⟩ : ∃ u, (eAt E k).u = u := ⟨_, rfl⟩
      obtain ⟨y, hy⟩ : ∃ y, (eAt E k).v = y := ⟨_, rfl⟩
      obtain ⟨z, hz⟩ : ∃ z, (eAt E k).w = z := ⟨_, rfl⟩
      have HEd := Lib.hid (show eAt E k = ⟨u, y, z⟩ by rw [← hu, ← hy, ← hz])
      rw [hu] at e0; rw [hy] at e1; rw [hz] at e2 HT
      clear hP hu hy hz
      by_cases hc : z < x
      · have d1 : decide (z < x) = true := decide_eq_true hc
        rw [if_pos d1] at HT
        have HOW := Lib.hid (show wr.ownsRow w.heap.size 57 3 u5 P.length (flat (edC P) P.length 3) from HO.out)
        clear hc
        go_wp2_with (at_builtin; refine push etE rfl _ _ rfl w.heap.size _ _ _ HOW.out rfl #[.int .i64 u, .int .i64 y, .int .i64 z] _ rfl rfl rfl (by simp [Value.oneCell']) (by omega) (by omega) BW.out.size ?_; intro g cp w5 hown5 hg5 hv5)
        have hb5 : Below w.heap.size w w5 := BW.out.grown hg5 BW.out.size (fun j e => (HOW.out.lt j e).1)
        go_roundw
        case rel =>
          refine ⟨k + 1, by omega, by go_num, Lib.hid ?_, Lib.hid hb5⟩
          rw [HT.out, HEd.out]
          exact OwnE.snoc (x := ⟨u, y, z⟩) hown5
        case measure => simp only [intOf]; omega
      · have d1 : decide (z < x) = false := decide_eq_false hc
        have HT2 := Lib.hid (HT.out.trans (if_neg (by rw [d1]; decide)))
        clear hc HT
        go_wp2_with fail
        go_roundw
        case rel =>
          refine ⟨k + 1, by omega, by go_num, Lib.hid ?_, BW⟩
          rw [HT2.out]
          exact HO.out
        case measure => simp only [intOf]; omega
    · have hkn : k = E.length := by omega
      subst hkn
      have hO := HO.out
      rw [List.take_length] at hO
      obtain ⟨ea, ec, EA, rfl, hF⟩ := hO.rd
      have HF := Lib.hid hF
      clear hO hF HO HE
      obtain ⟨F, hFe⟩ : ∃ F, belE E x = F := ⟨_, rfl⟩
      have HFe := Lib.hid hFe
      rw [hFe] at HF HG ⊢
      clear hFe
      go_wp2_with fail
      have bA : Below wr.heap.size wr (wr.alloc (.cells #[.bool true, .int .i64 (n : Nat), .slice ea F.length ec] 65)) := (Below.refl _ _).alloc (Nat.le_refl _) _
      have r := litG wr (n : Nat) (.slice ea F.length ec)
      have hR : RAt (wr.alloc (.cells #[.bool true, .int .i64 (n : Nat), .slice ea F.length ec] 65)) (wr.alloc (.cells #[.bool true, .int .i64 (n : Nat), .slice ea F.length ec] 65)).heap.size wr.heap.size n F :=
        ⟨HG.out, by simp, r.cell (i := 0) (by omega), r.cell (i := 1) (by omega), ea, ec, EA, r.cell (i := 2) (by omega), (HF.out.below bA).mono bA.size⟩
      have HC5 := Lib.hid (rcomps_any _ _ n F _ hR (Nat.le_refl _))
      have B5 := Lib.hid (BW.out.trans (bA.mono BW.out.size))
      clear hR r bA HF BW l1 l2 l3 HC
      refine HC5.out.mono ?_
      rintro e w5 ⟨v5, rfl, hc, b5⟩
      obtain ⟨a5, c5, A5, RV, rfl, _, _⟩ := hc.rd
      rw [lbL_len, ← HFe.out, belE_lab]
      have B6 := Lib.hid (B5.out.trans (b5.mono B5.out.size))
      clear hc b5 B5 HC5
      go_wp2_with fail
      go_ret
      exact ⟨rfl, B6.out⟩
end
end Go.Proofs.YtibdggbejogciaaGreat

/- Plain facts: the steps among the first edges, and a weight laid into them. No program. -/
namespace Go.Proofs.YtibdggbejogciaaGreat

/-- the steps among the first edges -/
structure StepsTo (n : Nat) (E : List Ed) (k : Nat) (l : List Int) : Prop where
  up : l.Pairwise (· < ·)
  wt : ∀ x, x ∈ l → ∃ i, i < k ∧ (eAt E i).w = x
  at_ : ∀ i, i < k → ((eAt E i).w ∈ l ↔ mrg n E (eAt E i).w = true)
theorem StepsTo.all {n : Nat} {E : List Ed} {l : List Int} (h : StepsTo n E E.length l) : IsSteps n E l := ⟨h.up, h.wt, h.at_⟩
theorem StepsTo.nil (n : Nat) (E : List Ed) : StepsTo n E 0 [] := ⟨List.Pairwise.nil, fun _ h => by simp at h, fun i h => absurd h (by omega)⟩
theorem StepsTo.old {n k : Nat} {E : List Ed} {l : List Int} (h : StepsTo n E k l) {x : Int} (hx : x ∈ l) : mrg n E x = true := by
  obtain ⟨i, hi, e⟩ := h.wt x hx
  have := (h.at_ i hi).1 (by rw [e]; exact hx)
  rwa [e] at this
theorem StepsTo.skip {n k : Nat} {E : List Ed} {l : List Int} (h : StepsTo n E k l) (hx : (eAt E k).w ∈ l ∨ mrg n E (eAt E k).w = false) : StepsTo n E (k + 1) l := by
  refine ⟨h.up, fun x hx => ?_, fun i hi => ?_⟩
  · obtain ⟨i, hi, e⟩ := h.wt x hx
    exact ⟨i, by omega, e⟩
  · by_cases c : i < k
    · exact h.at_ i c
    · obtain rfl : i = k := by omega
      constructor
      · exact h.old
      · intro hm
        rcases hx with hx | hx
        · exact hx
        · rw [hx] at hm; cases hm
/-- a weight laid into a list -/
def insZ (l : List Int) (x : Int) (j : Nat) : List Int := l.take j ++ x :: l.drop j
theorem insZ_end {l : List Int} {x : Int} : insZ l x l.length = l ++ [x] := by unfold insZ; rw [List.take_length, List.drop_length]
theorem insZ_len {l : List Int} {x : Int} {j : Nat} : (insZ l x j).length = l.length + 1 := by
  unfold insZ; rw [List.length_append, List.length_cons, List.length_take, List.length_drop]; omega
theorem insZ_mem {l : List Int} {x y : Int} {j : Nat} : y ∈ insZ l x j ↔ y = x ∨ y ∈ l := by
  unfold insZ
  rw [List.mem_append, List.mem_cons]
  constructor
  · rintro (h | rfl | h)
    · exact .inr (List.mem_of_mem_take h)
    · exact .inl rfl
    · exact .inr (List.mem_of_mem_drop h)
  · rintro (rfl | h)
    · exact .inr (.inl rfl)
    · rw [← List.take_append_drop j l, List.mem_append] at h
      rcases h with h | h
      · exact .inl h
      · exact .inr (.inr h)
theorem splitZ {l : List Int} {j : Nat} (h : j < l.length) : ∃ A x B, l = A ++ x :: B ∧ A.length = j := ⟨l.take j, l[j], l.drop (j + 1), by rw [← List.drop_eq_getElem_cons h, List.take_append_drop], by rw [List.length_take]; omega⟩
theorem insZ_at {l : List Int} {x : Int} {j : Nat} (h : j ≤ l.length) : nth (insZ l x j) j = x := by
  unfold insZ nth
  rw [List.getD_eq_getElem?_getD, List.getElem?_append_right (by rw [List.length_take]; omega), List.length_take]
  have : j - min j l.length = 0 := by omega
  rw [this]; rfl
theorem insZ_prev {l : List Int} {x : Int} {j : Nat} (h : j < l.length) : nth (insZ l x (j + 1)) j = nth l j := by
  unfold insZ nth
  rw [List.getD_eq_getElem?_getD, List.getElem?_append_left (by rw [List.length_take]; omega), List.getElem?_take, if_pos (by omega), List.getD_eq_getElem?_getD]
theorem insZ_swap {l : List Int} {x : Int} {j : Nat} (h : j < l.length) : ((insZ l x (j + 1)).set (j + 1) (nth l j)).set j x = insZ l x j := by
  obtain ⟨A, y, B, rfl, rfl⟩ := splitZ h
  have h1 : List.take (A.length + 1) A = A := List.take_of_length_le (by omega)
  have h2 : List.drop (A.length + 1) A = [] := List.drop_eq_nil_of_le (by omega)
  simp [insZ, nth, List.take_append, List.drop_append, h1, h2]
theorem take_lt {l : List Int} {c : Nat} {x : Int} (h : ∀ i, i < c → nth l i < x) {y : Int} (hy : y ∈ l.take c) : y < x := by
  obtain ⟨i, hi, e⟩ := List.mem_iff_getElem.1 hy
  rw [List.length_take] at hi
  have := h i (by omega)
  rw [nth_eq (by omega)] at this
  rw [← e, List.getElem_take]; exact this
theorem drop_gt {l : List Int} (hl : l.Pairwise (· < ·)) {c : Nat} {x : Int} (h : c < l.length → x < nth l c) {y : Int} (hy : y ∈ l.drop c) : x < y := by
  by_cases hc : c < l.length
  · have h1 := h hc
    rw [nth_eq hc] at h1
    rw [List.drop_eq_getElem_cons hc] at hy
    have h2 : (l[c] :: l.drop (c + 1)).Pairwise (· < ·) := by rw [← List.drop_eq_getElem_cons hc]; exact hl.sublist (List.drop_sublist _ _)
    rcases List.mem_cons.1 hy with rfl | hy
    · exact h1
    · exact Int.lt_trans h1 ((List.pairwise_cons.1 h2).1 y hy)
  · rw [List.drop_eq_nil_of_le (by omega)] at hy; simp at hy
theorem StepsTo.ins {n k c : Nat} {E : List Ed} {l : List Int} (h : StepsTo n E k l) (hlt : ∀ i, i < c → nth l i < (eAt E k).w) (hgt : c < l.length → (eAt E k).w < nth l c) (hm : mrg n E (eAt E k).w = true) : StepsTo n E (k + 1) (insZ l (eAt E k).w c) := by
  refine ⟨?_, fun x hx => ?_, fun i hi => ?_⟩
  · unfold insZ
    have hs := h.up
    refine List.pairwise_append.2 ⟨hs.sublist (List.take_sublist _ _), List.pairwise_cons.2 ⟨fun y hy => drop_gt hs hgt hy, hs.sublist (List.drop_sublist _ _)⟩, fun y hy z hz => ?_⟩
    have h1 := take_lt hlt hy
    rcases List.mem_cons.1 hz with rfl | hz
    · exact h1
    · exact Int.lt_trans h1 (drop_gt hs hgt hz)
  · rcases insZ_mem.1 hx with rfl | hx
    · exact ⟨k, by omega, rfl⟩
    · obtain ⟨i, hi, e⟩ := h.wt x hx
      exact ⟨i, by omega, e⟩
  · rw [insZ_mem]
    by_cases c2 : i < k
    · constructor
      · rintro (e | h1)
        · rw [e]; exact hm
        · exact (h.at_ i c2).1 h1
      · exact fun h1 => .inr ((h.at_ i c2).2 h1)
    · obtain rfl : i = k := by omega
      exact ⟨fun _ => hm, fun _ => .inl rfl⟩
end Go.Proofs.YtibdggbejogciaaGreat

/- The walk of Steps of the document's view: an insertion sort of the weights at which clusters merge. Conditions: New has made the view. -/
namespace Go.Proofs.YtibdggbejogciaaGreat
open Go.RowKit
section
variable {vb n : Nat} {E : List Ed} {w : World}
theorem flatZ (l : List Int) : flat (nums .i64 l) l.length 1 = l.map (Value.int .i64) := flat_nums .i64 l
theorem ownZ {w : World} {base : Nat} {v : Value} {l : List Int} (h : w.ownsRow base 2 1 v l.length (l.map (Value.int .i64))) : ∃ a cap A, v = .slice a l.length cap ∧ Rd 30 1 w w.heap.size (.slice a l.length cap) l.length (nums .i64 l) A := by
  rw [← flatZ] at h
  obtain ⟨a, cap, A, rfl, h2⟩ := Rd.own etI64 h
  exact ⟨a, cap, A, rfl, h2⟩
theorem zAt {l : List Int} {i : Nat} (h : i < l.length) : (l.map (Value.int .i64))[i]? = some (.int .i64 (nth l i)) := by
  rw [List.getElem?_map, List.getElem?_eq_getElem h, nth_eq h]; rfl
set_option maxRecDepth 100000 in
set_option maxHeartbeats 8000000 in
theorem rsteps_any (h : RwAt w w.heap.size vb n E) : Calls Tryz.prog 11 #[.pointer (some ⟨vb, 0, none⟩)] w fun e w' => ∃ l, IsSteps n E l ∧ l.length ≤ E.length ∧ RdsW l w e w' := by
  have HV := Lib.hid (rwvalid_yes h)
  have hml := h.ok.m_le
  have HW := Lib.hid h
  obtain ⟨gb, _, c1, hg⟩ := h.ex
  have hvb := h.lt
  have hgb := hg.lt
  obtain ⟨a, cap, A, c3, hE⟩ := hg.edges
  have HC := Lib.hid (fun (W : World) (hW : Below w.heap.size w W) => And.intro ((hW.cell (p := ⟨vb, 1, none⟩) hvb).trans c1) ((hW.cell (p := ⟨gb, 2, none⟩) hgb).trans c3))
  have HE := Lib.hid hE
  clear h hg c1 c3 hE hvb hgb
  go_enter Tryz.func11, Tryz.ntmps11
  go_wp2_with fail
  refine HV.out.mono ?_
  rintro e w ⟨rfl, rfl⟩
  clear HV
  go_wp2_with fail
  go_loopw [3, 4] (fun v iv wr => ∃ (i : Nat) (l : List Int), i ≤ E.length ∧ l.length ≤ i ∧ iv = .int .i64 (i : Nat) ∧ Hid (StepsTo n E i l) ∧ Hid (wr.ownsRow w.heap.size 2 1 v l.length (l.map (Value.int .i64))) ∧ Hid (Below w.heap.size w wr)) (fun _ iv _ => E.length - (intOf iv).toNat)
  case atStart => exact ⟨0, [], Nat.zero_le _, Nat.zero_le _, rfl, Lib.hid (StepsTo.nil n E), Lib.hid (World.ownsRow_nil _ _ _ _), Lib.hid (Below.refl _ _)⟩
  case round =>
    obtain ⟨i, l, hi, hli, rfl, HT, HO, BW⟩ := hrel
    obtain ⟨l1, l2⟩ := HC.out wr BW.out
    by_cases hlt : i < E.length
    · have ix := HE.out.ix i hlt
      have e2 := ES.w (HE.out.below BW.out) hlt
      obtain ⟨va, vc, VA, rfl, hR⟩ := ownZ HO.out
      have HR := Lib.hid hR
      obtain ⟨x, hx⟩ : ∃ x, (eAt E i).w = x := ⟨_, rfl⟩
      have HX := Lib.hid hx
      rw [hx] at e2
      obtain ⟨m, hm⟩ : ∃ m, l.length = m := ⟨_, rfl⟩
      have Hm := Lib.hid hm
      have HOm := Lib.hid (show wr.ownsRow w.heap.size 2 1 (.slice va m vc) m (l.map (Value.int .i64)) by rw [← hm]; exact HO.out)
      rw [hm] at HR hli ⊢
      clear hx hm hR HO
      go_wp2_with fail
      go_loopw [6] (fun cv w2 => ∃ c : Nat, c ≤ m ∧ cv = .int .i64 (c : Nat) ∧ Hid (∀ q, q < c → nth l q < x) ∧ w2 = wr) (fun cv _ => m - (intOf cv).toNat)
      case atStart => exact ⟨0, Nat.zero_le _, rfl, Lib.hid fun q hq => absurd hq (by omega), rfl⟩
      case round =>
        obtain ⟨c, hcm, rfl, HQ, rfl⟩ := hrel
        by_cases hc : c < m
        · have ic := HR.out.ix c hc
          have k0 : wr.cell? (VA c) = some (.int .i64 (nth l c)) := by
            have h0 := HR.out.cell c hc 0 (by omega)
            rw [add_zero] at h0
            exact h0
          obtain ⟨y, hy⟩ : ∃ y, nth l c = y := ⟨_, rfl⟩
          have HY := Lib.hid hy
          rw [hy] at k0
          clear hy
          by_cases hyx : y < x
          · have d1 : decide (y < x) = true := decide_eq_true hyx
            go_wp2_with fail
            go_roundw
            case rel => exact ⟨c + 1, by omega, by go_num, Lib.hid fun q hq => by
              by_cases hqc : q < c
              · exact HQ.out q hqc
              · obtain rfl : q = c := by omega
                rw [HY.out]; exact hyx, by first | trivial | rfl⟩
            case measure => simp only [intOf]; omega
          · have d1 : decide (y < x) = false := decide_eq_false hyx
            by_cases hyq : y = x
            · subst hyq
              have d2 : (y == y) = true := by simp
              have d3 : decide (y = y) = true := by simp
              go_wp2_with fail
              go_roundw
              case rel => exact ⟨i + 1, l, by omega, by have := Hm.out; omega, by go_num, Lib.hid (HT.out.skip (.inl (by rw [HX.out, ← HY.out, nth_eq (by have := Hm.out; omega)]; exact List.getElem_mem _))), Lib.hid (by have := HOm.out; rw [Hm.out]; exact this), BW⟩
              case measure => simp only [intOf]; omega
            · have d2 : (y == x) = false := by simpa using hyq
              have d3 : decide (y = x) = false := decide_eq_false hyq
              have HGt := Lib.hid (show c < l.length → x < nth l c from fun _ => by rw [HY.out]; omega)
              clear hyx hyq HY
              have HRw := Lib.hid (HW.out.at BW.out)
              go_wp2_with fail
              refine (rwcount_any _ n (lbW E x) x (rwall_any x HRw.out)).mono ?_
              rintro e w3 ⟨rfl, b3⟩
              have HRw3 := Lib.hid (HRw.out.at b3)
              have B3 := Lib.hid b3
              clear b3
              go_wp2_with fail
              refine (rbelow_any x HRw3.out).mono ?_
              rintro e w4 ⟨rfl, b4⟩
              have b34 := B3.out.trans (b4.mono B3.out.size)
              have B4 := Lib.hid (BW.out.trans (b34.mono BW.out.size))
              have HO4 := Lib.hid (ownsRow_below HOm.out b34)
              have HMg := Lib.hid (show mrg n E x = decide (cntN n (lbW E x) ≠ cntN n (lbB E x)) from rfl)
              clear b4 b34 B3 HRw HRw3 HOm HR
              obtain ⟨p, hp⟩ : ∃ p, cntN n (lbW E x) = p := ⟨_, rfl⟩
              obtain ⟨q, hq⟩ : ∃ q, cntN n (lbB E x) = q := ⟨_, rfl⟩
              rw [hp] at HMg ⊢; rw [hq] at HMg ⊢
              clear hp hq
              by_cases hpq : p = q
              · subst hpq
                have HM2 := Lib.hid (show mrg n E x = false from HMg.out.trans (by simp))
                have d5 : (((p : Nat) : Int) == ((p : Nat) : Int)) = true := by simp
                have d6 : decide (((p : Nat) : Int) = ((p : Nat) : Int)) = true := by simp
                clear HMg
                go_wp2_with fail
                go_roundw
                case rel => exact ⟨i + 1, l, by omega, by have := Hm.out; omega, by go_num, Lib.hid (HT.out.skip (.inr (by rw [HX.out]; exact HM2.out))), Lib.hid (by have := HO4.out; rw [Hm.out]; exact this), B4⟩
                case measure => simp only [intOf]; omega
              · have d5 : (((p : Nat) : Int) == ((q : Nat) : Int)) = false := beq_eq_false_iff_ne.2 (by omega)
                have d6 : decide (((p : Nat) : Int) = ((q : Nat) : Int)) = false := decide_eq_false (by omega)
                have HM2 := Lib.hid (HMg.out.trans (show decide (p ≠ q) = true from decide_eq_true hpq))
                have hst : StepsTo n E (i + 1) (insZ l x c) := by
                  have h := HT.out.ins (c := c) (by rw [HX.out]; exact HQ.out) (by rw [HX.out]; exact HGt.out) (by rw [HX.out]; exact HM2.out)
                  rw [HX.out] at h
                  exact h
                have HSt := Lib.hid hst
                clear hst
                clear hpq HMg HM2
                go_wp2_with (at_builtin; refine push etI64 rfl _ _ rfl w.heap.size _ _ _ HO4.out rfl #[.int .i64 x] _ rfl rfl rfl (by simp [Value.oneCell']) (by omega) (by omega) B4.out.size ?_; intro g cp w5 hown5 hg5 hv5)
                have HB5 := Lib.hid (B4.out.grown hg5 B4.out.size (fun j e => (HO4.out.lt j e).1))
                have HO5 := Lib.hid (show w5.ownsRow w.heap.size 2 1 (.slice (some ⟨g, 0, none⟩) (m + 1 : Nat) cp) (m + 1) ((insZ l x m).map (Value.int .i64)) by
                  rw [← Hm.out, insZ_end, List.map_append]; rw [← Hm.out] at hown5; exact hown5)
                have hgl := (hown5.lt g rfl).1
                have hw0 : IntKind.i64.wrap (((m + 1 : Nat) : Int) - 1) = (m : Nat) := by rw [IntWalk.i64_in _ (by omega)]; omega
                clear hown5 hg5 hv5 HO4
                go_wp2_with fail
                go_loopw [7] (fun jv w6 => ∃ j : Nat, c ≤ j ∧ j ≤ m ∧ jv = .int .i64 (j : Nat) ∧ Hid (w6.ownsRow w.heap.size 2 1 (.slice (some ⟨g, 0, none⟩) (m + 1 : Nat) cp) (m + 1) ((insZ l x j).map (Value.int .i64))) ∧ Hid (Below w.heap.size w w6)) (fun jv _ => (intOf jv).toNat)
                case atStart => exact ⟨m, by omega, Nat.le_refl _, by first | rfl | (rw [hw0]), HO5, HB5⟩
                case round =>
                  obtain ⟨j, hcj, hjm, rfl, HO6, BW6⟩ := hrel
                  by_cases hj : c < j
                  · obtain ⟨p2, hp2⟩ : ∃ p2, j = p2 + 1 := ⟨j - 1, by omega⟩
                    have hlen : (insZ l x j).length = m + 1 := by rw [insZ_len, Hm.out]
                    have hlm := Hm.out
                    have z1 := zAt (l := insZ l x j) (i := j) (by omega)
                    have z2 := zAt (l := insZ l x j) (i := p2) (by omega)
                    rw [insZ_at (by omega)] at z1
                    rw [hp2] at z2
                    rw [insZ_prev (by omega), ← hp2] at z2
                    obtain ⟨y2, hy2⟩ : ∃ y2, nth l p2 = y2 := ⟨_, rfl⟩
                    rw [hy2] at z2
                    obtain ⟨k1, f1⟩ := own_cell HO6.out z1
                    obtain ⟨k2, f2⟩ := own_cell HO6.out z2
                    have HSet := Lib.hid (show (((insZ l x j).map (Value.int .i64)).set j (.int .i64 y2)).set p2 (.int .i64 x) = (insZ l x p2).map (Value.int .i64) by
                      rw [← List.map_set, ← List.map_set, ← hy2, hp2, insZ_swap (by omega)])
                    have HP := Lib.hid hp2
                    have hw : IntKind.i64.wrap ((j : Int) - 1) = (p2 : Nat) := by rw [IntWalk.i64_in _ (by omega)]; omega
                    have hb1 : (0 : Int) ≤ j ∧ (j : Int) < (m : Int) + 1 := by omega
                    have hb2 : (0 : Int) ≤ p2 ∧ (p2 : Int) < (m : Int) + 1 := by omega
                    have d7 : decide ((j : Int) > (c : Nat)) = true := decide_eq_true (by omega)
                    have d8 : decide (c < j) = true := decide_eq_true hj
                    have hpj : p2 ≠ j := by omega
                    have k3 : ∀ v, (wr.setCell ⟨g, j, none⟩ v).cell? ⟨g, p2, none⟩ = some (.int .i64 y2) := fun v => by
                      rw [World.cell?_setCell_other (h := fun e => by cases e; exact hpj rfl)]; exact k2
                    have f3 : ∀ v, (wr.setCell ⟨g, j, none⟩ v).frozen? ⟨g, p2, none⟩ = false := fun v => by
                      rw [World.frozen?_setCell]; exact f2
                    clear hp2 hlen z1 z2 hy2 hpj hlm
                    go_wp2_with fail
                    go_region
                    go_wp2_with fail
                    go_roundw
                    case rel =>
                      have hp3 := HP.out
                      refine ⟨p2, by omega, by omega, by first | rfl | (rw [hw]), ?_, ?_⟩
                      · rw [← HSet.out]; exact Lib.hid (own_set (own_set (ownsRow_below HO6.out (below_drewN (Below.refl _ _) _)) _) _)
                      · exact Lib.hid (((below_drewN BW6.out _).setCell (p := ⟨g, j, none⟩) hgl _).setCell (p := ⟨g, p2, none⟩) hgl _)
                    case measure => have := HP.out; simp only [intOf]; omega
                  · have hjc : c = j := by omega
                    subst hjc
                    have d7 : decide (((c : Nat) : Int) > (c : Nat)) = false := decide_eq_false (by omega)
                    have d8 : decide (c < c) = false := decide_eq_false (by omega)
                    go_wp2_with fail
                    go_roundw
                    case rel => exact ⟨i + 1, insZ l x c, by omega, by rw [insZ_len]; have := Hm.out; omega, by go_num, HSt, Lib.hid (by have := HO6.out; rw [insZ_len, Hm.out]; exact this), BW6⟩
                    case measure => simp only [intOf]; omega
        · have hcm2 : c = m := by omega
          have HGt := Lib.hid (show c < l.length → x < nth l c from fun h => absurd h (by have := Hm.out; omega))
          have hcm3 : m = c := hcm2.symm
          clear hcm2
          subst hcm3
          have HRw := Lib.hid (HW.out.at BW.out)
          go_wp2_with fail
          refine (rwcount_any _ n (lbW E x) x (rwall_any x HRw.out)).mono ?_
          rintro e w3 ⟨rfl, b3⟩
          have HRw3 := Lib.hid (HRw.out.at b3)
          have B3 := Lib.hid b3
          clear b3
          go_wp2_with fail
          refine (rbelow_any x HRw3.out).mono ?_
          rintro e w4 ⟨rfl, b4⟩
          have b34 := B3.out.trans (b4.mono B3.out.size)
          have B4 := Lib.hid (BW.out.trans (b34.mono BW.out.size))
          have HO4 := Lib.hid (ownsRow_below HOm.out b34)
          have HMg := Lib.hid (show mrg n E x = decide (cntN n (lbW E x) ≠ cntN n (lbB E x)) from rfl)
          clear b4 b34 B3 HRw HRw3 HOm HR
          obtain ⟨p, hp⟩ : ∃ p, cntN n (lbW E x) = p := ⟨_, rfl⟩
          obtain ⟨q, hq⟩ : ∃ q, cntN n (lbB E x) = q := ⟨_, rfl⟩
          rw [hp] at HMg ⊢; rw [hq] at HMg ⊢
          clear hp hq
          by_cases hpq : p = q
          · subst hpq
            have HM2 := Lib.hid (show mrg n E x = false from HMg.out.trans (by simp))
            have d5 : (((p : Nat) : Int) == ((p : Nat) : Int)) = true := by simp
            have d6 : decide (((p : Nat) : Int) = ((p : Nat) : Int)) = true := by simp
            clear HMg
            go_wp2_with fail
            go_roundw
            case rel => exact ⟨i + 1, l, by omega, by have := Hm.out; omega, by go_num, Lib.hid (HT.out.skip (.inr (by rw [HX.out]; exact HM2.out))), Lib.hid (by have := HO4.out; rw [Hm.out]; exact this), B4⟩
            case measure => simp only [intOf]; omega
          · have d5 : (((p : Nat) : Int) == ((q : Nat) : Int)) = false := beq_eq_false_iff_ne.2 (by omega)
            have d6 : decide (((p : Nat) : Int) = ((q : Nat) : Int)) = false := decide_eq_false (by omega)
            have HM2 := Lib.hid (HMg.out.trans (show decide (p ≠ q) = true from decide_eq_true hpq))
            have hst : StepsTo n E (i + 1) (insZ l x m) := by
              have h := HT.out.ins (c := m) (by rw [HX.out]; exact HQ.out) (by rw [HX.out]; exact HGt.out) (by rw [HX.out]; exact HM2.out)
              rw [HX.out] at h
              exact h
            have HSt := Lib.hid hst
            clear hst
            clear hpq HMg HM2
            go_wp2_with (at_builtin; refine push etI64 rfl _ _ rfl w.heap.size _ _ _ HO4.out rfl #[.int .i64 x] _ rfl rfl rfl (by simp [Value.oneCell']) (by omega) (by omega) B4.out.size ?_; intro g cp w5 hown5 hg5 hv5)
            have HB5 := Lib.hid (B4.out.grown hg5 B4.out.size (fun j e => (HO4.out.lt j e).1))
            have HO5 := Lib.hid (show w5.ownsRow w.heap.size 2 1 (.slice (some ⟨g, 0, none⟩) (m + 1 : Nat) cp) (m + 1) ((insZ l x m).map (Value.int .i64)) by
              rw [← Hm.out, insZ_end, List.map_append]; rw [← Hm.out] at hown5; exact hown5)
            have hgl := (hown5.lt g rfl).1
            have hw0 : IntKind.i64.wrap (((m + 1 : Nat) : Int) - 1) = (m : Nat) := by rw [IntWalk.i64_in _ (by omega)]; omega
            clear hown5 hg5 hv5 HO4
            go_wp2_with fail
            go_loopw [7] (fun jv w6 => ∃ j : Nat, m ≤ j ∧ j ≤ m ∧ jv = .int .i64 (j : Nat) ∧ Hid (w6.ownsRow w.heap.size 2 1 (.slice (some ⟨g, 0, none⟩) (m + 1 : Nat) cp) (m + 1) ((insZ l x j).map (Value.int .i64))) ∧ Hid (Below w.heap.size w w6)) (fun jv _ => (intOf jv).toNat)
            case atStart => exact ⟨m, by omega, Nat.le_refl _, by first | rfl | (rw [hw0]), HO5, HB5⟩
            case round =>
              obtain ⟨j, hcj, hjm, rfl, HO6, BW6⟩ := hrel
              by_cases hj : m < j
              · omega
              · have hjc : m = j := by omega
                subst hjc
                have d7 : decide (((m : Nat) : Int) > (m : Nat)) = false := decide_eq_false (by omega)
                have d8 : decide (m < m) = false := decide_eq_false (by omega)
                go_wp2_with fail
                go_roundw
                case rel => exact ⟨i + 1, insZ l x m, by omega, by rw [insZ_len]; have := Hm.out; omega, by go_num, HSt, Lib.hid (by have := HO6.out; rw [insZ_len, Hm.out]; exact this), BW6⟩
                case measure => simp only [intOf]; omega
    · have hiE : i = E.length := by omega
      subst hiE
      have HI := HT.out.all
      obtain ⟨va, vc, VA, rfl, hR⟩ := ownZ HO.out
      go_wp2_with fail
      go_ret
      exact ⟨l, HI, hli, va, vc, VA, rfl, hR, BW.out⟩
end
end Go.Proofs.YtibdggbejogciaaGreat
