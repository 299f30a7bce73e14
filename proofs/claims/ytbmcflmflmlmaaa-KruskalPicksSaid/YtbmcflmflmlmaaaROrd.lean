/- The document's order of edges (an insertion sort). Conditions: the number of edges is bounded. -/
import Derived.Test.YtbmcflmflmlmaaaOwI
import Derived.Test.YtbmcflmflmlmaaaOrd
import Derived.Test.YtbmcflmflmlmaaaRegR
import Derived.BigRegion
import Derived.BigQuiet
import Derived.IntWalk
namespace Go.Proofs.Ytbmcflmflmlmaaa
open Go.RowKit

/-- the first indexes in order -/
structure OrdTo (E : List Ed) (i : Nat) (S : List Nat) : Prop where
  perm : S.Perm (List.range i)
  sorted : S.Pairwise (ltE E)
theorem OrdTo.ord {E : List Ed} {S : List Nat} (h : OrdTo E E.length S) : OrdOf E S := ⟨h.perm, h.sorted⟩
theorem OrdTo.len {E : List Ed} {i : Nat} {S : List Nat} (h : OrdTo E i S) : S.length = i := by rw [h.perm.length_eq, List.length_range]
theorem OrdTo.mem {E : List Ed} {i k : Nat} {S : List Nat} (h : OrdTo E i S) : k ∈ S ↔ k < i := by rw [h.perm.mem_iff, List.mem_range]
/-- an index laid into a list -/
def insA (S : List Nat) (i j : Nat) : List Nat := S.take j ++ i :: S.drop j
theorem insA_end {S : List Nat} {i j : Nat} (h : S.length = j) : insA S i j = S ++ [i] := by unfold insA; rw [← h, List.take_length, List.drop_length]
theorem insA_len {S : List Nat} {i j : Nat} : (insA S i j).length = S.length + 1 := by
  unfold insA; rw [List.length_append, List.length_cons, List.length_take, List.length_drop]; omega
theorem split_at {S : List Nat} {j : Nat} (h : j < S.length) : ∃ A x B, S = A ++ x :: B ∧ A.length = j := ⟨S.take j, S[j], S.drop (j + 1), by rw [← List.drop_eq_getElem_cons h, List.take_append_drop], by rw [List.length_take]; omega⟩
theorem insA_at {S : List Nat} {i j : Nat} (h : j ≤ S.length) : (insA S i j).getD j 0 = i := by
  unfold insA
  rw [List.getD_eq_getElem?_getD, List.getElem?_append_right (by rw [List.length_take]; omega), List.length_take]
  have : j - min j S.length = 0 := by omega
  rw [this]; rfl
theorem insA_prev {S : List Nat} {i j : Nat} (h : j < S.length) : (insA S i (j + 1)).getD j 0 = S.getD j 0 := by
  unfold insA
  rw [List.getD_eq_getElem?_getD, List.getElem?_append_left (by rw [List.length_take]; omega), List.getElem?_take, if_pos (by omega), List.getD_eq_getElem?_getD]
theorem insA_swap {S : List Nat} {i j : Nat} (h : j < S.length) : ((insA S i (j + 1)).set (j + 1) (S.getD j 0)).set j i = insA S i j := by
  obtain ⟨A, x, B, rfl, rfl⟩ := split_at h
  have h1 : List.take (A.length + 1) A = A := List.take_of_length_le (by omega)
  have h2 : List.drop (A.length + 1) A = [] := List.drop_eq_nil_of_le (by omega)
  simp [insA, List.take_append, List.drop_append, h1, h2]
theorem ordTo_ins {E : List Ed} {S : List Nat} {i j : Nat} (h : OrdTo E i S) (hd : ∀ k, k ∈ S.drop j → (eAt E i).w < (eAt E k).w) (ht : j = 0 ∨ ∃ p, j = p + 1 ∧ p < S.length ∧ ¬ (eAt E i).w < (eAt E (S.getD p 0)).w) : OrdTo E (i + 1) (insA S i j) := by
  refine ⟨?_, ?_⟩
  · unfold insA
    refine (List.perm_middle).trans ?_
    rw [List.take_append_drop, List.range_succ]
    exact (List.Perm.cons i h.perm).trans (List.perm_append_singleton i _).symm
  · unfold insA
    have hs := h.sorted
    rw [← List.take_append_drop j S] at hs
    obtain ⟨h1, h2, h3⟩ := List.pairwise_append.1 hs
    refine List.pairwise_append.2 ⟨h1, List.pairwise_cons.2 ⟨fun k hk => .inl (hd k hk), h2⟩, fun k hk l hl => ?_⟩
    rcases List.mem_cons.1 hl with rfl | hl
    · have hki : k < l := h.mem.1 (List.mem_of_mem_take hk)
      rcases ht with rfl | ⟨p, rfl, hp, hw⟩
      · simp at hk
      · have hle : (eAt E k).w ≤ (eAt E (S.getD p 0)).w := by
          obtain ⟨A, x, B, rfl, rfl⟩ := split_at hp
          simp [List.take_append] at hk h1 hw ⊢
          rcases hk with hk | rfl
          · have := (List.pairwise_append.1 h1).2.2 k hk x (by simp)
            unfold ltE at this; omega
          · exact Int.le_refl _
        unfold ltE; omega
    · exact h3 k hk l hl
/-- what the document's Order answers -/
def ROrdRes (E : List Ed) (w : World) (e : Ending) (w' : World) : Prop :=
  ∃ v o, e = .returned v ∧ OrdOf E o ∧ OwnI w.heap.size v o w' ∧ Below w.heap.size w w'
set_option maxRecDepth 100000 in
set_option maxHeartbeats 4000000 in
theorem rorder_any (B : Nat) (a : Option Addr) (cap : Nat) (A : Nat → Addr) (E : List Ed) (w : World) (hS : ES w B (.slice a E.length cap) E A) (hB : B ≤ w.heap.size) (hm : E.length ≤ 1000000) :
    Calls Try.prog 14 #[.slice a E.length cap] w (ROrdRes E w) := by
  have HS := Lib.hid hS
  clear hS
  go_enter Try.func14, Try.ntmps14
  go_wp2_with fail
  go_loopw [3, 4] (fun v iv wr => ∃ (i : Nat) (S : List Nat), i ≤ E.length ∧ iv = .int .i64 (i : Nat) ∧ Hid (OrdTo E i S) ∧ Hid (wr.ownsRow w.heap.size 3 1 v i ((intsN S).map (Value.int .i64))) ∧ Below w.heap.size w wr) (fun _ iv _ => E.length - (intOf iv).toNat)
  case atStart => exact ⟨0, [], Nat.zero_le _, rfl, Lib.hid ⟨by simp, by simp⟩, Lib.hid (World.ownsRow_nil _ _ _ _), Below.refl _ _⟩
  case round =>
    obtain ⟨i, S, hi, rfl, HT, HO, bel⟩ := hrel
    by_cases hlt : i < E.length
    · have hown := HO.out
      have hsz := bel.size
      clear HO
      go_wp2_with (at_builtin; refine push etI rfl _ _ rfl w.heap.size _ _ _ hown rfl #[.int .i64 (i : Nat)] _ rfl rfl rfl (by simp [Value.oneCell']) (by omega) (by omega) hsz ?_; intro g cp w5 hown5 hg5 hv5)
      have hb5 : Below w.heap.size wr w5 := (Below.refl _ wr).grown hg5 hsz (fun j e => (hown.lt j e).1)
      have bel5 := bel.trans hb5
      have HO5 := Lib.hid (show w5.ownsRow w.heap.size 3 1 (.slice (some ⟨g, 0, none⟩) (i + 1 : Nat) cp) (i + 1) ((intsN (insA S i i)).map (Value.int .i64)) by
        rw [insA_end HT.out.len, intsN_snoc, List.map_append]; exact hown5)
      have hgl := (hown5.lt g rfl).1
      clear hown hown5 hg5 hv5 hb5 bel hsz
      go_wp2_with fail
      go_loopw [5] (fun jv wr => ∃ j : Nat, j ≤ i ∧ jv = .int .i64 (j : Nat) ∧ Hid (∀ k, k ∈ S.drop j → (eAt E i).w < (eAt E k).w) ∧ Hid (wr.ownsRow w.heap.size 3 1 (.slice (some ⟨g, 0, none⟩) (i + 1 : Nat) cp) (i + 1) ((intsN (insA S i j)).map (Value.int .i64))) ∧ Below w.heap.size w wr) (fun jv _ => (intOf jv).toNat)
      case atStart => exact ⟨i, Nat.le_refl _, rfl, Lib.hid (fun k hk => by rw [← HT.out.len, List.drop_length] at hk; cases hk), HO5, bel5⟩
      case round =>
        clear HO5 bel5
        obtain ⟨j, hji, rfl, HD, HO, bel⟩ := hrel
        by_cases hj : 0 < j
        · obtain ⟨p, hp⟩ : ∃ p, j = p + 1 := ⟨j - 1, by omega⟩
          have hSl := HT.out.len
          have hlen : (insA S i j).length = i + 1 := by rw [insA_len, hSl]
          obtain ⟨x, hx⟩ : ∃ x, S.getD p 0 = x := ⟨_, rfl⟩
          have hxi : x < i := HT.out.mem.1 (by rw [← hx, List.getD_eq_getElem?_getD, List.getElem?_eq_getElem (by omega)]; exact List.getElem_mem _)
          have e1 : (insA S i j).getD j 0 = i := insA_at (by omega)
          have e2 : (insA S i j).getD p 0 = x := by rw [hp, insA_prev (by omega), hx]
          have k1 := intsN_at (l := insA S i j) (i := j) (by omega)
          have k2 := intsN_at (l := insA S i j) (i := p) (by omega)
          rw [e1] at k1; rw [e2] at k2
          obtain ⟨c1, f1⟩ := own_cell HO.out k1
          obtain ⟨c2, f2⟩ := own_cell HO.out k2
          have hEr := HS.out.below (bel.mono hB)
          have i1 := hEr.ix i (by omega)
          have i2 := hEr.ix x (by omega)
          have w1 := ES.w hEr (i := i) (by omega)
          have w2 := ES.w hEr (i := x) (by omega)
          obtain ⟨wi, hwi⟩ : ∃ z, (eAt E i).w = z := ⟨_, rfl⟩
          obtain ⟨wx, hwx⟩ : ∃ z, (eAt E x).w = z := ⟨_, rfl⟩
          rw [hwi] at w1; rw [hwx] at w2
          have HX := Lib.hid hx; have HWi := Lib.hid hwi; have HWx := Lib.hid hwx; have HP := Lib.hid hp; have HSl := Lib.hid hSl
          have hw : IntKind.i64.wrap ((j : Int) - 1) = (p : Nat) := by rw [IntWalk.i64_in _ (by omega)]; omega
          have hb1 : (0 : Int) ≤ j ∧ (j : Int) < (i : Int) + 1 := by omega
          have hb2 : (0 : Int) ≤ p ∧ (p : Int) < (i : Int) + 1 := by omega
          have d1 : decide ((j : Int) > 0) = true := decide_eq_true (by omega)
          have d2 : decide (0 < j) = true := decide_eq_true hj
          clear hx hp hSl hlen e1 e2 k1 k2 hEr hwi hwx
          by_cases hc : wi < wx
          · have d3 : decide (wi < wx) = true := decide_eq_true hc
            have HC := Lib.hid hc
            clear hc
            go_wp2_with fail
            have hpj : p ≠ j := by have := HP.out; omega
            have c3 : ∀ q v, ((wr.drewN q).setCell ⟨g, j, none⟩ v).cell? ⟨g, p, none⟩ = some (.int .i64 (x : Nat)) := fun q v => by
              rw [World.cell?_setCell_other (h := fun e => by cases e; exact hpj rfl)]; exact c2
            have f3 : ∀ q v, ((wr.drewN q).setCell ⟨g, j, none⟩ v).frozen? ⟨g, p, none⟩ = false := fun q v => by
              rw [World.frozen?_setCell]; exact f2
            have hs1 := HSl.out
            have hset : (((intsN (insA S i j)).map (Value.int .i64)).set j (.int .i64 (x : Nat))).set p (.int .i64 (i : Nat)) = (intsN (insA S i p)).map (Value.int .i64) := by
              have h1 := HX.out; have h2 := HP.out
              rw [intsN_set, intsN_set, h2, ← h1, insA_swap (by omega)]
            have HSet := Lib.hid hset
            have HD2 := Lib.hid (show ∀ k, k ∈ S.drop p → (eAt E i).w < (eAt E k).w from fun k hk => by
              have h1 := HX.out; have h2 := HP.out
              have h3 : S.drop p = x :: S.drop j := by rw [h2, ← h1, List.drop_eq_getElem_cons (by omega)]; simp [List.getD, show p < S.length by omega]
              rw [h3] at hk
              rcases List.mem_cons.1 hk with rfl | hk
              · rw [HWi.out, HWx.out]; exact HC.out
              · exact HD.out k hk)
            clear hset hpj hs1
            go_quiet (fail)
            go_wp2_with fail
            go_region
            go_wp2_with fail
            go_roundw
            case rel =>
              refine ⟨p, by have := HP.out; omega, rfl, HD2, ?_, ?_⟩
              · rw [← HSet.out]; exact Lib.hid (own_set (own_set (ownsRow_below HO.out (below_drewN (Below.refl _ _) _)) _) _)
              · exact ((below_drewN bel _).setCell (p := ⟨g, j, none⟩) hgl _).setCell (p := ⟨g, p, none⟩) hgl _
            case measure => have := HP.out; simp only [intOf]; omega
          · have d3 : decide (wi < wx) = false := decide_eq_false hc
            have HC := Lib.hid hc
            clear hc
            go_wp2_with fail
            go_quiet (fail)
            go_wp2_with fail
            go_roundw
            case rel => exact ⟨i + 1, insA S i j, by omega, by go_num, Lib.hid (ordTo_ins HT.out HD.out (.inr ⟨p, HP.out, by have := HSl.out; have := HP.out; omega, by rw [HX.out, HWi.out, HWx.out]; have := HC.out; omega⟩)), HO, below_drewN bel _⟩
            case measure => simp only [intOf]; omega
        · obtain rfl : j = 0 := by omega
          go_wp2_with fail
          go_quiet (fail)
          go_wp2_with fail
          go_roundw
          case rel => exact ⟨i + 1, insA S i 0, by omega, by go_num, Lib.hid (ordTo_ins HT.out HD.out (.inl rfl)), HO, below_drewN bel _⟩
          case measure => simp only [intOf]; omega
    · obtain rfl : i = E.length := by omega
      have HOo := HT.out.ord
      go_wp2_with fail
      go_ret
      exact ⟨_, S, rfl, HOo, by unfold OwnI; rw [HOo.len]; exact HO.out, bel⟩
end Go.Proofs.Ytbmcflmflmlmaaa
