/- The walk of Leaves of package recon. Conditions: the tree was made by Build; the node is one of a component at a threshold. -/
import Derived.Test.YtibdggbejogciaaGreatRcW
namespace Go.Proofs.YtibdggbejogciaaGreat
open Go.RowKit Go.Shelf
attribute [local go_sem] Oper.semAt_some

theorem Tryz.infoB : (Tryz.prog.info? 4).map (fun i => (i.zero, i.size, i.bytes)) = some (some (.bool false), 1, 1) := by kernel_rfl
/-- one element is appended to a row that the call owns, inside a fence -/
theorem pushIn {F : Fence} {nF : Nat} {ops : Array Oper} {rest : List Oper} {o : Oper} {a : Act} {Q : Exit → Act → World → Prop} {w0 : World} {t e : TypeId} {size bytes : Nat} (E : ET t e size bytes) (hgd : o.guard = none) (s x : Operand)
    (ho : o.op = .call { callee := .builtin .append, args := #[s, x], argTypes := #[t, t] }) (base : Nat) (v : Value) (n : Nat) (xs : List Value) (hown : w0.ownsRow base e size v n xs) (hs : a.eval s = v)
    (news : Array Value) (N : Nat) (hx : a.eval x = .slice (some ⟨N, 0, none⟩) 1 1) (hN : w0.heap.size = N) (hsz : news.size = size) (h1 : ∀ u ∈ news.toList, u.oneCell' = true)
    (hn : (n + 1) * bytes ≤ 140737488355328) (hm : n + 1 ≤ 9223372036854775807) (hbase : base ≤ w0.heap.size)
    (h : ∀ (g cap : Nat) (w1 : World), w1.ownsRow base e size (.slice (some ⟨g, 0, none⟩) (n + 1 : Nat) cap) (n + 1) (xs ++ news.toList) → (w0.alloc (.cells news e)).grownBy w1 v.ownBlock →
      wpListIn F nF Tryz.prog ops Q rest (a.put o.dst (.slice (some ⟨g, 0, none⟩) (n + 1 : Nat) cap)) w1) : wpListIn F nF Tryz.prog ops Q (o :: rest) a (w0.alloc (.cells news e)) := by
  subst hN
  obtain ⟨i, z, hi, hz, h2, h3, h4⟩ := E.info
  refine wpListIn_append_own _ hgd s x t ho base e i z size bytes E.ht hi hz h2 h3 h4 E.pos v n xs hs (hown.alloc _) ⟨w0.heap.size, 0, none⟩ 1 1 news.toList hx (by simp [hsz]) ?_ h1 (by unfold maxLen; omega) hn (by simp; omega) ?_
  · intro j u hu
    rw [add_mk, Nat.zero_add]
    have := heap_alloc_new w0 (.cells news e)
    simp only [World.cell?, this, Option.isSome_none, Bool.false_eq_true, if_false]
    rw [Array.getElem?_toList] at hu; exact hu
  · intro v' w1 hown' hg _
    obtain ⟨g, cap, rfl⟩ := ownsRow_succ hown'
    exact h g cap w1 hown' hg
/-- what lies below a node, when the nodes from c on have been treated -/
def blD (E : List Ed) (f : List Nat) (n k a c y : Nat) : Value := .bool (if c ≤ y then blT E f n k a y else decide (y = nd E f n k a))
section
variable {E : List Ed} {f : List Nat} {n k a x y : Nat}
theorem blD_zero : blD E f n k a 0 y = .bool (blT E f n k a y) := by unfold blD; rw [if_pos (Nat.zero_le _)]
theorem blD_top {z : Nat} (h : y < z) : blD E f n k a z y = .bool (decide (y = nd E f n k a)) := by unfold blD; rw [if_neg (by omega)]
theorem blD_keep (h : blT E f n k a x = decide (x = nd E f n k a)) : blD E f n k a (x + 1) y = blD E f n k a x y := by
  unfold blD
  by_cases e : y = x
  · rw [if_neg (by omega), if_pos (by omega), e, h]
  · by_cases c : x ≤ y
    · rw [if_pos c, if_pos (by omega)]
    · rw [if_neg c, if_neg (by omega)]
theorem blD_set (h : blT E f n k a x = true) : (if y = x then Value.bool true else blD E f n k a (x + 1) y) = blD E f n k a x y := by
  unfold blD
  by_cases e : y = x
  · rw [if_pos e, if_pos (by omega), e, h]
  · rw [if_neg e]
    by_cases c : x ≤ y
    · rw [if_pos c, if_pos (by omega)]
    · rw [if_neg c, if_neg (by omega)]
end
/-- the leaves of a component -/
def lvs (n : Nat) (lab : Nat → Nat) (a : Nat) : List Nat := (List.range n).filter fun x => decide (lab x = a)
theorem lvs_yes {x la : Nat} {lab : Nat → Nat} (h : lab x = la) : lvs (x + 1) lab la = lvs x lab la ++ [x] := by
  unfold lvs; rw [List.range_succ, List.filter_append, List.filter_cons, if_pos (decide_eq_true h)]; rfl
theorem lvs_no {x la : Nat} {lab : Nat → Nat} (h : ¬ lab x = la) : lvs (x + 1) lab la = lvs x lab la := by
  unfold lvs; rw [List.range_succ, List.filter_append, List.filter_cons, if_neg (by simp [h])]; simp
theorem lvs_len {x la : Nat} {lab : Nat → Nat} : (lvs x lab la).length ≤ x := by
  unfold lvs; have := List.length_filter_le (fun j => decide (lab j = la)) (List.range x); rwa [List.length_range] at this
theorem ownI_snoc {w : World} {base g cap x : Nat} {l : List Nat} (h : w.ownsRow base 3 1 (.slice (some ⟨g, 0, none⟩) (l.length + 1 : Nat) cap) (l.length + 1) ((intsN l).map (Value.int .i64) ++ #[Value.int .i64 (x : Nat)].toList)) : OwnI base (.slice (some ⟨g, 0, none⟩) (l.length + 1 : Nat) cap) (l ++ [x]) w := by
  unfold OwnI
  rw [List.length_append, List.length_singleton, intsN_snoc, List.map_append]
  exact h
def LvRes (n : Nat) (lab : Nat → Nat) (a : Nat) (w : World) (e : Ending) (w' : World) : Prop := ∃ v, e = .returned v ∧ OwnI w.heap.size v (lvs n lab a) w' ∧ Below w.heap.size w w'
set_option maxRecDepth 100000 in
set_option maxHeartbeats 2000000 in
theorem leaves_any (B n z k la q : Nat) (b : Blk) (E : List Ed) (o : List Nat) (w : World) (h : TrAt w B n z b E (frs E o)) (ho : OrdOf E o) (hB : B ≤ w.heap.size) (hk : k ≤ (frs E o).length) (hla : la < n) (hl : lbI E (frs E o) k la = la) (hq : nd E (frs E o) n k la = q) :
    Calls Tryz.prog 35 #[.agg (trV n z b), .int .i64 (q : Nat)] w (LvRes n (lbI E (frs E o) k) la w) := by
  refine (callsIn_wide (n := 8)).1 ?_
  have hA : Below w.heap.size w (w.alloc (.cells (trV n z b) 60)) := (Below.refl _ _).alloc (Nat.le_refl _) _
  have hT : TrBox (w.alloc (.cells (trV n z b) 60)) w.heap.size n z b := tr_row w n z b _
  have HTw := Lib.hid (h.mono hB)
  have h1 := (h.mono hB).below hA
  have hz8 := h.z_le
  have hze := h.z_eq
  have hnz : n ≤ z := by omega
  have hqz : q < z := by have := nd_lt (E := E) (f := frs E o) (i := k) hla; omega
  have HL := Lib.hid (leasts_any w.heap.size n z b E o _ h1 ho hA.size)
  have HDc := Lib.hid (down_call n z b)
  unfold trV at HL HDc
  obtain ⟨tv, htv⟩ : ∃ x, trV n z b = x := ⟨_, rfl⟩
  rw [htv] at hA hT h1 ⊢
  have htv2 := htv
  unfold trV at htv2
  rw [htv2] at HL HDc
  have Htv := Lib.hid htv2
  have HA := Lib.hid hA; have HT := Lib.hid hT; have H1 := Lib.hid h1
  have HS := Lib.hid (show (w.alloc (.cells tv 60)).heap.size = w.heap.size + 1 by simp)
  have c0 := hT.c0
  have c1 := hT.c1
  have c2 := hT.c2
  have c3 := hT.c3
  have c4 := hT.c4
  have c5 := hT.c5
  have Hl := Lib.hid hl; have Hq := Lib.hid hq
  clear htv htv2 h h1 hA hT hze hl hq
  refine callsIn_of_wp_marks Tryz.func35 rfl trivial ?_ rfl
  simp only [Tryz.ntmps35, List.size_toArray, List.length_cons, List.length_nil, Nat.reduceAdd, Nat.reduceSub, Array.replicate_succ, Array.replicate_zero, List.push_toArray, List.append_toArray, List.nil_append, List.cons_append]
  gi_wp2_with fail
  generalize w.alloc (.cells tv 60) = wa at *
  refine ⟨trivial, ?_⟩
  rw [Htv.out]
  refine (callsIn_wide.2 HL.out).mono ?_
  clear HL c0 c1 c2 c3 c4 c5
  rintro e w1 ⟨g, rfl, -, -, hb1⟩
  have hs1 := hb1.size
  have HBb := Lib.hid (HA.out.trans (hb1.mono HA.out.size))
  have HT2 := Lib.hid (show TrBox w1 w.heap.size n z b from Row.below HT.out hb1 (by have := HS.out; omega))
  have HSb := Lib.hid (show w.heap.size < w1.heap.size by have := HS.out; omega)
  have hqi : (0 : Int) ≤ q ∧ (q : Int) < z := by omega
  have g1 : decide ((q : Int) < 0) = false := decide_eq_false (by omega)
  have g2 : decide ((z : Int) ≤ q) = false := decide_eq_false (by omega)
  have g3 : decide (z ≤ q) = false := decide_eq_false (by omega)
  have c0 := HT2.out.c0
  have c3 := HT2.out.c3
  have hmk : (Instr.makeSlice 96 (.int .i64 (z : Nat)) (.int .i64 (z : Nat))).run Tryz.prog w1 = .ok (.slice (some ⟨w1.heap.size, 0, none⟩) z z) (w1.alloc (.cells (madeCells #[.bool false] z) 4)) :=
    run_make_row' (P := Tryz.prog) 96 4 (.bool false) 1 Tryz.underlying96 Tryz.infoB rfl .i64 .i64 z (by omega) (by omega) w1
  clear hb1 hs1 HT H1 HA HS
  have M1 : Row ((w1.alloc (.cells (madeCells #[.bool false] z) 4)).alloc (.cells #[.slice (some ⟨w1.heap.size, 0, none⟩) z z] 96)) w1.heap.size z (fun _ => .bool false) := (Row.made w1 (.bool false) z 4).alloc _
  have M2 : Boxed ((w1.alloc (.cells (madeCells #[.bool false] z) 4)).alloc (.cells #[.slice (some ⟨w1.heap.size, 0, none⟩) z z] 96)) (w1.heap.size + 1) 96 (.slice (some ⟨w1.heap.size, 0, none⟩) z z) := by
    have := Boxed.new (w1.alloc (.cells (madeCells #[.bool false] z) 4)) 96 (.slice (some ⟨w1.heap.size, 0, none⟩) z z)
    rwa [World.size_alloc] at this
  have m1 := M1.cell hqz
  have m2 := M1.frozen q
  have M1s : Row ((w1.alloc (.cells ((madeCells #[.bool false] z).setIfInBounds q (.bool true)) 4)).alloc (.cells #[.slice (some ⟨w1.heap.size, 0, none⟩) z z] 96)) w1.heap.size z (fun y => if y = q then .bool true else .bool false) := Row.alloc ⟨_, _, World.alloc_heap_new w1 _, fun i hi => by
    rw [Array.getElem?_setIfInBounds]
    by_cases e : q = i
    · rw [if_pos e, if_pos e.symm, if_pos (by simp [madeCells]; omega)]
    · rw [if_neg e, if_neg (fun c => e c.symm)]; simp [madeCells, hi, Nat.mod_one]⟩ _
  have M2s : Boxed ((w1.alloc (.cells ((madeCells #[.bool false] z).setIfInBounds q (.bool true)) 4)).alloc (.cells #[.slice (some ⟨w1.heap.size, 0, none⟩) z z] 96)) (w1.heap.size + 1) 96 (.slice (some ⟨w1.heap.size, 0, none⟩) z z) := by
    have := Boxed.new (w1.alloc (.cells ((madeCells #[.bool false] z).setIfInBounds q (.bool true)) 4)) 96 (.slice (some ⟨w1.heap.size, 0, none⟩) z z)
    rwa [World.size_alloc] at this
  have hbs : Below w1.heap.size w1 ((w1.alloc (.cells ((madeCells #[.bool false] z).setIfInBounds q (.bool true)) 4)).alloc (.cells #[.slice (some ⟨w1.heap.size, 0, none⟩) z z] 96)) := ((Below.refl _ _).alloc (Nat.le_refl _) _).alloc (by simp) _
  have hss : ((w1.alloc (.cells ((madeCells #[.bool false] z).setIfInBounds q (.bool true)) 4)).alloc (.cells #[.slice (some ⟨w1.heap.size, 0, none⟩) z z] 96)).heap.size = w1.heap.size + 2 := by simp
  have T3 : TrBox ((w1.alloc (.cells ((madeCells #[.bool false] z).setIfInBounds q (.bool true)) 4)).alloc (.cells #[.slice (some ⟨w1.heap.size, 0, none⟩) z z] 96)) w.heap.size n z b := Row.below HT2.out hbs (by have := HSb.out; omega)
  have c0 := T3.c0
  have c1 := T3.c1
  have c2 := T3.c2
  have c3' := T3.c3
  have c4 := T3.c4
  have c5 := T3.c5
  have H3 := Lib.hid (And.intro M1s (And.intro M2s (And.intro hbs (And.intro T3 hss))))
  clear M1 M2 M1s M2s hbs T3 hss
  gi_wp2_with fail
  generalize ((w1.alloc (.cells ((madeCells #[.bool false] z).setIfInBounds q (.bool true)) 4)).alloc (.cells #[.slice (some ⟨w1.heap.size, 0, none⟩) z z] 96)) = w2 at *
  refine ⟨trivial, ?_⟩
  rw [Htv.out]
  refine (callsIn_wide.2 (HDc.out _)).mono ?_
  rintro e w3 ⟨rfl, rfl⟩
  obtain ⟨hM, hV, hbs, hT3, hss⟩ := H3.out
  have hsw := HSb.out
  generalize hg0 : w1.heap.size = gb at *
  clear HDc c0 c1 c2 c3 c4 c5 c3' m1 m2 hmk g1 g2 g3 HT2 H3 HSb
  gi_wp2_with fail
  obtain ⟨W0, hW0⟩ : ∃ W0, w2.alloc (.cells tv 60) = W0 := ⟨_, rfl⟩
  have hb0 : Below w2.heap.size w2 W0 := by rw [← hW0]; exact (Below.refl _ _).alloc (Nat.le_refl _) _
  have hs0 : W0.heap.size = gb + 3 := by rw [← hW0]; simp [hss]
  have hbw2 : Below w.heap.size w w2 := HBb.out.trans (hbs.mono (Nat.le_of_lt hsw))
  have hb9 : Below w.heap.size w W0 := hbw2.trans (hb0.mono hbw2.size)
  have hv0 : Boxed W0 (gb + 1) 96 (.slice (some ⟨gb, 0, none⟩) z z) := (hb0.block _ hV.lt).trans hV
  have hbx0 : TrBox W0 (gb + 2) n z b := by
    rw [← hW0, ← Htv.out, ← hss]
    exact tr_row w2 n z b 60
  have hT0 : TrBox W0 w.heap.size n z b := Row.below hT3 hb0 (Row.lt hT3)
  have hR0 : Row W0 gb z (blD E (frs E o) n k la z) := (hM.below hb0 hM.lt).congr fun y hy => by
    rw [blD_top hy, Hq.out]
    by_cases e : y = q
    · rw [if_pos e, decide_eq_true e]
    · rw [if_neg e, decide_eq_false e]
  have hTr0 : TrAt W0 w.heap.size n z b E (frs E o) := HTw.out.below hb9
  rw [hW0]
  clear hW0 HBb hM hV hbs hT3 hss hb0 hbw2
  refine rangeR (F := Fence.wide) rfl (by omega) (gf := 71) (lb := #[.pointer (some ⟨gb + 2, 0, none⟩)]) rfl trivial (enters_of Tryz.func71 (by kernel_rfl) rfl)
    (down_stops 7 (by omega) (gb + 2) w.heap.size n z b E (frs E o) W0 hbx0 hTr0 (by omega)) keepT_t (keepT_b (by omega) (by omega)) (Below.refl _ _) (fun _ => rfl)
    (fun pre W => (Row W gb z (blD E (frs E o) n k la (z - pre.length)) ∧ Boxed W (gb + 1) 96 (.slice (some ⟨gb, 0, none⟩) z z) ∧ TrBox W w.heap.size n z b) ∧ Below w.heap.size w W)
    (fun _ _ _ => False)
    (OwnFrom.and (fun s A B row hs hg hr => ⟨row_own hs.1 hg (fun r e => (hr r e).2), boxed_own _ _ (fun _ : Unit => .slice (some ⟨gb, 0, none⟩) z z) () A B row hs.2.1 hg (fun r e => (hr r e).2), row_own hs.2.2 hg (fun r e => (hr r e).2)⟩) (ownFrom_below (Nat.le_refl _) (by omega)))
    (fun _ _ _ _ _ hs _ _ => hs)
    ⟨⟨hR0, hv0, hT0⟩, hb9⟩
    (fun _ x a' _ => a' = { tmps := #[.agg tv, .int .i64 (q : Nat), .pointer (some ⟨w.heap.size, 0, none⟩), undef, .slice none 0 0, .slice (some ⟨g, 0, none⟩) z z, .bool true, .pointer (some ⟨gb + 1, 0, none⟩), .int .i64 (x : Nat), .int .i64 (stP E (frs E o) n (frs E o).length x), undef, undef, .tuple #[.slice (some ⟨g, 0, none⟩) z z, .bool true], .agg tv, .tuple #[.slice (some ⟨g, 0, none⟩) z z, .bool true], .slice (some ⟨g, 0, none⟩) z z, .bool true, .bool true, .bool false, .bool false, .int .i64 (q : Nat), .bool false, .bool false, .bool false, .int .i64 (q : Nat), .pointer (some ⟨w.heap.size, 3, none⟩), .slice (some ⟨b.p, 0, none⟩) z z, .int .i64 (z : Nat), .bool false, .bool false, .pointer (some ⟨w.heap.size, 3, none⟩), .slice (some ⟨b.p, 0, none⟩) z z, .int .i64 (z : Nat), .slice (some ⟨gb, 0, none⟩) z z, .slice (some ⟨gb, 0, none⟩) z z, .int .i64 (q : Nat), .pointer (some ⟨gb, q, none⟩), .agg tv, .func (.func 71) #[] #[.pointer (some ⟨gb + 2, 0, none⟩)], .int .i64 (x : Nat), .int .i64 (stP E (frs E o) n (frs E o).length x), undef, undef, undef, undef, undef, undef, undef, undef, undef, undef, undef, undef, undef, undef, undef, undef, undef, undef, undef, undef, undef, undef, undef, undef, undef, undef], defers := [] })
    (fun _ _ _ _ _ _ _ hs _ _ => hs) ?assign ?body ?done ?stop
  case assign =>
    intro l pre x W K hI hR hK
    unfold dnV
    gi_wp2
    exact hK _ _ (KeepsFrom.refl _ _) ⟨Below.refl _ _, rfl⟩ hI rfl
  case body =>
    rintro l pre x a' W hl - ⟨⟨hrow, hbv, hbt⟩, hB⟩ rfl hR
    clear hR0 hv0 hT0 hTr0 hbx0 hb9
    have hxz : x < z := by omega
    have hc : z - pre.length = x + 1 := by omega
    have hc2 : z - (pre ++ [x]).length = x := by simp; omega
    rw [hc] at hrow
    have hTr := HTw.out.below hB
    have F := hTr.fo
    have hze := hTr.z_eq
    have Hc2 := Lib.hid hc2
    have HSz := Lib.hid hs0
    clear hc hc2 hR hTr hs0
    have hkeep : blT E (frs E o) n k la x = decide (x = nd E (frs E o) n k la) → Hid (KeepsFrom W0.heap.size W W ∧ KeepT w.heap.size (gb + 2) W W ∧ (Row W gb z (blD E (frs E o) n k la (z - (pre ++ [x]).length)) ∧ Boxed W (gb + 1) 96 (.slice (some ⟨gb, 0, none⟩) z z) ∧ TrBox W w.heap.size n z b) ∧ Below w.heap.size w W) := fun hlt =>
      Lib.hid ⟨KeepsFrom.refl _ _, ⟨Below.refl _ W, rfl⟩, ⟨by rw [Hc2.out]; exact hrow.congr fun y _ => by rw [blD_keep hlt], hbv, hbt⟩, hB⟩
    cases hp : pk E (frs E o) n (frs E o).length x with
    | none =>
      have hpv : stP E (frs E o) n (frs E o).length x = -1 := by unfold stP; rw [hp]; rfl
      have FIN := hkeep (blT_top F hk hla Hl.out hp)
      rw [hpv]
      clear hkeep hrow hbv hbt hB F hze hp hpv
      gi_wp2
      exact FIN.out
    | some i =>
      have hil := pk_lt hp
      have hbel := pk_below F (Nat.le_refl _) hp
      have hup := blT_up F hk hla Hl.out hp
      obtain ⟨y, hy⟩ : ∃ y, n + i = y := ⟨_, rfl⟩
      rw [hy] at hup
      have hpv : stP E (frs E o) n (frs E o).length x = ((y : Nat) : Int) := by unfold stP; rw [hp, ← hy]; rfl
      have hyz : y < z := by omega
      have hxy : x < y := by omega
      rw [hpv]
      have hyi : (0 : Int) ≤ y ∧ (y : Int) < z := by omega
      have hxi : (0 : Int) ≤ x ∧ (x : Int) < z := by omega
      have g1 : decide ((0 : Int) ≤ y) = true := decide_eq_true (by omega)
      have cv := hbv.cell
      have cy : W.cell? ⟨gb, y, none⟩ = some (.bool (blT E (frs E o) n k la y)) := by rw [hrow.cell hyz]; unfold blD; rw [if_pos (by omega)]
      cases hb : blT E (frs E o) n k la y with
      | false =>
        rw [hb] at cy hup
        rw [Bool.or_false] at hup
        have FIN := hkeep hup
        clear hkeep hrow hbv hbt hB F hze hp hpv hup hb hil hbel hy
        gi_wp2
        exact FIN.out
      | true =>
        rw [hb] at cy hup
        rw [Bool.or_true] at hup
        have cx := hrow.cell hxz
        have fx := hrow.frozen x
        have FIN := Lib.hid (show KeepsFrom W0.heap.size W (W.setCell ⟨gb, x, none⟩ (.bool true)) ∧ KeepT w.heap.size (gb + 2) W (W.setCell ⟨gb, x, none⟩ (.bool true)) ∧ (Row (W.setCell ⟨gb, x, none⟩ (.bool true)) gb z (blD E (frs E o) n k la (z - (pre ++ [x]).length)) ∧ Boxed (W.setCell ⟨gb, x, none⟩ (.bool true)) (gb + 1) 96 (.slice (some ⟨gb, 0, none⟩) z z) ∧ TrBox (W.setCell ⟨gb, x, none⟩ (.bool true)) w.heap.size n z b) ∧ Below w.heap.size w (W.setCell ⟨gb, x, none⟩ (.bool true)) from
          ⟨(KeepsOthers.setCell _ _ _).from _, ⟨(Below.refl _ W).setCell (p := ⟨gb, x, none⟩) (by show w.heap.size ≤ gb; omega) _, Below.heap_setCell _ _ _ _ (by show gb + 2 ≠ gb; omega)⟩,
           ⟨by rw [Hc2.out]; exact (hrow.set x _).congr fun j _ => blD_set hup,
            (Below.heap_setCell _ _ _ _ (by show gb + 1 ≠ gb; omega)).trans hbv, Row.setOther hbt (a := ⟨gb, x, none⟩) (by show w.heap.size ≠ gb; omega) _⟩,
           hB.setCell (p := ⟨gb, x, none⟩) (by show w.heap.size ≤ gb; omega) _⟩)
        clear hkeep hrow hbv hbt hB F hze hp hpv hup hb hil hbel hy
        gi_wp2
        exact FIN.out
  case done =>
    rintro D xs W hD hS ⟨⟨hrow, hbv, hbt⟩, hB⟩ hK
    rw [show z - xs.length = 0 by omega] at hrow
    have hRn : Row W gb n (fun y => .bool (decide (lbI E (frs E o) k y = la))) := (hrow.take hnz).congr fun y hy => by rw [blD_zero, blT_leaf hy]
    have HRn := Lib.hid hRn
    have HV := Lib.hid hbv
    have c0 := hbt.c0
    have HBw := Lib.hid hB
    have hKl := (Array.getElem?_eq_some_iff.1 hK).1
    have HK := Lib.hid hK
    clear hrow hbv hbt hB hRn hR0 hv0 hT0 hTr0 hbx0 hb9 hK hS
    gi_wp2_with fail
    clear c0
    generalize lbI E (frs E o) k = lab at *
    gi_loopw [54, 10] (fun iv vv wr => ∃ x : Nat, x ≤ n ∧ iv = .int .i64 (x : Nat) ∧ Hid (OwnI W.heap.size vv (lvs x lab la) wr) ∧ Hid (Below W.heap.size W wr)) (fun iv _ _ => n - (intOf iv).toNat)
    case atStart => exact ⟨0, Nat.zero_le _, rfl, Lib.hid (World.ownsRow_nil _ _ _ _), Lib.hid (Below.refl _ _)⟩
    case round =>
      obtain ⟨x, hx, rfl, HO, HBr⟩ := hrel
      have hvl := HV.out.lt
      by_cases hlt : x < n
      · have hxi : (0 : Int) ≤ x ∧ (x : Int) < z := by omega
        have cv : wr.cell? ⟨gb + 1, 0, none⟩ = some (.slice (some ⟨gb, 0, none⟩) z z) := (HBr.out.cell (p := ⟨gb + 1, 0, none⟩) hvl).trans HV.out.cell
        have cx : wr.cell? ⟨gb, x, none⟩ = some (.bool (decide (lab x = la))) := (HBr.out.cell (p := ⟨gb, x, none⟩) HRn.out.lt).trans (HRn.out.cell hlt)
        by_cases hlb : lab x = la
        · rw [decide_eq_true hlb] at cx
          have Hlv := Lib.hid (lvs_yes hlb)
          have hll := lvs_len (x := x) (la := la) (lab := lab)
          have hwr := HBr.out.size
          clear hlb
          gi_wp2_with (gi_at_builtin; refine pushIn etI rfl _ _ rfl W.heap.size _ (lvs x lab la).length _ HO.out rfl #[.int .i64 (x : Nat)] _ rfl rfl rfl (by simp [Value.oneCell']) (by omega) (by omega) hwr ?_; intro g2 cap2 w5 hown5 hg5; refine Hid.out ?_)
          have hb5 : Below W.heap.size W w5 := (HBr.out.alloc hwr _).grown hg5 (by simp; omega) (fun k e => by
            rcases HO.out.2 with ⟨rfl, _⟩ | ⟨g', c', cur, rfl, h1, _⟩
            · cases e
            · cases e; exact h1)
          have HO5 := Lib.hid (ownI_snoc hown5)
          have HB5 := Lib.hid hb5
          clear hown5 hg5 hb5 HO HBr
          refine Lib.hid ?_
          gi_wp2
          go_roundw
          case rel => exact ⟨x + 1, by omega, by go_num, by rw [Hlv.out]; exact HO5, HB5⟩
          case measure => simp only [intOf]; omega
        · rw [decide_eq_false hlb] at cx
          have Hlv := Lib.hid (lvs_no hlb)
          clear hlb
          gi_wp2
          go_roundw
          case rel => exact ⟨x + 1, by omega, by go_num, by rw [Hlv.out]; exact HO, HBr⟩
          case measure => simp only [intOf]; omega
      · obtain rfl : n = x := by omega
        have hKr := (HBr.out.block D hKl).trans HK.out
        have hB5 := HBw.out.trans (HBr.out.mono HBw.out.size)
        have hwW := HBw.out.size
        gi_wp2
        refine ⟨by simp, .inl ⟨_, _, rfl, run_takeDeferred hKr, ?_⟩⟩
        have HF : OwnI w.heap.size u10 (lvs n lab la) (wr.putObj D (.deferred none)) := ownsRow_putObj (own_lower HO.out hwW) _ hKr rfl
        exact ⟨_, results_tmp rfl _ _ _, u10, rfl, HF, hB5.trans (belowK_b (w := w) (Nat.le_refl _) wr D _ _ (by omega) hKr rfl rfl)⟩
  case stop =>
    rintro D c pre W _ h _
    exact h.elim
end Go.Proofs.YtibdggbejogciaaGreat
