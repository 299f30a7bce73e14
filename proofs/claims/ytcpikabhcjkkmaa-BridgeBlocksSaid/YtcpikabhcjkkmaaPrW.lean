/- The walks of has and without of the statements about bridge; edges appended to edges. Conditions: the edges lie in a row of their own. -/
import Derived.Test.YtcpikabhcjkkmaaPr8
import Derived.Test.YtcpikabhcjkkmaaMe
namespace Go.Proofs.Ytcpikabhcjkkmaa
open Go.RowKit

theorem flat_app (T M : List Ed) : flat (edC (T ++ M)) (T ++ M).length 3 = flat (edC T) T.length 3 ++ flat (edC M) M.length 3 := by
  induction M using rev_ind with
  | h0 => rw [List.append_nil]; simp [flat]
  | h1 M x ih => rw [← List.append_assoc, flat_snoc, ih, flat_snoc, List.append_assoc]
theorem run_append_none {w : World} {base : Nat} {v : Value} {T : List Ed} (h : OwnE base v T w) (ty : TypeId) (ax : Option Addr) (c : Nat) :
    (Builtin.append_ #[22, 22] ty #[v, .slice ax 0 c]).run Try.prog w = .ok v w := by
  obtain ⟨i, z, hi, hz, h2, h3, h4⟩ := etE.info
  rcases h.2 with ⟨rfl, _⟩ | ⟨g, cap, cur, rfl, hb, hg, hn, hm, hs, ht⟩
  · exact run_append_nil_nothing etE ty ax c w
  · cases ax with
    | none => simp [Builtin.append_, run_underlying etE.ht, sizeOf, typeInfo, hi, Builtin.lenOf, Builtin.firstCells, hn, storeCells]
    | some a => simp [Builtin.append_, run_underlying etE.ht, sizeOf, typeInfo, hi, Builtin.lenOf, Builtin.firstCells, loadCells, loadCellsFrom, hn, storeCells]
/-- edges are appended to edges of the call's own -/
theorem moreE {ops : Array Oper} {rest : List Oper} {o : Oper} {a : Act} {Q : Exit → Act → World → Prop} {w0 : World} (hgd : o.guard = none) (s x : Operand)
    (ho : o.op = .call { callee := .builtin .append, args := #[s, x], argTypes := #[22, 22] }) (base : Nat) (v : Value) (T : List Ed) (hown : OwnE base v T w0) (hs : a.eval s = v)
    (M : List Ed) (ax : Option Addr) (c B : Nat) (A : Nat → Addr) (hS : ES w0 B (.slice ax M.length c) M A) (hx : a.eval x = .slice ax M.length c) (hbase : base ≤ w0.heap.size) (hl : T.length + M.length ≤ 100000)
    (h : ∀ v' w1, OwnE base v' (T ++ M) w1 → w0.grownBy w1 v.ownBlock → (∀ b, v.ownBlock = some b → base ≤ b) → wpList Try.prog ops Q rest (a.put o.dst v') w1) : wpList Try.prog ops Q (o :: rest) a w0 := by
  have hlo : ∀ b, v.ownBlock = some b → base ≤ b := fun b hb => (World.ownsRow.lt hown b hb).1
  by_cases hm : M = []
  · subst hm
    refine wpList_plain hgd fun K hK => ?_
    have hr := run_append_none hown o.type ax c
    unfold Oper.wp execOp
    simp only [List.length_nil] at hx
    simp only [ho, resolve, invoke, builtin, Sem.run_bind, Sem.run_pure, Result.andThen_ok, List.map_toArray, List.map_cons, List.map_nil, hs, hx, hr]
    exact hK _ _ (h v w0 (by rw [List.append_nil]; exact hown) ⟨rfl, rfl, rfl, Nat.le_refl _, fun _ _ _ => rfl⟩ hlo)
  · have hm0 : 0 < M.length := by
      rcases Nat.eq_zero_or_pos M.length with h | h
      · exact absurd (List.eq_nil_of_length_eq_zero h) hm
      · exact h
    obtain ⟨i, z, hi, hz, h2, h3, h4⟩ := etE.info
    obtain ⟨ad, rfl, hlt, _, hce⟩ := hS.view etE hm0
    refine wpList_append_own_at _ hgd s x _ ho base _ i z 3 24 etE.ht hi hz h2 h3 h4 etE.pos v T.length _ hs hown ad M.length c (flat (edC M) M.length 3) hx (flat_len _ _ _) ?_ ?_ (by unfold maxLen; omega) (by omega) hbase ?_
    · intro q u hu
      have hq := (List.getElem?_eq_some_iff.1 hu).1
      rw [flat_len] at hq
      obtain ⟨x, y, hx, hy, rfl⟩ := div_mod_of hq
      rw [flat_at hx hy] at hu
      cases hu
      exact hce x hx y hy
    · intro u hu
      obtain ⟨q, hq, rfl⟩ := List.mem_iff_getElem.1 hu
      rw [flat_len] at hq
      obtain ⟨x, y, hx, hy, rfl⟩ := div_mod_of hq
      have := flat_at (f := edC M) hx hy
      rw [List.getElem?_eq_getElem (by rw [flat_len]; exact hq)] at this
      rw [Option.some.inj this]; exact edC_one M x y
    · intro v' w1 hown' hg _ _
      rw [← flat_app, ← List.length_append] at hown'
      exact h v' w1 hown' hg hlo
/-- a part of edges in a row -/
theorem OwnE.part {base g cap : Nat} {E : List Ed} {w : World} (h : OwnE base (.slice (some ⟨g, 0, none⟩) E.length cap) E w) {i j : Nat} (hij : i ≤ j) (hj : j ≤ E.length) (c : Nat) (M : List Ed) (hM : M = (E.take j).drop i) :
    ES w w.heap.size (.slice (some ⟨g, i * 3, none⟩) M.length c) M fun x => (⟨g, i * 3, none⟩ : Addr).add (x * 3) := by
  have hlt : g < w.heap.size := (World.ownsRow.lt h g rfl).2
  have hl : M.length = j - i := by rw [hM, List.length_drop, List.length_take]; omega
  refine Rd.addr etE (fun _ => hlt) fun x hx y hy => ?_
  have := h.cells (g := g) rfl ((i + x) * 3 + y) (edC E (i + x) y) (flat_at (by omega) hy)
  rw [add_mk, Nat.zero_add] at this
  rw [add_mk, show i * 3 + (x * 3 + y) = (i + x) * 3 + y by omega, this]
  have e : eAt M x = eAt E (i + x) := by
    rw [eAt_eq hx, eAt_eq (by omega)]
    subst hM
    simp
  unfold edC
  rw [e]
theorem OwnE.lit0 (w : World) (base : Nat) (hb : base ≤ w.heap.size) : OwnE base (.slice (some ⟨w.heap.size, 0, none⟩) 0 0) [] (w.alloc (.cells #[] 48)) :=
  World.ownsRow_lit w #[] 0 hb (Nat.zero_le _) (by simp)
set_option maxHeartbeats 1000000 in
theorem hasI_any (B : Nat) (v : Value) (l : List Nat) (x : Nat) (w : World) (h : RdI w B v l) (hl : l.length ≤ 1000000) :
    Calls Try.prog 27 #[v, .int .i64 (x : Nat)] w fun e w' => e = .returned (.bool (decide (x ∈ l))) ∧ w = w' := by
  obtain ⟨a, ca, A, rfl, hR⟩ := h
  have HR := Lib.hid hR
  clear hR
  go_enter Try.func27, Try.ntmps27
  go_wp2_with fail
  go_loopw [5] (fun i wr => ∃ k : Nat, k ≤ l.length ∧ i = .int .i64 (k : Nat) ∧ Hid (x ∉ l.take k) ∧ Hid (wr = w)) (fun i _ => l.length - (intOf i).toNat)
  case atStart => exact ⟨0, Nat.zero_le _, rfl, Lib.hid (by simp), Lib.hid (by first | rfl | trivial)⟩
  case round =>
    obtain ⟨k, hk, rfl, HT, HW⟩ := hrel
    obtain rfl := HW.out
    by_cases hlt : k < l.length
    · have i1 := HR.out.ix k hlt
      have c1 := HR.out.cell k hlt 0 (by omega)
      rw [add_zero] at c1
      unfold nums at c1
      rw [intsN_nth] at c1
      obtain ⟨y, hy⟩ : ∃ y, l.getD k 0 = y := ⟨_, rfl⟩
      rw [hy] at c1
      have hyl : l[k] = y := by rw [← hy]; simp [List.getD, hlt]
      have HY := Lib.hid hyl
      have hki : (0 : Int) ≤ k ∧ (k : Int) < l.length := by omega
      clear hy hyl
      by_cases hxy : (y : Int) = (x : Nat)
      · have HM : Hid (x ∈ l) := Lib.hid (by
          have := List.getElem_mem hlt
          rw [HY.out] at this
          rwa [show x = y by omega])
        go_wp2_with fail
        go_ret
        rw [decide_eq_true HM.out]
        exact ⟨rfl, rfl⟩
      · go_wp2_with fail
        go_roundw
        case rel => exact ⟨k + 1, by omega, by go_num, Lib.hid (by
          rw [List.take_succ_eq_append_getElem hlt, HY.out, List.mem_append, List.mem_singleton]
          rintro (h | h)
          · exact HT.out h
          · omega), Lib.hid (by first | rfl | trivial)⟩
        case measure => simp only [intOf]; omega
    · obtain rfl : k = l.length := by omega
      have hT := HT.out
      rw [List.take_length] at hT
      have HT2 := Lib.hid hT
      clear hT HT
      go_wp2_with fail
      go_ret
      rw [decide_eq_false HT2.out]
      exact ⟨rfl, rfl⟩
theorem run_upto {t e : TypeId} {size bytes : Nat} (E : ET t e size bytes) {g n cap hi : Nat} (h : hi ≤ cap) (w' : World) : (Instr.slice t (.slice (some ⟨g, 0, none⟩) n cap) none (some (.int .i64 (hi : Nat))) none).run Try.prog w' = .ok (.slice (some ⟨g, 0, none⟩) hi cap) w' := by
  simp [Instr.slice, run_underlying E.ht, Instr.sliceBounds, Instr.sliceBound, asIntOf, E.size, go_sem]
  intro hh; omega
theorem run_from {t e : TypeId} {size bytes : Nat} (E : ET t e size bytes) {g n cap lo : Nat} (h : lo ≤ n) (hn : n ≤ cap) :
    ∃ (ad : Addr) (c : Nat), (lo < n → ad = ⟨g, lo * size, none⟩) ∧ ∀ w', (Instr.slice t (.slice (some ⟨g, 0, none⟩) n cap) (some (.int .i64 (lo : Nat))) none none).run Try.prog w' = .ok (.slice (some ad) (n - lo : Nat) c) w' := by
  refine ⟨if lo = cap then ⟨g, 0, none⟩ else ⟨g, lo * size, none⟩, cap - lo, fun h => if_neg (by omega), fun w' => ?_⟩
  simp [Instr.slice, run_underlying E.ht, Instr.sliceBounds, Instr.sliceBound, asIntOf, E.size, go_sem]
  rw [if_pos h]
  congr 2
  by_cases c : lo = cap
  · rw [if_pos c, if_pos c.symm]
  · rw [if_neg c, if_neg (fun d => c d.symm)]
/-- what without answers -/
def WoRes (n : Nat) (E : List Ed) (i : Nat) (w : World) (e : Ending) (w' : World) : Prop := ∃ b, e = .returned (.pointer (some ⟨b, 0, none⟩)) ∧ GraphAt w' w'.heap.size b n (cutE E i) ∧ Below w.heap.size w w'
set_option maxHeartbeats 2000000 in
set_option maxRecDepth 1000000 in
theorem without_any (base : Nat) (a : Option Addr) (cap n i : Nat) (E : List Ed) (w : World) (h : OwnE base (.slice a E.length cap) E w) (G : GOk n E) (hi : i < E.length) :
    Calls Try.prog 30 #[.int .i64 (n : Nat), .slice a E.length cap, .int .i64 (i : Nat)] w (WoRes n E i w) := by
  obtain ⟨g, rfl, hnc⟩ : ∃ g, a = some ⟨g, 0, none⟩ ∧ E.length ≤ cap := by
    rcases h.2 with ⟨h0, h1⟩ | ⟨g, cap', cur, h1, _, _, hn, _⟩
    · omega
    · cases h1; exact ⟨g, rfl, hn⟩
  have hm := G.m_le
  obtain ⟨j, hj⟩ : ∃ j, j = i + 1 := ⟨_, rfl⟩
  have hwp : IntKind.i64.wrap ((i : Int) + 1) = (j : Nat) := by rw [IntWalk.i64_in _ (by omega)]; omega
  have HH := Lib.hid h
  have HGc := Lib.hid (gok_cut G hi)
  have hic : i ≤ cap := by omega
  have hjc : j ≤ cap := by omega
  have hjn : j ≤ E.length := by omega
  have hlo := (World.ownsRow.lt h g rfl).2
  have HJ := Lib.hid hj
  have e1 : (E.take i).length = i := by rw [List.length_take]; omega
  have e2 : (E.drop j).length = E.length - j := List.length_drop
  have hE1 := Lib.hid e1; have hE2 := Lib.hid e2
  clear h hj
  have hU := fun w' => run_upto etE (g := g) (n := E.length) (cap := cap) hic w'
  obtain ⟨ad, c, had, hV⟩ := run_from etE (g := g) (n := E.length) (cap := cap) hjn hnc
  have HAd := Lib.hid had
  clear had
  go_enter Try.func30, Try.ntmps30
  go_wp2_with (at_builtin; refine Hid.out ?_)
  refine Lib.hid ?_
  have b1 : Below w.heap.size w (w.alloc (.cells #[] 48)) := (Below.refl _ w).alloc (Nat.le_refl _) _
  have hh1 := HH.out.below b1
  have hS1 := OwnE.part hh1 (Nat.zero_le i) (by omega) cap (E.take i) (by simp)
  rw [Nat.zero_mul] at hS1
  refine moreE rfl _ _ rfl w.heap.size _ [] (OwnE.lit0 w w.heap.size (Nat.le_refl _)) rfl (E.take i) (some ⟨g, 0, none⟩) cap _ _ hS1 ?hx (by simp) (by simp only [List.length_nil]; omega) ?_
  case hx => rw [e1]; rfl
  intro v1 w1 hv1 hg1 hl1
  rw [List.nil_append] at hv1
  have B1 := Lib.hid (b1.grown hg1 (by simp) (fun b hb => hl1 b hb))
  have HV1 := Lib.hid hv1
  clear hv1 hg1 hl1 hS1 hh1 b1 hU
  go_wp2_with (at_builtin; refine Hid.out ?_)
  refine Lib.hid ?_
  have hh2 := HH.out.below B1.out
  have hS2 : ES w1 w1.heap.size (.slice (some ad) (E.drop j).length c) (E.drop j) (fun x => (⟨g, j * 3, none⟩ : Addr).add (x * 3)) := by
    have hp := OwnE.part hh2 hjn (Nat.le_refl _) c (E.drop j) (by rw [List.take_length])
    by_cases hjl : j < E.length
    · rw [HAd.out hjl]; exact hp
    · have : (E.drop j).length = 0 := by rw [e2]; omega
      rw [ES, this]; exact Rd.nil _
  refine moreE rfl _ _ rfl w.heap.size _ (E.take i) HV1.out rfl (E.drop j) (some ad) c _ _ hS2 ?hx2 B1.out.size (by rw [e1, e2]; omega) ?_
  case hx2 => rw [e2]; rfl
  intro v2 w2 hv2 hg2 hl2
  have hcut : E.take i ++ E.drop j = cutE E i := by rw [HJ.out]; rfl
  rw [hcut] at hv2
  have B2 := Lib.hid (B1.out.grown hg2 B1.out.size (fun b hb => hl2 b hb))
  have HV2 := Lib.hid hv2
  obtain ⟨a3, c3, A3, rfl, hES⟩ := hv2.rd
  have HN := Lib.hid (gnew_any w2.heap.size a3 c3 A3 n (cutE E i) w2 hES (Nat.le_refl _) (by rw [cutE_len hi]; omega))
  clear hg2 hl2 hS2 hh2 hcut hv2 hES HV1 B1 hV
  go_wp2_with fail
  refine HN.out.mono ?_
  rintro e w6 ⟨hb6, ⟨h0, _⟩ | ⟨b, k6, hk6, -, rfl, hGr⟩⟩
  · exact absurd (gErr_ok HGc.out) h0
  have hk6 : k6 = n := by omega
  rw [hk6] at hGr
  have HF := Lib.hid (show WoRes n E i w (.returned (.pointer (some ⟨b, 0, none⟩))) w6 from ⟨b, rfl, hGr, B2.out.trans (hb6.mono B2.out.size)⟩)
  clear hGr hb6 hk6 HN
  go_wp2_with fail
  go_ret
  exact HF.out
end Go.Proofs.Ytcpikabhcjkkmaa
