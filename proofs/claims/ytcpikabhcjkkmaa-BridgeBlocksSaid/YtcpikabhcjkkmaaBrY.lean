/- The walk of Cycle of package bridge. Conditions: the graph was made by New, or it is nil or zero. -/
import Derived.Test.YtcpikabhcjkkmaaCyM
import Derived.Sort.QuietIn
import Derived.Test.YtcpikabhcjkkmaaQRd
namespace Go.Proofs.Ytcpikabhcjkkmaa
open Go.RowKit Go.Shelf Go.BigFrame
attribute [local go_sem] Oper.semAt_some

/-- behind the graph without the edge -/
inductive Mid (g : Option Addr) (n : Nat) (E : List Ed) (p : Nat) (w w' : World) : Act → Prop
  | mk (rb : Nat) (u1 u2 u5 u9 u10 u11 u12 u13 u14 u15 u16 u17 u18 u19 u20 u21 u22 u23 u24 u25 u26 u27 u28 u29 u30 u31 u32 u33 u34 u35 u36 u37 u38 u39 u40 u41 u42 u43 u44 u45 u46 u47 u48 u49 u50 u51 u52 u53 u54 u55 u56 u57 u58 u59 u60 u61 u62 u63 u64 u65 u66 u67 u68 u69 u70 u71 u72 u73 u74 u75 u76 u77 u78 u79 u80 u81 u82 u83 u84 u85 u86 : Value) (h1 : GraphAt w' w'.heap.size rb n (cutE E p)) (h2 : Below w.heap.size w w') (h3 : Boxed w' w.heap.size 3 (.int .i64 (p : Nat))) : Mid g n E p w w' { tmps := #[.pointer g, u1, u2, .pointer (some ⟨w.heap.size, 0, none⟩), .slice none 0 0, u5, .int .i64 ((edP E p).1 : Nat), .int .i64 ((edP E p).2 : Nat), .pointer (some ⟨rb, 0, none⟩), u9, u10, u11, u12, u13, u14, u15, u16, u17, u18, u19, u20, u21, u22, u23, u24, u25, u26, u27, u28, u29, u30, u31, u32, u33, u34, u35, u36, u37, u38, u39, u40, u41, u42, u43, u44, u45, u46, u47, u48, u49, u50, u51, u52, u53, u54, u55, u56, u57, u58, u59, u60, u61, u62, u63, u64, u65, u66, u67, u68, u69, u70, u71, u72, u73, u74, u75, u76, u77, u78, u79, u80, u81, u82, u83, u84, u85, u86], defers := [] }
/-- where the loop of the way back stands -/
inductive CSt (g : Option Addr) (n : Nat) (E : List Ed) (p rb : Nat) (d : Nat → Int) (w w6 w7 wr : World) : Act → Prop
  | mk (v : Nat) (L : List Nat) (lv : Value) (vb : Nat) (Ds : List Nat) (u1 u2 u5 u9 u13 u14 u15 u16 u17 u18 u19 u20 u21 u22 u23 u24 u25 u26 u27 u28 u29 u30 u31 u32 u33 u34 u35 u36 u37 u38 u39 u40 u41 u42 u43 u44 u45 u46 u47 u48 u49 u50 u51 u52 u53 u54 u55 u56 u57 u58 u59 u60 u61 u62 u63 u64 u65 u66 u67 u68 u69 u70 u71 u72 u73 u74 u75 u76 u77 u78 u79 u80 u81 u82 u83 u84 u85 u86 : Value) (h1 : v < n) (h2 : 0 ≤ d v) (h3 : cyc E p d (edP E p).1 = L ++ chn E p d (d v).toNat v) (h4 : L.length + (d v).toNat ≤ n) (h5 : CyMem wr w.heap.size w6.heap.size w7.heap.size (w7.heap.size + 1 + 1) (w7.heap.size + 1) p n d lv L) (h6 : Boxed wr vb 3 (.int .i64 (v : Nat))) (h7 : w7.heap.size + 1 < vb) (h8 : lv.ownBlock ≠ some vb) (h9 : Below w.heap.size w wr) (h10 : Marks w.heap.size Ds wr) : CSt g n E p rb d w w6 w7 wr { tmps := #[.pointer g, u1, u2, .pointer (some ⟨w.heap.size, 0, none⟩), .slice none 0 0, u5, .int .i64 ((edP E p).1 : Nat), .int .i64 ((edP E p).2 : Nat), .pointer (some ⟨rb, 0, none⟩), u9, .pointer (some ⟨w7.heap.size, 0, none⟩), .pointer (some ⟨w7.heap.size + 1 + 1, 0, none⟩), .pointer (some ⟨vb, 0, none⟩), u13, u14, u15, u16, u17, u18, u19, u20, u21, u22, u23, u24, u25, u26, u27, u28, u29, u30, u31, u32, u33, u34, u35, u36, u37, u38, u39, u40, u41, u42, u43, u44, u45, u46, u47, u48, u49, u50, u51, u52, u53, u54, u55, u56, u57, u58, u59, u60, u61, u62, u63, u64, u65, u66, u67, u68, u69, u70, u71, u72, u73, u74, u75, u76, u77, u78, u79, u80, u81, u82, u83, u84, u85, u86], defers := colD Ds }
theorem Mid.elim {g : Option Addr} {n : Nat} {E : List Ed} {p : Nat} {w : World} {a : Act} {w' : World} {M : Act → World → Prop} (h : Mid g n E p w w' a)
    (k : ∀ (rb : Nat) (u1 u2 u5 u9 u10 u11 u12 u13 u14 u15 u16 u17 u18 u19 u20 u21 u22 u23 u24 u25 u26 u27 u28 u29 u30 u31 u32 u33 u34 u35 u36 u37 u38 u39 u40 u41 u42 u43 u44 u45 u46 u47 u48 u49 u50 u51 u52 u53 u54 u55 u56 u57 u58 u59 u60 u61 u62 u63 u64 u65 u66 u67 u68 u69 u70 u71 u72 u73 u74 u75 u76 u77 u78 u79 u80 u81 u82 u83 u84 u85 u86 : Value), GraphAt w' w'.heap.size rb n (cutE E p) → Below w.heap.size w w' → Boxed w' w.heap.size 3 (.int .i64 (p : Nat)) → M { tmps := #[.pointer g, u1, u2, .pointer (some ⟨w.heap.size, 0, none⟩), .slice none 0 0, u5, .int .i64 ((edP E p).1 : Nat), .int .i64 ((edP E p).2 : Nat), .pointer (some ⟨rb, 0, none⟩), u9, u10, u11, u12, u13, u14, u15, u16, u17, u18, u19, u20, u21, u22, u23, u24, u25, u26, u27, u28, u29, u30, u31, u32, u33, u34, u35, u36, u37, u38, u39, u40, u41, u42, u43, u44, u45, u46, u47, u48, u49, u50, u51, u52, u53, u54, u55, u56, u57, u58, u59, u60, u61, u62, u63, u64, u65, u66, u67, u68, u69, u70, u71, u72, u73, u74, u75, u76, u77, u78, u79, u80, u81, u82, u83, u84, u85, u86], defers := [] } w') : M a w' := by
  cases h with
  | mk rb u1 u2 u5 u9 u10 u11 u12 u13 u14 u15 u16 u17 u18 u19 u20 u21 u22 u23 u24 u25 u26 u27 u28 u29 u30 u31 u32 u33 u34 u35 u36 u37 u38 u39 u40 u41 u42 u43 u44 u45 u46 u47 u48 u49 u50 u51 u52 u53 u54 u55 u56 u57 u58 u59 u60 u61 u62 u63 u64 u65 u66 u67 u68 u69 u70 u71 u72 u73 u74 u75 u76 u77 u78 u79 u80 u81 u82 u83 u84 u85 u86 h1 h2 h3 => exact k rb u1 u2 u5 u9 u10 u11 u12 u13 u14 u15 u16 u17 u18 u19 u20 u21 u22 u23 u24 u25 u26 u27 u28 u29 u30 u31 u32 u33 u34 u35 u36 u37 u38 u39 u40 u41 u42 u43 u44 u45 u46 u47 u48 u49 u50 u51 u52 u53 u54 u55 u56 u57 u58 u59 u60 u61 u62 u63 u64 u65 u66 u67 u68 u69 u70 u71 u72 u73 u74 u75 u76 u77 u78 u79 u80 u81 u82 u83 u84 u85 u86 h1 h2 h3
/-- where the loop over a vertex's edges stands -/
def CJ (E : List Ed) (p n v vb : Nat) (d : Nat → Int) (w w6 w7 : World) (L : List Nat) (lv : Value) (W0 : World) (pre : List (Nat × Int)) (W : World) : Prop :=
  (∀ j, j ∈ pre.map (·.1) → stp E p d v j = false) ∧ CyMem W w.heap.size w6.heap.size w7.heap.size (w7.heap.size + 1 + 1) (w7.heap.size + 1) p n d lv L ∧ Boxed W vb 3 (.int .i64 (v : Nat)) ∧ KeepD W0 W ∧ W0.heap.size ≤ W.heap.size
/-- where it is left -/
def CX (E : List Ed) (p n v vb : Nat) (d : Nat → Int) (w w6 w7 : World) (L : List Nat) (W0 : World) (c : Code) (W : World) : Prop :=
  c = .exit 2 ∧ ∃ i lv, nx E p d v = some i ∧ CyMem W w.heap.size w6.heap.size w7.heap.size (w7.heap.size + 1 + 1) (w7.heap.size + 1) p n d lv (L ++ [i]) ∧ Boxed W vb 3 (.int .i64 (oN E v i : Nat)) ∧ KeepD W0 W ∧ W0.heap.size ≤ W.heap.size
theorem KeepD.own {W0 A B : World} {row : Option Nat} (h : KeepD W0 A) (hs : W0.heap.size ≤ A.heap.size) (hg : A.grownBy B row) (hr : ∀ r, row = some r → W0.heap.size ≤ r) : KeepD W0 B := fun D d hD => by
  have h9 := (Array.getElem?_eq_some_iff.1 hD).1
  exact (hg.block D (by omega) (fun e => by have := hr _ e.symm; omega)).trans (h D d hD)
set_option maxRecDepth 100000 in
set_option maxHeartbeats 4000000 in
theorem cycle_any (B : Nat) (g : Option Addr) (n : Nat) (E : List Ed) (o : Option (Nat × List Ed)) (ho : o = some (n, E) ∨ o = none ∧ n = 0 ∧ E = []) (x : Int) (w : World) (h : GV w B (.pointer g) o) (hB : B ≤ w.heap.size) :
    Calls Try.prog 24 #[.pointer g, .int .i64 x] w (CyRes n E x w) := by
  refine (callsIn_wide (n := 14)).1 ?_
  have hE : gE o = E := by rcases ho with rfl | ⟨rfl, _, rfl⟩ <;> rfl
  have HEd := edgesO_any B (.pointer g) o (w.alloc (.cells #[.int .i64 x] 3)) (h.below ((Below.refl _ w).alloc hB _)) (by simp; omega)
  unfold GEdO at HEd
  rw [hE] at HEd
  have HEd := Lib.hid HEd
  have hX := Boxed.new w 3 (.int .i64 x)
  have hbx : Below w.heap.size w (w.alloc (.cells #[.int .i64 x] 3)) := (Below.refl _ w).alloc (Nat.le_refl _) _
  by_cases hr : ¬ (0 ≤ x ∧ x < E.length)
  · have HC : Hid (CycL n E x []) := Lib.hid ⟨fun _ => rfl, fun p hp hl => absurd (by omega) hr⟩
    clear hE h ho
    refine callsIn_of_wp_marks Try.func24 rfl trivial ?_ rfl
    simp only [Try.ntmps24, List.size_toArray, List.length_cons, List.length_nil, Nat.reduceAdd, Nat.reduceSub, Array.replicate_succ, Array.replicate_zero, List.push_toArray, List.append_toArray, List.nil_append, List.cons_append]
    gi_wp2_with fail
    refine ⟨trivial, ?_⟩
    refine (callsIn_wide.2 HEd.out).mono ?_
    clear HEd
    rintro e w1 ⟨ea, ec, EA, rfl, hES, hb1, -⟩
    have cx : w1.cell? ⟨w.heap.size, 0, none⟩ = some (.int .i64 x) := Boxed.cell ((hb1.block _ hX.lt).trans hX)
    have HF : Hid (CyRes n E x w (.returned (.slice none 0 0)) w1) := Lib.hid ⟨_, [], rfl, HC.out, ⟨none, 0, fun _ => ⟨0, 0, none⟩, rfl, Rd.nil _⟩, hbx.trans (hb1.mono hbx.size)⟩
    clear hES hX hb1
    by_cases c : x < 0
    · have hd := decide_eq_true c
      gi_wp2_with fail
      refine ⟨_, results_tmp rfl _ _ _, ?_⟩
      exact HF.out
    · have hd := decide_eq_false c
      have hd2 : decide (((E.length : Nat) : Int) ≤ x) = true := decide_eq_true (by omega)
      gi_wp2_with fail
      refine ⟨_, results_tmp rfl _ _ _, ?_⟩
      exact HF.out
  · have hr : 0 ≤ x ∧ x < E.length := Classical.not_not.1 hr
    obtain ⟨p, rfl⟩ : ∃ p : Nat, x = p := ⟨x.toNat, by omega⟩
    have hp : p < E.length := by omega
    obtain rfl : o = some (n, E) := by
      rcases ho with h | ⟨_, _, rfl⟩
      · exact h
      · exact absurd hp (by simp)
    have G : GOk n E := h.good
    have hm := G.m_le
    have hn4 := G.n_le
    have HG := Lib.hid h
    clear h ho hE
    refine callsIn_of_wp_marks Try.func24 rfl trivial ?_ rfl
    simp only [Try.ntmps24, List.size_toArray, List.length_cons, List.length_nil, Nat.reduceAdd, Nat.reduceSub, Array.replicate_succ, Array.replicate_zero, List.push_toArray, List.append_toArray, List.nil_append, List.cons_append]
    gi_wp2_with fail
    refine ⟨trivial, ?_⟩
    refine (callsIn_wide.2 HEd.out).mono ?_
    clear HEd
    rintro e w1 ⟨ea, ec, EA, rfl, hES, hb1, hO⟩
    obtain ⟨eb, he, hO2⟩ := hO (by omega)
    subst he
    have X1 : Boxed w1 w.heap.size 3 (.int .i64 (p : Nat)) := (hb1.block _ hX.lt).trans hX
    have cx := X1.cell
    have ix := hES.ix p hp
    have e0 := ES.u hES hp
    have e1 := ES.v hES hp
    obtain ⟨a, b, ha, hb, han, hbn, hab⟩ := G.nats hp
    rw [ha] at e0
    rw [hb] at e1
    have hd1 : decide ((p : Int) < 0) = false := decide_eq_false (by omega)
    have hd2 : decide (((E.length : Nat) : Int) ≤ p) = false := decide_eq_false (by omega)
    have hpn : (0 : Int) ≤ p ∧ (p : Int) < E.length := by omega
    have HES := Lib.hid hES
    have HO := Lib.hid hO2
    have B1 := Lib.hid (hbx.trans (hb1.mono hbx.size))
    clear hES hO hO2 hb1
    gi_wp2_with fail
    gi_quiet (fail)
    obtain ⟨w2, hw2⟩ : ∃ w2, w1.drewN nq = w2 := ⟨_, rfl⟩
    have hD : Below w1.heap.size w1 w2 := by rw [← hw2]; exact below_drewN (Below.refl _ _) nq
    have X2 : Boxed w2 w.heap.size 3 (.int .i64 (p : Nat)) := (hD.block _ X1.lt).trans X1
    have cx2 := X2.cell
    have HO2 : Hid (OwnE (w.alloc (.cells #[.int .i64 (p : Nat)] 3)).heap.size (.slice (some ⟨eb, 0, none⟩) E.length ec) E w2) := Lib.hid (HO.out.below hD)
    have B2 := Lib.hid (B1.out.trans (hD.mono B1.out.size))
    rw [hw2]
    clear ix e0 e1 HES HO B1 cx X1 hw2 hD hX hbx
    obtain ⟨q1, hq1, hwp⟩ : ∃ q : Nat, Hid (q = p + 1) ∧ IntKind.i64.wrap ((p : Int) + 1) = (q : Nat) := ⟨p + 1, rfl, by rw [IntWalk.i64_in _ (by omega)]; rfl⟩
    gi_wp2_with fail
    refine wpIn_mono (Q := fun e a w' => e = .normal ∧ Mid g n E p w w' a) (region_wide (fun w' => w'.cell? ⟨w.heap.size, 0, none⟩ = some (.int .i64 (p : Nat))) (by kernel_rfl) ?_) ?_
    · have HS : w2.drew.cell? ⟨w.heap.size, 0, none⟩ = some (.int .i64 (p : Nat)) := cx2
      refine take_at (i := 0) (d := 36) (v := ?_) rfl rfl (by kernel_rfl) (by kernel_rfl) (by kernel_rfl) (fun _ _ _ _ => NormalOnly.any) rfl ?hy1 HS ?rest1
      case hy1 => intro w' hSw; (try dsimp only at hSw); go_simp; try (with_reducible rfl)
      try simp only [List.setIfInBounds_toArray, List.set_cons_zero, List.set_cons_succ]
      refine take_at (i := 2) (d := 38) (v := ?_) rfl rfl (by kernel_rfl) (by kernel_rfl) (by kernel_rfl) (fun _ _ _ _ => NormalOnly.any) rfl ?hy2 HS ?rest2
      case hy2 => intro w' hSw; (try dsimp only at hSw); go_simp; try (with_reducible rfl)
      try simp only [List.setIfInBounds_toArray, List.set_cons_zero, List.set_cons_succ]
      refine take_at (i := 3) (d := 39) (v := ?_) rfl rfl (by kernel_rfl) (by kernel_rfl) (by kernel_rfl) (fun _ _ _ _ => NormalOnly.any) rfl ?hy3 HS ?rest3
      case hy3 => intro w' hSw; (try dsimp only at hSw); go_simp; try (with_reducible rfl)
      try simp only [List.setIfInBounds_toArray, List.set_cons_zero, List.set_cons_succ]
      refine take_at (i := 4) (d := 40) (v := ?_) rfl rfl (by kernel_rfl) (by kernel_rfl) (by kernel_rfl) (fun _ _ _ _ => NormalOnly.any) rfl ?hy4 HS ?rest4
      case hy4 => intro w' hSw; (try dsimp only at hSw); go_simp; try (with_reducible rfl)
      try simp only [List.setIfInBounds_toArray, List.set_cons_zero, List.set_cons_succ]
      refine take_at (i := 5) (d := 41) (v := ?_) rfl rfl (by kernel_rfl) (by kernel_rfl) (by kernel_rfl) (fun _ _ _ _ => NormalOnly.any) rfl ?hy5 HS ?rest5
      case hy5 => intro w' hSw; (try dsimp only at hSw); go_simp; try (with_reducible rfl)
      try simp only [List.setIfInBounds_toArray, List.set_cons_zero, List.set_cons_succ]
      have HN := n_any B (.pointer g) (some (n, E)) w2.drew (HG.out.below ((B2.out.mono hB).drew))
      rw [show gN (some (n, E)) = n from rfl] at HN
      have HDl := delete_any _ eb ec p q1 E w2.drew HO2.out hp hq1.out
      have X2d : Boxed w2.drew w.heap.size 3 (.int .i64 (p : Nat)) := X2
      have B2d : Below w.heap.size w w2.drew := B2.out.drew
      have hbe : w.heap.size < eb := by
        rcases HO2.out.2 with ⟨h0, _⟩ | ⟨g', cap', cur, h1, h2, _⟩
        · cases h0
        · cases h1; simp at h2; omega
      clear HO2 B2 X2 cx2
      generalize w2.drew = w3 at *
      have HN := Lib.hid HN
      have HDl := Lib.hid HDl
      refine wpAnyH_ready (rs := [1]) (by kernel_rfl) (by simp) ?_
      refine AllReadyH.cons rfl (fun K hK => ?_) AllReadyH.nil
      go_simp
      refine HN.out.mono ?_
      clear HN
      rintro e w' ⟨rfl, rfl⟩
      refine hK.out _ _ HS (fun _ => ?_)
      clear hK
      refine wpAnyH_ready (rs := [6]) (by kernel_rfl) (by simp) ?_
      refine AllReadyH.cons rfl (fun K hK => ?_) AllReadyH.nil
      go_simp
      refine HDl.out.mono ?_
      clear HDl HS
      rintro e w4 ⟨A4, rfl, hES4, hb4, hs4⟩
      have X4 : Boxed w4 w.heap.size 3 (.int .i64 (p : Nat)) := (hb4.block _ hbe).trans X2d
      have B4 : Below w.heap.size w w4 := B2d.trans (hb4.mono (Nat.le_of_lt hbe))
      have HNw := Lib.hid (gnew_any w4.heap.size (some ⟨eb, 0, none⟩) ec A4 n (cutE E p) w4 hES4 (Nat.le_refl _) (by rw [cutE_len hp]; omega))
      refine hK.out _ _ X4.cell (fun _ => ?_)
      clear hK hES4
      refine wpAnyH_ready (rs := [7]) (by kernel_rfl) (by simp) ?_
      refine AllReadyH.cons rfl (fun K hK => ?_) AllReadyH.nil
      go_simp
      refine HNw.out.mono ?_
      clear HNw
      rintro e w6 ⟨hb6, ⟨h0, _⟩ | ⟨rb, k6, hk6, -, rfl, hGr⟩⟩
      · exact absurd (gErr_ok (gok_cut G hp)) h0
      have hk6 : k6 = n := by omega
      rw [hk6] at hGr
      have X6 : Boxed w6 w.heap.size 3 (.int .i64 (p : Nat)) := (hb6.block _ X4.lt).trans X4
      have B6 : Below w.heap.size w w6 := B4.trans (hb6.mono B4.size)
      have HS := X6.cell
      refine hK.out _ _ HS (fun _ => ?_)
      clear hK
      refine take_at (i := 8) (d := 35) (v := ?_) rfl rfl (by kernel_rfl) (by kernel_rfl) (by kernel_rfl) (fun _ _ _ _ => NormalOnly.any) rfl ?hy6 HS ?rest6
      case hy6 => intro w' hSw; (try dsimp only at hSw); go_simp; try (with_reducible rfl)
      try simp only [List.setIfInBounds_toArray, List.set_cons_zero, List.set_cons_succ]
      refine take_at (i := 9) (d := 44) (v := ?_) rfl rfl (by kernel_rfl) (by kernel_rfl) (by kernel_rfl) (fun _ _ _ _ => NormalOnly.any) rfl ?hy7 HS ?rest7
      case hy7 => intro w' hSw; (try dsimp only at hSw); go_simp; try (with_reducible rfl)
      try simp only [List.setIfInBounds_toArray, List.set_cons_zero, List.set_cons_succ]
      refine take_at (i := 10) (d := 45) (v := ?_) rfl rfl (by kernel_rfl) (by kernel_rfl) (by kernel_rfl) (fun _ _ _ _ => NormalOnly.any) rfl ?hy8 HS ?rest8
      case hy8 => intro w' hSw; (try dsimp only at hSw); go_simp; try (with_reducible rfl)
      try simp only [List.setIfInBounds_toArray, List.set_cons_zero, List.set_cons_succ]
      refine take_at (i := 11) (d := 8) (v := ?_) rfl rfl (by kernel_rfl) (by kernel_rfl) (by kernel_rfl) (fun _ _ _ _ => NormalOnly.any) rfl ?hy9 HS ?rest9
      case hy9 => intro w' hSw; (try dsimp only at hSw); go_simp; try (with_reducible rfl)
      try simp only [List.setIfInBounds_toArray, List.set_cons_zero, List.set_cons_succ]
      refine take_at (i := 12) (d := 9) (v := ?_) rfl rfl (by kernel_rfl) (by kernel_rfl) (by kernel_rfl) (fun _ _ _ _ => NormalOnly.any) rfl ?hy10 HS ?rest10
      case hy10 => intro w' hSw; (try dsimp only at hSw); go_simp; try (with_reducible rfl)
      try simp only [List.setIfInBounds_toArray, List.set_cons_zero, List.set_cons_succ]
      refine wpAnyH_done (by kernel_rfl) ⟨rfl, ?_⟩ _
      have ea : a = (edP E p).1 := by unfold edP; rw [ha]; rfl
      have eb : b = (edP E p).2 := by unfold edP; rw [hb]; rfl
      rw [ea, eb]
      exact ⟨trivial, .mk rb _ _ _ _ _ _ _ _ _ _ _ _ _ _ _ _ _ _ _ _ _ _ _ _ _ _ _ _ _ _ _ _ _ _ _ _ _ _ _ _ _ _ _ _ _ _ _ _ _ _ _ _ _ _ _ _ _ _ _ _ _ _ _ _ _ _ _ _ _ _ _ _ _ _ _ _ _ _ _ _ _ hGr B6 X6⟩
    · rintro e a' w6 ⟨rfl, hMid⟩
      refine hMid.elim ?_
      clear hMid
      intro rb u1 u2 u5 u9 u10 u11 u12 u13 u14 u15 u16 u17 u18 u19 u20 u21 u22 u23 u24 u25 u26 u27 u28 u29 u30 u31 u32 u33 u34 u35 u36 u37 u38 u39 u40 u41 u42 u43 u44 u45 u46 u47 u48 u49 u50 u51 u52 u53 u54 u55 u56 u57 u58 u59 u60 u61 u62 u63 u64 u65 u66 u67 u68 u69 u70 u71 u72 u73 u74 u75 u76 u77 u78 u79 u80 u81 u82 u83 u84 u85 u86 hGr B6 X6
      have ea : a = (edP E p).1 := by unfold edP; rw [ha]; rfl
      have eb : b = (edP E p).2 := by unfold edP; rw [hb]; rfl
      subst ea eb
      have HDs := Lib.hid (dist_any w6.heap.size (some ⟨rb, 0, none⟩) n (cutE E p) (edP E p).2 w6 ⟨rb, rfl, hGr⟩ (Nat.le_refl _) hbn)
      clear hGr
      have hpb : w.heap.size < w6.heap.size := X6.lt
      gi_wp2_with fail
      refine ⟨trivial, ?_⟩
      refine (callsIn_wide.2 HDs.out).mono ?_
      clear HDs
      rintro e w7 ⟨d, rfl, hd, hrow, hb7⟩
      have hd2 := dist_cut hp hd
      have ca := hrow.cell han
      have hsz7 : w6.heap.size < w7.heap.size := hrow.lt
      have B7 : Below w.heap.size w w7 := B6.trans (hb7.mono (Nat.le_of_lt hpb))
      have X7 : Boxed w7 w.heap.size 3 (.int .i64 (p : Nat)) := (hb7.block _ X6.lt).trans X6
      have hc0 : (w7.alloc (.cells #[.slice (some ⟨w6.heap.size, 0, none⟩) n n] 29)).cell? ⟨w6.heap.size, (edP E p).1, none⟩ = some (.int .i64 (d (edP E p).1)) := (hrow.alloc _).cell han
      have hpn1 : (0 : Int) ≤ ((edP E p).1 : Nat) ∧ (((edP E p).1 : Nat) : Int) < n := by omega
      by_cases hneg : d (edP E p).1 < 0
      · have hdn := decide_eq_true hneg
        have HC := cycL_of hp hd2
        rw [cyc, if_pos hneg] at HC
        have HF : Hid (CyRes n E p w (.returned (.slice none 0 0)) (w7.alloc (.cells #[.slice (some ⟨w6.heap.size, 0, none⟩) n n] 29))) :=
          Lib.hid ⟨_, [], rfl, HC, ⟨none, 0, fun _ => ⟨0, 0, none⟩, rfl, Rd.nil _⟩, B7.alloc (by omega) _⟩
        clear hd hd2 hrow
        gi_wp2_with fail
        refine ⟨_, results_tmp rfl _ _ _, ?_⟩
        exact HF.out
      · have hdn := decide_eq_false hneg
        have hnx : Boxed (w7.alloc (.cells #[.slice (some ⟨w6.heap.size, 0, none⟩) n n] 29)) w.heap.size 3 (.int .i64 (p : Nat)) := X7.alloc _
        have cp := hnx.cell
        have CM0 : CyMem ((((w7.alloc (.cells #[.slice (some ⟨w6.heap.size, 0, none⟩) n n] 29)).alloc (.cells #[.int .i64 (p : Nat)] 3)).alloc (.cells #[.slice (some ⟨w7.heap.size + 1, 0, none⟩) 1 1] 29)).alloc (.cells #[.int .i64 ((edP E p).1 : Nat)] 3)) w.heap.size w6.heap.size w7.heap.size (w7.heap.size + 1 + 1) (w7.heap.size + 1) p n d (.slice (some ⟨w7.heap.size + 1, 0, none⟩) 1 1) [p] := by
          have hq := QOwn.one (base := w7.heap.size + 1) (w7.alloc (.cells #[.slice (some ⟨w6.heap.size, 0, none⟩) n n] 29)) p (by simp)
          rw [World.size_alloc] at hq
          have hl := Boxed.new ((w7.alloc (.cells #[.slice (some ⟨w6.heap.size, 0, none⟩) n n] 29)).alloc (.cells #[.int .i64 (p : Nat)] 3)) 29 (.slice (some ⟨w7.heap.size + 1, 0, none⟩) 1 1)
          rw [World.size_alloc, World.size_alloc] at hl
          refine ⟨hpb, hsz7, Nat.lt_succ_self _, Nat.le_succ _, ((((X7.alloc _).alloc _).alloc _).alloc _), ((((hrow.alloc _).alloc _).alloc _).alloc _), (((Boxed.new w7 _ _).alloc _).alloc _).alloc _, hl.alloc _, ?_⟩
          refine (hq.keep (w' := _) fun b hb => ?_)
          have hb2 := (hq.lt hb).2
          rw [Below.heap_alloc _ _ _ (by simp only [World.size_alloc] at hb2 ⊢; omega), Below.heap_alloc _ _ _ hb2]
        have VB0 : Boxed ((((w7.alloc (.cells #[.slice (some ⟨w6.heap.size, 0, none⟩) n n] 29)).alloc (.cells #[.int .i64 (p : Nat)] 3)).alloc (.cells #[.slice (some ⟨w7.heap.size + 1, 0, none⟩) 1 1] 29)).alloc (.cells #[.int .i64 ((edP E p).1 : Nat)] 3)) (w7.heap.size + 1 + 1 + 1) 3 (.int .i64 ((edP E p).1 : Nat)) := by
          have := Boxed.new (((w7.alloc (.cells #[.slice (some ⟨w6.heap.size, 0, none⟩) n n] 29)).alloc (.cells #[.int .i64 (p : Nat)] 3)).alloc (.cells #[.slice (some ⟨w7.heap.size + 1, 0, none⟩) 1 1] 29)) 3 (.int .i64 ((edP E p).1 : Nat))
          rwa [World.size_alloc, World.size_alloc, World.size_alloc] at this
        have BL0 : Below w.heap.size w ((((w7.alloc (.cells #[.slice (some ⟨w6.heap.size, 0, none⟩) n n] 29)).alloc (.cells #[.int .i64 (p : Nat)] 3)).alloc (.cells #[.slice (some ⟨w7.heap.size + 1, 0, none⟩) 1 1] 29)).alloc (.cells #[.int .i64 ((edP E p).1 : Nat)] 3)) := (((B7.alloc (by omega) _).alloc (by simp; omega) _).alloc (by simp; omega) _).alloc (by simp; omega) _
        gi_wp2_with fail
        clear HEd hr hd1 hpn X2 cx2 HO2 B2 hq1 hwp
        clear X6 ca X7 hc0 hpn1 hdn hnx cp
        refine wpIn_loop (fun a wr => CSt g n E p rb d w w6 w7 wr a) (fun a wr => mC d a wr) ?_ ?_
        · exact .mk (edP E p).1 [p] (.slice (some ⟨w7.heap.size + 1, 0, none⟩) 1 1) (w7.heap.size + 1 + 1 + 1) [] _ _ _ _ _ _ _ _ _ _ _ _ _ _ _ _ _ _ _ _ _ _ _ _ _ _ _ _ _ _ _ _ _ _ _ _ _ _ _ _ _ _ _ _ _ _ _ _ _ _ _ _ _ _ _ _ _ _ _ _ _ _ _ _ _ _ _ _ _ _ _ _ _ _ _ _ _ _ han hneg (by rw [cyc, if_neg (by omega)]; rfl) (by have := dist_lt G hd2 han hneg; simp only [List.length_singleton]; omega) CM0 VB0 (by omega) (fun e => by have e : w7.heap.size + 1 = w7.heap.size + 1 + 1 + 1 := Option.some.inj e; omega) BL0 (Marks.nil _ _)
        intro a wr hC
        clear CM0 VB0 BL0
        cases hC with | mk v L lv vb Ds u1 u2 u5 u9 u13 u14 u15 u16 u17 u18 u19 u20 u21 u22 u23 u24 u25 u26 u27 u28 u29 u30 u31 u32 u33 u34 u35 u36 u37 u38 u39 u40 u41 u42 u43 u44 u45 u46 u47 u48 u49 u50 u51 u52 u53 u54 u55 u56 u57 u58 u59 u60 u61 u62 u63 u64 u65 u66 u67 u68 u69 u70 u71 u72 u73 u74 u75 u76 u77 u78 u79 u80 u81 u82 u83 u84 u85 u86 hvn hv0 hcy hll hM hvb hvlt hvo bel hMk => ?_
        have cv := hvb.cell
        by_cases hvt : v = (edP E p).2
        · subst hvt
          have h0 := hd2.root
          rw [h0] at hcy
          have hcy : cyc E p d (edP E p).1 = L := by rw [hcy]; exact List.append_nil L
          have cl := hM.lbx.cell
          have HQ := Lib.hid hM.que
          have HC := Lib.hid (cycL_of hp hd2)
          have HMk := Lib.hid hMk
          clear hM hMk hd hd2 hrow
          gi_wp2_with fail
          refine leaves_col w.heap.size (fun w => results_tmp rfl _ _ _) Ds wr HMk.out fun w' hw' => ?_
          exact ⟨lv, L, rfl, by rw [← hcy]; exact HC.out, (HQ.out.took hw').rd, bel.trans hw'.below⟩
        · have hne : ((v : Nat) : Int) ≠ ((edP E p).2 : Nat) := by omega
          have hd0 : 0 < d v := by
            have : d v ≠ 0 := fun c => hvt (zero_root hd2 hvn c)
            omega
          have hNB := ((HG.out.below (bel.mono hB)).below (Below.refl B wr))
          have HGr := Lib.hid hNB
          have Hmu : ∀ a : Act, a.tmps.getD 12 undef = .pointer (some ⟨vb, 0, none⟩) → mC d a wr = (d v).toNat := fun a ha => mC_eq ha hvb
          have Hmu := Lib.hid Hmu
          have HM := Lib.hid hM
          have HMk := Lib.hid hMk
          have HV := Lib.hid hvb
          have HCy := Lib.hid hcy
          have HD2 := Lib.hid hd2
          clear hM hMk hvb hcy hd hd2 hrow hNB
          gi_wp2_with fail
          refine ⟨trivial, ?_⟩
          refine (callsIn_wide.2 (around_call _ _ _)).mono ?_
          rintro e w' ⟨rfl, rfl⟩
          gi_wp2_with fail
          have hszr := bel.size
          have hlt7 : w7.heap.size < wr.heap.size := HM.out.box.lt
          have hs67 := HM.out.h2
          have hpw := HM.out.h1
          have hvbr : vb < wr.heap.size := HV.out.lt
          obtain ⟨W0, hW0⟩ : ∃ W0, ((wr.alloc (.cells #[.pointer g] 23)).alloc (.cells #[.int .i64 (v : Nat)] 3)) = W0 := ⟨_, rfl⟩
          have hs0 : W0.heap.size = wr.heap.size + 2 := by rw [← hW0]; simp
          have hB0 : Below wr.heap.size wr W0 := by rw [← hW0]; exact ((Below.refl _ wr).alloc (Nat.le_refl _) _).alloc (by simp) _
          have q1 : W0.heap[wr.heap.size]? = some (.cells #[.pointer g] 23 (0, 0)) := by
            rw [← hW0, Below.heap_alloc _ _ _ (by simp only [World.size_alloc]; omega)]
            exact heap_alloc_new wr (.cells #[.pointer g] 23)
          have q2 : W0.heap[wr.heap.size + 1]? = some (.cells #[.int .i64 (v : Nat)] 3 (0, 0)) := by
            rw [← hW0]
            have := heap_alloc_new (wr.alloc (.cells #[.pointer g] 23)) (.cells #[.int .i64 (v : Nat)] 3)
            rwa [World.size_alloc] at this
          have hM0 := HM.out.below hB0
          have hV0 : Boxed W0 vb 3 (.int .i64 (v : Nat)) := (hB0.block _ hvbr).trans HV.out
          have hgW : GV W0 B (.pointer g) (some (n, E)) := HGr.out.below (hB0.mono (by omega))
          have bel0 : Below w.heap.size w W0 := bel.trans (hB0.mono hszr)
          have hMk0 := Lib.hid (HMk.out.keep (KeepD.of_below hB0))
          have hHD : Hid (∀ D, D ∈ Ds → D < wr.heap.size) := Lib.hid fun D hD => HMk.out.lt hD
          have hown : ∀ b, lv.ownBlock = some b → b < wr.heap.size := fun b hb => (HM.out.que.lt hb).2
          rw [hW0]
          clear hW0 cv HMk
          refine rangeR (F := Fence.wide) rfl (by omega) (gf := 75) (lb := #[.pointer (some ⟨wr.heap.size, 0, none⟩), .pointer (some ⟨wr.heap.size + 1, 0, none⟩)]) rfl trivial (enters_of Try.func75 (by kernel_rfl) rfl)
            (around_stops 13 (by omega) wr.heap.size (wr.heap.size + 1) B g v (some (n, E)) W0 hgW q1 q2 (by omega)) keepB_t (keepB_b (by omega) (by omega) (by omega)) (Below.refl _ _) (fun _ => rfl)
            (fun pre W => CJ E p n v vb d w w6 w7 L lv W0 pre W ∧ Below w.heap.size w W)
            (fun c _ W => CX E p n v vb d w w6 w7 L W0 c W ∧ Below w.heap.size w W)
            (OwnFrom.and (fun s A B row hs hg hr => by
                obtain ⟨h1, h2, h3, h4, h5⟩ := hs
                have hr2 : ∀ r, row = some r → ∃ o : Obj, A.heap[r]? = some o ∧ o.isCells = false := fun r e => (hr r e).2
                exact ⟨h1, h2.own hg hr2, boxed_own _ _ (fun _ : Unit => .int .i64 (v : Nat)) () A B row h3 hg hr2, h4.own h5 hg fun r e => (hr r e).1, Nat.le_trans h5 hg.size⟩)
              (ownFrom_below (Nat.le_refl _) (by omega)))
            (fun c => OwnFrom.and (fun s A B row hs hg hr => by
                obtain ⟨h0, i, lv', h1, h2, h3, h4, h5⟩ := hs
                have hr2 : ∀ r, row = some r → ∃ o : Obj, A.heap[r]? = some o ∧ o.isCells = false := fun r e => (hr r e).2
                exact ⟨h0, i, lv', h1, h2.own hg hr2, boxed_own _ _ (fun _ : Unit => .int .i64 (oN E v i : Nat)) () A B row h3 hg hr2, h4.own h5 hg fun r e => (hr r e).1, Nat.le_trans h5 hg.size⟩)
              (ownFrom_below (Nat.le_refl _) (by omega)))
            ⟨⟨fun _ h => absurd h (by simp), hM0, hV0, KeepD.refl _, Nat.le_refl _⟩, bel0⟩
            (fun _ x a' _ => a' = { tmps := #[.pointer g, u1, u2, .pointer (some ⟨w.heap.size, 0, none⟩), .slice none 0 0, u5, .int .i64 ((edP E p).1 : Nat), .int .i64 ((edP E p).2 : Nat), .pointer (some ⟨rb, 0, none⟩), u9, .pointer (some ⟨w7.heap.size, 0, none⟩), .pointer (some ⟨w7.heap.size + 1 + 1, 0, none⟩), .pointer (some ⟨vb, 0, none⟩), .int .i64 (x.1 : Nat), .int .i64 x.2, u15, u16, u17, u18, u19, u20, u21, u22, u23, u24, u25, u26, u27, u28, u29, u30, u31, u32, u33, u34, u35, u36, u37, u38, u39, u40, u41, u42, u43, u44, u45, u46, u47, u48, u49, u50, u51, u52, u53, u54, u55, u56, .int .i64 (v : Nat), .int .i64 ((edP E p).2 : Nat), .bool true, .pointer g, .int .i64 (v : Nat), .func (.func 75) #[] #[.pointer (some ⟨wr.heap.size, 0, none⟩), .pointer (some ⟨wr.heap.size + 1, 0, none⟩)], .int .i64 (x.1 : Nat), .int .i64 x.2, u65, u66, u67, u68, u69, u70, u71, u72, u73, u74, u75, u76, u77, u78, u79, u80, u81, u82, u83, u84, u85, u86], defers := [] })
            (fun _ _ _ _ _ _ _ hs _ _ => hs) ?assign ?body ?done ?stop
          case assign =>
            intro l pre x W K hI hR hK
            gi_wp2
            exact hK _ _ (KeepsFrom.refl _ _) ⟨Below.refl _ _, rfl, rfl⟩ hI rfl
          case body =>
            rintro l pre x a' W hl - ⟨⟨hfail, hM', hvb', hkd, hsW⟩, belW⟩ rfl hR
            obtain ⟨xi, xt⟩ := x
            have hmx : (xi, xt) ∈ around (some (n, E)) (v : Int) := by
              obtain ⟨t, ht⟩ := hR
              rw [← ht]; simp
            have haro : (around (some (n, E)) (v : Int)) = (adj E v).map fun i => (i, oth E (v : Int) i) := by
              unfold around
              rw [gAdj, if_pos (gHas_yes (show 0 ≤ (v : Int) ∧ (v : Int) < (n : Int) by omega))]
              rfl
            have hxi : xi ∈ adj E v := by
              rw [haro] at hmx
              obtain ⟨j, hj, e⟩ := List.mem_map.1 hmx
              cases e; exact hj
            obtain ⟨hxl, hxc⟩ := mem_adj.1 hxi
            obtain ⟨hlk, hnt, htk, -⟩ := oN_lnk G hxl hxc
            obtain rfl : xt = (oN E v xi : Nat) := by
              rw [haro] at hmx
              obtain ⟨j, hj, e⟩ := List.mem_map.1 hmx
              have e2 := (Prod.mk.inj e).1
              subst e2
              rw [← (Prod.mk.inj e).2]
              exact oth_oN G hxl
            have hsplit : ∃ r, adj E v = pre.map (·.1) ++ xi :: r := by
              obtain ⟨t, ht⟩ := hR
              rw [haro] at ht
              have := congrArg (List.map (·.1)) ht
              rw [List.map_map] at this
              refine ⟨t.map (·.1), ?_⟩
              have e : (fun (x : Nat × Int) => x.1) ∘ (fun i => (i, oth E (v : Int) i)) = id := rfl
              rw [e, List.map_id] at this
              rw [← this]; simp
            have cpb := hM'.pbx.cell
            have cxb := hM'.box.cell
            have ct := hM'.row.cell htk
            have cvd := hM'.row.cell hvn
            have cvb := hvb'.cell
            have htn : (0 : Int) ≤ (oN E v xi : Nat) ∧ ((oN E v xi : Nat) : Int) < n := by omega
            have hvn' : (0 : Int) ≤ (v : Nat) ∧ ((v : Nat) : Int) < n := by omega
            have hwd : IntKind.i64.wrap (d v - 1) = d v - 1 := IntWalk.i64_in _ (by omega)
            have hfail2 : stp E p d v xi = false → ∀ j, j ∈ (pre ++ [(xi, ((oN E v xi : Nat) : Int))]).map (·.1) → stp E p d v j = false := fun h j hj => by
              rw [List.map_append] at hj
              rcases List.mem_append.1 hj with hj | hj
              · exact hfail j hj
              · rw [show j = xi by simpa using hj]; exact h
            have HJ : Hid (stp E p d v xi = false → ∀ W2, Below W.heap.size W W2 → KeepsFrom W0.heap.size W W2 ∧ KeepB B wr.heap.size (wr.heap.size + 1) W W2 ∧ CJ E p n v vb d w w6 w7 L lv W0 (pre ++ [(xi, ((oN E v xi : Nat) : Int))]) W2 ∧ Below w.heap.size w W2) := Lib.hid fun h W2 hb =>
              ⟨⟨hb.size, fun k o _ ho _ => (hb.block k (Array.getElem?_eq_some_iff.1 ho).1).trans ho⟩, ⟨hb.mono (by omega), hb.block _ (by omega), hb.block _ (by omega)⟩, ⟨hfail2 h, hM'.below hb, (hb.block _ hvb'.lt).trans hvb', hkd.trans (KeepD.of_below hb), Nat.le_trans hsW hb.size⟩, belW.trans (hb.mono (by omega))⟩
            by_cases hxp : xi = p
            · subst hxp
              have hs : stp E xi d v xi = false := by simp [stp]
              have HJ2 := Lib.hid (HJ.out hs)
              clear hM' hvb' hkd hfail hfail2 hR hmx haro hsplit HJ belW
              gi_wp2_with fail
              refine region_quiet_round (by kernel_rfl) (by kernel_rfl) (by kernel_rfl) ?_
              repeat (go_big_quiet_step (fail))
              refine wpQuiet_nil ?_
              intro _ hw'
              obtain ⟨nq, hw''⟩ := hw'
              subst hw''
              gi_wp2_with fail
              exact HJ2.out _ (below_drewN (Below.refl _ _) _)
            · have hxp2 : ((xi : Nat) : Int) ≠ (p : Nat) := by omega
              have hxp3 : (((xi : Nat) : Int) != (p : Nat)) = true := bne_iff_ne.2 hxp2
              by_cases hdt : d (oN E v xi) = d v - 1
              · have hs : stp E p d v xi = true := by simp only [stp, decide_eq_true_eq]; exact ⟨hxp, hdt⟩
                obtain ⟨r, hr⟩ := hsplit
                have HNx := Lib.hid (nx_first hr hfail hs)
                have HM2 := Lib.hid hM'
                have HV2 := Lib.hid hvb'
                have HKd := Lib.hid hkd
                have HBW := Lib.hid belW
                clear hM' hvb' hkd hfail hfail2 hR hmx haro HJ belW hr hs
                gi_wp2_with fail
                refine region_quiet_round (by kernel_rfl) (by kernel_rfl) (by kernel_rfl) ?_
                repeat (go_big_quiet_step (fail))
                refine wpQuiet_nil ?_
                intro _ hw'
                obtain ⟨nq, hw''⟩ := hw'
                subst hw''
                have hbd : Below W.heap.size W (W.drewN nq) := below_drewN (Below.refl _ _) nq
                generalize W.drewN nq = W2 at *
                have hM2 := HM2.out.below hbd
                have hV2 : Boxed W2 vb 3 (.int .i64 (v : Nat)) := (hbd.block _ HV2.out.lt).trans HV2.out
                have hsW2 := hbd.size
                have hque := hM2.que
                have clb := hM2.lbx.cell
                have hlen : L.length ≤ 1000000 := by omega
                have hloW : w7.heap.size + 1 ≤ W2.heap.size := by omega
                have HM3 := Lib.hid hM2
                have HV3 := Lib.hid hV2
                clear hM2 hV2
                gi_wp2_with (gi_at_builtin; refine wpListIn_push_q rfl _ _ rfl (w7.heap.size + 1) lv L hque rfl xi _ rfl rfl hloW hlen ?_; intro v' w5 hq5 hg5 hv5; refine Hid.out ?_)
                obtain ⟨a5, c5, rfl⟩ := hq5.len
                have hp5 := HM3.out.push hg5 hq5
                have hqn := HM3.out.que.not_box HM3.out.lbx (by decide)
                have hqx5 : Boxed w5 (w7.heap.size + 1 + 1) 29 lv := (hg5.block _ HM3.out.lbx.lt fun e => hqn e.symm).trans HM3.out.lbx
                have hvx5 : Boxed w5 vb 3 (.int .i64 (v : Nat)) := (hg5.block _ HV3.out.lt fun e => hvo e.symm).trans HV3.out
                have hvl : vb ≠ w7.heap.size + 1 + 1 := fun e => by
                  have h1 : W2.heap[vb]? = _ := HV3.out
                  have h2 := HM3.out.lbx
                  rw [e] at h1
                  rw [show W2.heap[w7.heap.size + 1 + 1]? = _ from h2] at h1
                  simp at h1
                have hvx6 := box_far hvx5 (a := ⟨w7.heap.size + 1 + 1, 0, none⟩) hvl (.slice a5 (L ++ [xi]).length c5)
                have hvo6 : (Value.slice a5 (L ++ [xi]).length c5).ownBlock ≠ some vb := fun e => by
                  have := HV3.out.lt
                  rcases hv5 vb e with h | h
                  · exact hvo h
                  · omega
                have hM6 := hp5.far hvx6 (show vb ≠ w.heap.size by omega) (show vb ≠ w6.heap.size by omega) (.int .i64 (oN E v xi : Nat)) hvo6
                have hV6 := hvx6.set (.int .i64 (oN E v xi : Nat))
                have hc5 := hqx5.cell
                have hf5 := hqx5.frozen
                have hc6 := hvx6.cell
                have hf6 := hvx6.frozen
                have hbl : ∀ b, b ≠ w7.heap.size + 1 + 1 → b ≠ vb → lv.ownBlock ≠ some b → b < W2.heap.size → ((w5.setCell ⟨w7.heap.size + 1 + 1, 0, none⟩ (.slice a5 (L ++ [xi]).length c5)).setCell ⟨vb, 0, none⟩ (.int .i64 (oN E v xi : Nat))).heap[b]? = W2.heap[b]? := fun b h1 h2 h3 h4 => by
                  rw [Below.heap_setCell _ _ _ _ h2, Below.heap_setCell _ _ _ _ h1, hg5.block b h4 (fun e => h3 e.symm)]
                have hnc : ∀ (k' : Nat) (ob : Obj), W.heap[k']? = some ob → ob.isCells = false → ((w5.setCell ⟨w7.heap.size + 1 + 1, 0, none⟩ (.slice a5 (L ++ [xi]).length c5)).setCell ⟨vb, 0, none⟩ (.int .i64 (oN E v xi : Nat))).heap[k']? = some ob := fun k' ob ho hc => by
                  have hlt := (Array.getElem?_eq_some_iff.1 ho).1
                  have ho2 : W2.heap[k']? = some ob := (hbd.block _ hlt).trans ho
                  rw [hbl k' (fun e => ?_) (fun e => ?_) (fun e => ?_) (by omega), ho2]
                  · have h2 := HM3.out.lbx
                    rw [e, show W2.heap[w7.heap.size + 1 + 1]? = _ from h2] at ho2
                    cases ho2; cases hc
                  · have h2 := HV3.out
                    rw [e, show W2.heap[vb]? = _ from h2] at ho2
                    cases ho2; cases hc
                  · obtain ⟨o', h1, h2⟩ := HM3.out.que.cells k' e
                    rw [ho2] at h1; cases h1; rw [hc] at h2; cases h2
                have hsz : W.heap.size ≤ ((w5.setCell ⟨w7.heap.size + 1 + 1, 0, none⟩ (.slice a5 (L ++ [xi]).length c5)).setCell ⟨vb, 0, none⟩ (.int .i64 (oN E v xi : Nat))).heap.size := by
                  have := hg5.size
                  simp only [World.setCell, Array.size_modify]
                  omega
                have hlB : ∀ j, lv.ownBlock = some j → w.heap.size ≤ j := fun j e => by have := (HM3.out.que.lt e).1; omega
                have hBB : Below w.heap.size W2 ((w5.setCell ⟨w7.heap.size + 1 + 1, 0, none⟩ (.slice a5 (L ++ [xi]).length c5)).setCell ⟨vb, 0, none⟩ (.int .i64 (oN E v xi : Nat))) := (((Below.refl _ W2).grown hg5 (by omega) hlB).setCell (by show _ ≤ w7.heap.size + 1 + 1; omega) _).setCell (by show _ ≤ vb; omega) _
                have FIN := Lib.hid (show KeepsFrom W0.heap.size W ((w5.setCell ⟨w7.heap.size + 1 + 1, 0, none⟩ (.slice a5 (L ++ [xi]).length c5)).setCell ⟨vb, 0, none⟩ (.int .i64 (oN E v xi : Nat))) ∧ CX E p n v vb d w w6 w7 L W0 (.exit 2) ((w5.setCell ⟨w7.heap.size + 1 + 1, 0, none⟩ (.slice a5 (L ++ [xi]).length c5)).setCell ⟨vb, 0, none⟩ (.int .i64 (oN E v xi : Nat))) ∧ Below w.heap.size w ((w5.setCell ⟨w7.heap.size + 1 + 1, 0, none⟩ (.slice a5 (L ++ [xi]).length c5)).setCell ⟨vb, 0, none⟩ (.int .i64 (oN E v xi : Nat))) from
                  ⟨⟨hsz, fun k' ob _ h1 h2 => hnc k' ob h1 h2⟩, ⟨rfl, xi, _, HNx.out, hM6, hV6, fun D dd hD => hnc D _ (HKd.out D dd hD) rfl, by omega⟩, (HBW.out.trans (hbd.mono (by omega))).trans hBB⟩)
                rw [List.length_append, List.length_singleton] at FIN hc6 hf6
                clear hnc hsz hbl hlB hBB hM6 hV6 hp5 hqx5 hvx5 hvx6 hvo6 hq5
                refine Lib.hid ?_
                gi_wp2_with fail
                exact FIN.out
              · have hs : stp E p d v xi = false := by simp [stp, hdt]
                have HJ2 := Lib.hid (HJ.out hs)
                clear hM' hvb' hkd hfail hfail2 hR hmx haro hsplit HJ belW
                gi_wp2_with fail
                refine region_quiet_round (by kernel_rfl) (by kernel_rfl) (by kernel_rfl) ?_
                repeat (go_big_quiet_step (fail))
                refine wpQuiet_nil ?_
                intro _ hw'
                obtain ⟨nq, hw''⟩ := hw'
                subst hw''
                gi_wp2_with fail
                exact HJ2.out _ (below_drewN (Below.refl _ _) _)
          case done =>
            rintro D xs W hD rfl ⟨⟨hfail, _⟩, _⟩ hK
            have e : (around (some (n, E)) (v : Int)).map (·.1) = adj E v := by
              unfold around
              rw [List.map_map, gAdj, if_pos (gHas_yes (show 0 ≤ (v : Int) ∧ (v : Int) < (n : Int) by omega))]
              exact List.map_id' _
            rw [e] at hfail
            obtain ⟨i, hi⟩ := nx_some G HD2.out hvn hd0
            rw [nx_none hfail] at hi
            cases hi
          case stop =>
            rintro D c pre W hD ⟨⟨rfl, i, lv', hnx, hM', hvb', hkd, hsz⟩, belW⟩ hK
            obtain ⟨k1, k2, k3, k4⟩ := nx_mem hnx
            have k5 := (oN_lnk G k1 k2).2.2.1
            have hMW2 : Marks w.heap.size (D :: Ds) W := (hMk0.out.keep hkd).cons hK (by omega) (fun h => by have := hHD.out D h; omega)
            have cv := hvb'.cell
            have hcy2 : cyc E p d (edP E p).1 = (L ++ [i]) ++ chn E p d (d (oN E v i)).toNat (oN E v i) := by
              rw [HCy.out, show (d v).toNat = (d (oN E v i)).toNat + 1 by omega, chn_step hnx, List.append_assoc]
              rfl
            have hMa := hM'.below (w' := W.alloc (.cells #[.int .i64 (oN E v i : Nat)] 3)) ((Below.refl _ W).alloc (Nat.le_refl _) _)
            have hVa := Boxed.new W 3 (.int .i64 (oN E v i : Nat))
            have hBa := belW.alloc (show w.heap.size ≤ W.heap.size by omega) (.cells #[.int .i64 (oN E v i : Nat)] 3)
            have hMka := hMW2.keep (KeepD.of_below ((Below.refl W.heap.size W).alloc (Nat.le_refl _) (.cells #[.int .i64 (oN E v i : Nat)] 3)))
            have hoa : lv'.ownBlock ≠ some W.heap.size := fun e => by have := (hM'.que.lt e).2; omega
            have HMa := Lib.hid hMa
            have HVa := Lib.hid hVa
            have HBa := Lib.hid hBa
            have HMka := Lib.hid hMka
            have HCy2 := Lib.hid hcy2
            have Hoa := Lib.hid hoa
            clear hM' hvb' hkd belW hMW2 hcy2 hMa hVa hBa hMka hoa hK
            gi_wp2_with fail
            refine ⟨.mk (oN E v i) (L ++ [i]) lv' W.heap.size (D :: Ds) _ _ _ _ _ _ _ _ _ _ _ _ _ _ _ _ _ _ _ _ _ _ _ _ _ _ _ _ _ _ _ _ _ _ _ _ _ _ _ _ _ _ _ _ _ _ _ _ _ _ _ _ _ _ _ _ _ _ _ _ _ _ _ _ _ _ _ _ _ _ _ _ _ _ _ _ _ _ k5 (by omega) HCy2.out (by rw [List.length_append, List.length_singleton]; omega) HMa.out HVa.out (by omega) Hoa.out HBa.out HMka.out, ?_⟩
            rw [Hmu.out _ rfl, mC_eq rfl HVa.out]
            omega
end Go.Proofs.Ytcpikabhcjkkmaa
