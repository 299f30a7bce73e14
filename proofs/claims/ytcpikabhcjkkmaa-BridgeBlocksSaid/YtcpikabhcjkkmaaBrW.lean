/- The walk of the depth-first search of package bridge. Conditions: the graph was made by New, or it is nil or zero; its callers keep what they promise. -/
import Derived.Test.YtcpikabhcjkkmaaBrM
import Derived.Deep.LoopGhost
import Derived.WalkMore
namespace Go.Proofs.Ytcpikabhcjkkmaa
open Go.RowKit Go.Shelf

theorem Try.infoBl : (Try.prog.info? 4).map (fun i => (i.zero, i.size, i.bytes)) = some (some (.bool false), 1, 1) := by kernel_rfl
/-- what the search answers its caller -/
def SrRes (n : Nat) (E : List Ed) (Rc : List Ev → List Nat → World → Prop) (L0 : List Nat) (w : World) (e : Ending) (w' : World) : Prop :=
  (∃ r, e = .returned r) ∧ ∃ s evs L, Done n E s evs ∧ Rc evs L w' ∧ Own L0 L w w'
set_option maxRecDepth 100000 in
set_option maxHeartbeats 4000000 in
theorem search_any (B : Nat) (g : Option Addr) (n : Nat) (E : List Ed) (o : Option (Nat × List Ed)) (ho : o = some (n, E) ∨ o = none ∧ n = 0 ∧ E = []) (w : World) (h : GV w B (.pointer g) o) (hB : B ≤ w.heap.size)
    (fm fl : Nat) (cm cl : Array Value) (Rc : List Ev → List Nat → World → Prop) (C : Clt n E fm fl cm cl Rc) (L0 : List Nat) (h0 : Rc [] L0 w) :
    Calls Try.prog 36 #[.pointer g, .func (.func fm) #[] cm, .func (.func fl) #[] cl] w (SrRes n E Rc L0 w) := by
  have hn : gN o = n := by rcases ho with rfl | ⟨rfl, rfl, _⟩ <;> rfl
  have hE : gE o = E := by rcases ho with rfl | ⟨rfl, _, rfl⟩ <;> rfl
  have G : GOk n E := by
    rcases ho with rfl | ⟨rfl, rfl, rfl⟩
    · exact h.good
    · exact ⟨by decide, by decide, fun i hi => absurd hi (by simp)⟩
  have hn4 := G.n_le
  have hm4 := G.m_le
  have HG := Lib.hid h
  have HLK := links_any B g o w h hB
  unfold LkRes at HLK
  rw [hn] at HLK
  have HLK := Lib.hid HLK
  have hmB : ∀ w, (Instr.makeSlice 56 (.int .i64 (E.length : Nat)) (.int .i64 (E.length : Nat))).run Try.prog w = .ok (.slice (some ⟨w.heap.size, 0, none⟩) E.length E.length) (w.alloc (.cells (madeCells #[.bool false] E.length) 4)) := fun w =>
    run_make_row' (P := Try.prog) 56 4 (.bool false) 1 Try.underlying56 Try.infoBl rfl .i64 .i64 E.length (by omega) (by omega) w
  have hmI : ∀ w, (Instr.makeSlice 29 (.int .i64 (n : Nat)) (.int .i64 (n : Nat))).run Try.prog w = .ok (.slice (some ⟨w.heap.size, 0, none⟩) n n) (w.alloc (.cells (madeCells #[.int .i64 0] n) 3)) := fun w =>
    run_make_row' (P := Try.prog) 29 3 (.int .i64 0) 8 Try.underlying29 Try.infoI rfl .i64 .i64 n (by omega) (by omega) w
  have HC := Lib.hid C
  have H0 := Lib.hid h0
  have HGd := Lib.hid G
  have Ho := Lib.hid ho
  clear C h0 h ho
  go_enter Try.func36, Try.ntmps36
  go_wp2_with fail
  refine HLK.out.mono ?_
  rintro e w1 ⟨rfl, hL1, b1⟩
  have HL1 := Lib.hid (hL1.at (lo := w.heap.size) (hi := w1.heap.size) (Nat.le_refl _) (Nat.le_refl _))
  have HGE := edges_any B (.pointer g) o w1 (HG.out.below (b1.mono hB)) (Nat.le_trans hB b1.size)
  unfold GEdges at HGE
  rw [hE] at HGE
  have HGE := Lib.hid HGE
  have B1 := Lib.hid b1
  clear HLK hL1 b1
  go_wp2_with fail
  refine HGE.out.mono ?_
  rintro e w2 ⟨a2, c2, A2, rfl, -, b2⟩
  have HL2 := Lib.hid ((HL1.out.same (w' := w2) fun k _ h2 => b2.block k h2).up b2.size)
  have B2 := Lib.hid (B1.out.trans (b2.mono B1.out.size))
  have hs2 := b2.size
  clear HGE HL1 B1 b2
  go_wp2_with fail
  have HG2 := Lib.hid (HG.out.below (B2.out.mono hB))
  refine (n_any B _ o _ (HG2.out.below ((Below.refl _ _).alloc (by have := B2.out.size; omega) _))).mono ?_
  rintro e w' ⟨rfl, rfl⟩
  rw [hn]
  go_wp2_with fail
  refine (n_any B _ o _ (HG2.out.below ((((Below.refl _ _).alloc (by have := B2.out.size; omega) _).alloc (by simp only [World.size_alloc]; have := B2.out.size; omega) _).alloc (by simp only [World.size_alloc]; have := B2.out.size; omega) _))).mono ?_
  rintro e w' ⟨rfl, rfl⟩
  rw [hn]
  go_wp2_with fail
  have HSR := Lib.hid (SR.start (m := E.length) HC.out rfl HL2.out B2.out H0.out)
  have hz0 := B2.out.size
  clear HL2 HG2 HG B2 H0 hmB hmI
  generalize hw7 : sW w2 E.length n = w7 at HSR
  unfold sW at hw7
  rw [hw7]
  generalize w2.heap.size = z at *
  generalize hs0 : ds0 = s0 at HSR
  clear hw7
  simp only [Nat.add_assoc, Nat.reduceAdd]
  have R0 : Hid (Run n E s0 []) := Lib.hid (by rw [← hs0]; exact Run.start)
  have hst0 : s0.stk = [] := by rw [← hs0]; rfl
  clear hs0
  go_loopw [34] (fun i wr => ∃ (k : Nat) (s : Dfs) (evs : List Ev) (L : List Nat) (sv : Value), k ≤ n ∧ i = .int .i64 (k : Nat) ∧ Hid (Run n E s evs) ∧ s.stk = [] ∧ Hid (∀ x, x < k → 0 < s.fnd x) ∧ Hid (SR w.heap.size z w.heap.size n E.length (fun i => around o i) Rc L0 w wr s evs L sv)) (fun i _ => n - (intOf i).toNat)
  case atStart => exact ⟨0, s0, [], L0, _, Nat.zero_le _, rfl, R0, hst0, Lib.hid (fun x hx => absurd hx (Nat.not_lt_zero _)), HSR⟩
  case round =>
    obtain ⟨k, s, evs, L, sv, hk, rfl, HR, hst, HF, HS⟩ := hrel
    clear R0 hst0 HSR
    by_cases hlt : k < n
    · have cfx : wr.cell? ⟨z + 2, 0, none⟩ = some (.slice (some ⟨z + 1, 0, none⟩) n n) := HS.out.mem.fx.cell (by omega)
      have cfk : wr.cell? ⟨z + 1, k, none⟩ = some (.int .i64 (s.fnd k : Nat)) := HS.out.mem.fnd.cell hlt
      have hkn : (0 : Int) ≤ k ∧ (k : Int) < n := by omega
      by_cases h0 : 0 < s.fnd k
      · have hd : decide ((0 : Int) < (s.fnd k : Nat)) = true := decide_eq_true (by omega)
        have h0' : (0 : Int) < (s.fnd k : Nat) := by omega
        have HF2 : Hid (∀ x, x < k + 1 → 0 < s.fnd x) := Lib.hid fun x hx => by
          by_cases c : x = k
          · rw [c]; exact h0
          · exact HF.out x (by omega)
        clear h0
        generalize s.fnd k = fk at *
        go_wp2_with fail
        go_step3
        go_wp2_with fail
        rw [Exit.noGoto_exit]
        go_wp2_with fail
        go_roundw
        case rel => exact ⟨k + 1, s, evs, L, sv, by omega, by go_num, HR, hst, HF2, HS⟩
        case measure => simp only [intOf]; omega
      · have h00 : s.fnd k = 0 := by omega
        rw [h00] at cfk
        have hbd := HR.out.bound HGd.out
        go_wp2_with fail
        go_step3
        go_wp2_with fail
        refine (enter_any wr w.heap.size z w.heap.size n E.length _ s sv k (-1) HS.out.mem hlt (by omega) (by omega)).mono ?_
        rintro e w8 ⟨⟨r8, rfl⟩, sv8, hA8, hC8⟩
        have HS8 := Lib.hid (HS.out.mine HC.out hC8 hA8)
        have HR8 := Lib.hid (HR.out.root k hst hlt h00)
        rw [hst] at HS8
        have HF8 : Hid (∀ x, x < k + 1 → 0 < upd s.fnd k (s.cnt + 1) x) := Lib.hid fun x hx => by
          by_cases c : x = k
          · rw [c, upd_at]; omega
          · rw [upd_ne _ _ c]; exact HF.out x (by omega)
        obtain ⟨s8, hs8⟩ : ∃ s8 : Dfs, s8 = ⟨s.cnt + 1, upd s.fnd k (s.cnt + 1), upd s.low k (s.cnt + 1), s.met, [⟨k, -1, 0⟩]⟩ := ⟨_, rfl⟩
        rw [← hs8] at HS8 HR8
        rw [show upd s.fnd k (s.cnt + 1) = s8.fnd by rw [hs8]] at HF8
        clear hs8 HS HR HF hA8 hC8 cfx cfk hst hbd h0 h00
        go_wp2_with fail
        go_step3
        go_wp2_with fail
        go_loopg [] (2 * unf s8.fnd n + s8.stk.length) (fun N w9 => ∃ (s : Dfs) (evs : List Ev) (L : List Nat) (sv : Value), N = 2 * unf s.fnd n + s.stk.length ∧ Hid (Run n E s evs) ∧ Hid (∀ x, x < k + 1 → 0 < s.fnd x) ∧ Hid (SR w.heap.size z w.heap.size n E.length (fun i => around o i) Rc L0 w w9 s evs L sv))
        case atStart => exact ⟨s8, evs, L, sv8, rfl, HR8, HF8, HS8⟩
        case round =>
          clear HR8 HF8 HS8
          clear s8 sv8 L sv
          obtain ⟨s, evs, L, sv, rfl, HR, HF, HS⟩ := hrel
          have ckx : wr.cell? ⟨z + 6, 0, none⟩ = some sv := HS.out.mem.kx.cell (by omega)
          cases hst : s.stk with
          | nil =>
            obtain ⟨sa, sc, hsl⟩ := HS.out.mem.len
            rw [hst] at hsl
            rw [hsl] at ckx
            go_wp2_with fail
            rw [Exit.noGoto_normal]
            go_wp2_with fail
            go_roundw
            case rel => exact ⟨k + 1, s, evs, L, sv, by omega, by go_num, HR, hst, HF, HS⟩
            case measure => simp only [intOf]; omega
          | cons p q =>
            obtain ⟨v, e, j⟩ := p
            obtain ⟨gb, cap, hsv, hgz, hgw, cv, ce, cn, fn, hcap⟩ := HS.out.mem.top hst
            rw [hsv] at ckx
            have hpos : (0 : Int) < (q.length + 1 : Nat) := by omega
            have hql : q.length ≤ 4096 := by have h1 := HR.out.bound HGd.out; rw [hst] at h1; have h2 := h1.2; simp only [List.length_cons] at h2; omega
            have hqi : (0 : Int) ≤ q.length ∧ (q.length : Int) < (q.length : Int) + 1 := by omega
            have hI := HR.out.inv HGd.out
            have hlv := hI.lev
            rw [hst] at hlv
            have hpn : v < n := hI.lt _ hlv.1.pos
            have hnx : j ≤ (adj E v).length := (hI.nx ⟨v, e, j⟩ (by rw [hst]; exact List.mem_cons_self ..)).1
            obtain rfl : o = some (n, E) := by
              rcases Ho.out with h | ⟨_, h, _⟩
              · exact h
              · omega
            have Hsv := Lib.hid hsv
            clear hI hlv hsv
            go_wp2_with fail
            go_quiet (fail)
            go_wp2_with fail
            go_loopg [] ((adj E v).length - j) (fun N wr => ∃ (s' : Dfs) (j : Nat) (evs : List Ev) (L : List Nat), N = (adj E v).length - j ∧ s'.stk = ⟨v, e, j⟩ :: q ∧ j ≤ (adj E v).length ∧ unf s'.fnd n = unf s.fnd n ∧ Hid (Run n E s' evs) ∧ Hid (∀ x, x < k + 1 → 0 < s'.fnd x) ∧ Hid (SR w.heap.size z w.heap.size n E.length (fun i => around (some (n, E)) (i : Int)) Rc L0 w wr s' evs L sv))
            case atStart => exact ⟨s, j, evs, L, rfl, hst, hnx, rfl, HR, HF, Lib.hid (HS.out.drewN HC.out _)⟩
            case round =>
              clear HS HR HF ckx cv ce cn fn hgw hnx
              obtain ⟨s', j, evs, L, rfl, hst', hj, hunf, HR, HF, HS⟩ := hrel
              obtain ⟨gb2, cap2, hsv2, -, hgw, cv, ce, cn, fn, -⟩ := HS.out.mem.top hst'
              obtain ⟨rfl, rfl⟩ : gb2 = gb ∧ cap2 = cap := by have := hsv2.symm.trans Hsv.out; simp at this; exact this
              obtain ⟨ra, rc, c0, hrow⟩ := HS.out.mem.row HGd.out hpn
              have hvn : (0 : Int) ≤ v ∧ (v : Int) < n := by omega
              have hdm : (adj E v).length ≤ 16384 := Nat.le_trans (deg_le E v) hm4
              by_cases hlt : j < (adj E v).length
              · obtain ⟨i, hi⟩ : ∃ i, (adj E v)[j]? = some i := ⟨_, List.getElem?_eq_getElem hlt⟩
                obtain ⟨rb, rfl, cl0, cl1⟩ := hrow j i hi
                obtain ⟨hil, hin⟩ := adj_get hi
                obtain ⟨hlk, hvt, htn, -⟩ := oN_lnk HGd.out hil hin
                have hij : (0 : Int) ≤ j ∧ (j : Int) < (adj E v).length := by omega
                have hd1 : decide ((j : Int) < ((adj E v).length : Nat)) = true := decide_eq_true (by omega)
                have Hj := Lib.hid hj
                have Hi := Lib.hid hi
                have Hst := Lib.hid hst'
                generalize hdg : (adj E v).length = dg at *
                generalize ht : oN E v i = t at *
                clear hrow hlk hvt hin hj hsv2 hi hst'
                go_wp2_with fail
                go_quiet (fail)
                go_wp2_with fail
                generalize hwq : (World.drewN wr _ : World) = wq
                have HSq : Hid (SR w.heap.size z w.heap.size n E.length (fun i => around (some (n, E)) (i : Int)) Rc L0 w wq s' evs L sv) := Lib.hid (by rw [← hwq]; exact HS.out.drewN HC.out _)
                have S16 : wq.drew.cell? ⟨w.heap.size, v, none⟩ = some (.slice (some ⟨rb, 0, none⟩) dg rc) ∧ wq.drew.cell? ⟨gb2, q.length * 3 + 2, none⟩ = some (.int .i64 (j : Nat)) ∧ wq.drew.cell? ⟨rb, j * 2, none⟩ = some (.int .i64 (i : Nat)) ∧ wq.drew.cell? ⟨rb, j * 2 + 1, none⟩ = some (.int .i64 (t : Nat)) := by
                  rw [← hwq]; exact ⟨c0, cn, cl0, cl1⟩
                clear c0 cn cl0 cl1 HS cv ce fn hwq
                refine region_plain (fun w' => w'.cell? ⟨w.heap.size, v, none⟩ = some (.slice (some ⟨rb, 0, none⟩) dg rc) ∧ w'.cell? ⟨gb2, q.length * 3 + 2, none⟩ = some (.int .i64 (j : Nat)) ∧ w'.cell? ⟨rb, j * 2, none⟩ = some (.int .i64 (i : Nat)) ∧ w'.cell? ⟨rb, j * 2 + 1, none⟩ = some (.int .i64 (t : Nat))) (by kernel_rfl) ?_
                have HS := S16
                refine take_at (i := 0) (d := 71) (v := ?_) rfl rfl (by kernel_rfl) (by kernel_rfl) (by kernel_rfl) (fun _ _ _ _ => NormalOnly.any) rfl ?hy1 HS ?rest1
                case hy1 => intro w' hSw; (try dsimp only at hSw); go_simp; try (with_reducible rfl)
                try simp only [List.setIfInBounds_toArray, List.set_cons_zero, List.set_cons_succ]
                refine take_at (i := 1) (d := 72) (v := ?_) rfl rfl (by kernel_rfl) (by kernel_rfl) (by kernel_rfl) (fun _ _ _ _ => NormalOnly.any) rfl ?hy2 HS ?rest2
                case hy2 => intro w' hSw; (try dsimp only at hSw); go_simp; try (with_reducible rfl)
                try simp only [List.setIfInBounds_toArray, List.set_cons_zero, List.set_cons_succ]
                refine take_at (i := 2) (d := 73) (v := ?_) rfl rfl (by kernel_rfl) (by kernel_rfl) (by kernel_rfl) (fun _ _ _ _ => NormalOnly.any) rfl ?hy3 HS ?rest3
                case hy3 => intro w' hSw; (try dsimp only at hSw); go_simp; try (with_reducible rfl)
                try simp only [List.setIfInBounds_toArray, List.set_cons_zero, List.set_cons_succ]
                refine take_at (i := 3) (d := 74) (v := ?_) rfl rfl (by kernel_rfl) (by kernel_rfl) (by kernel_rfl) (fun _ _ _ _ => NormalOnly.any) rfl ?hy4 HS ?rest4
                case hy4 => intro w' hSw; (try dsimp only at hSw); go_simp; try (with_reducible rfl)
                try simp only [List.setIfInBounds_toArray, List.set_cons_zero, List.set_cons_succ]
                refine take_at (i := 4) (d := 75) (v := ?_) rfl rfl (by kernel_rfl) (by kernel_rfl) (by kernel_rfl) (fun _ _ _ _ => NormalOnly.any) rfl ?hy5 HS ?rest5
                case hy5 => intro w' hSw; (try dsimp only at hSw); go_simp; try (with_reducible rfl)
                try simp only [List.setIfInBounds_toArray, List.set_cons_zero, List.set_cons_succ]
                refine take_at (i := 5) (d := 76) (v := ?_) rfl rfl (by kernel_rfl) (by kernel_rfl) (by kernel_rfl) (fun _ _ _ _ => NormalOnly.any) rfl ?hy6 HS ?rest6
                case hy6 => intro w' hSw; (try dsimp only at hSw); go_simp; try (with_reducible rfl)
                try simp only [List.setIfInBounds_toArray, List.set_cons_zero, List.set_cons_succ]
                refine take_at (i := 6) (d := 77) (v := ?_) rfl rfl (by kernel_rfl) (by kernel_rfl) (by kernel_rfl) (fun _ _ _ _ => NormalOnly.any) rfl ?hy7 HS ?rest7
                case hy7 => intro w' hSw; (try dsimp only at hSw); go_simp; try (with_reducible rfl)
                try simp only [List.setIfInBounds_toArray, List.set_cons_zero, List.set_cons_succ]
                refine take_at (i := 7) (d := 78) (v := ?_) rfl rfl (by kernel_rfl) (by kernel_rfl) (by kernel_rfl) (fun _ _ _ _ => NormalOnly.any) rfl ?hy8 HS ?rest8
                case hy8 => intro w' hSw; (try dsimp only at hSw); go_simp; try (with_reducible rfl)
                try simp only [List.setIfInBounds_toArray, List.set_cons_zero, List.set_cons_succ]
                refine take_at (i := 8) (d := 79) (v := ?_) rfl rfl (by kernel_rfl) (by kernel_rfl) (by kernel_rfl) (fun _ _ _ _ => NormalOnly.any) rfl ?hy9 HS ?rest9
                case hy9 => intro w' hSw; (try dsimp only at hSw); go_simp; try (with_reducible rfl)
                try simp only [List.setIfInBounds_toArray, List.set_cons_zero, List.set_cons_succ]
                refine take_at (i := 9) (d := 80) (v := ?_) rfl rfl (by kernel_rfl) (by kernel_rfl) (by kernel_rfl) (fun _ _ _ _ => NormalOnly.any) rfl ?hy10 HS ?rest10
                case hy10 => intro w' hSw; (try dsimp only at hSw); go_simp; try (with_reducible rfl)
                try simp only [List.setIfInBounds_toArray, List.set_cons_zero, List.set_cons_succ]
                refine wpAnyH_ready (rs := [10]) (by kernel_rfl) (by simp) ?_
                refine AllReadyH.cons rfl (fun K hK => ?_) AllReadyH.nil
                go_simp
                have hsw : z + 7 ≤ wq.heap.size := HSq.out.mem.sz
                have S17 : (wq.alloc (.cells #[.int .i64 0, .int .i64 0] 106)).drew.cell? ⟨w.heap.size, v, none⟩ = some (.slice (some ⟨rb, 0, none⟩) dg rc) ∧ (wq.alloc (.cells #[.int .i64 0, .int .i64 0] 106)).drew.cell? ⟨gb2, q.length * 3 + 2, none⟩ = some (.int .i64 (j : Nat)) ∧ (wq.alloc (.cells #[.int .i64 0, .int .i64 0] 106)).drew.cell? ⟨rb, j * 2, none⟩ = some (.int .i64 (i : Nat)) ∧ (wq.alloc (.cells #[.int .i64 0, .int .i64 0] 106)).drew.cell? ⟨rb, j * 2 + 1, none⟩ = some (.int .i64 (t : Nat)) :=
                  ⟨cell_new (w := wq) S16.1 _, cell_new (w := wq) S16.2.1 _, cell_new (w := wq) S16.2.2.1 _, cell_new (w := wq) S16.2.2.2 _⟩
                have hlb : Row (wq.alloc (.cells #[.int .i64 0, .int .i64 0] 106)).drew wq.heap.size 2 (fun _ => .int .i64 0) := Row.lit wq #[.int .i64 0, .int .i64 0] _ (by simp) (fun i hi => by match i, hi with
                                                                                                                                        | 0, _ => rfl
                                                                                                                                        | 1, _ => rfl
                                                                                                                                        | q + 2, h => omega)
                have A1 : Hid (Chg z sv sv wq (wq.alloc (.cells #[.int .i64 0, .int .i64 0] 106)).drew) := Lib.hid (Chg.alloc _).drew
                have M1 : Hid (SAt (wq.alloc (.cells #[.int .i64 0, .int .i64 0] 106)).drew w.heap.size z w.heap.size n E.length (fun i => around (some (n, E)) (i : Int)) s' sv) := Lib.hid ((HSq.out.mem.alloc _).drewN 1)
                have hlt4 : w.heap.size < wq.heap.size ∧ gb2 < wq.heap.size ∧ rb < wq.heap.size := ⟨cell_lt (w := wq) S16.1, cell_lt (w := wq) S16.2.1, cell_lt (w := wq) S16.2.2.1⟩
                obtain ⟨wa, hwa⟩ : ∃ wa, (wq.alloc (.cells #[.int .i64 0, .int .i64 0] 106)).drew = wa := ⟨_, rfl⟩
                rw [hwa] at S17 hlb A1 M1 ⊢
                refine hK.out _ _ S17 (fun _ => ?_)
                clear hK hwa HS
                have cA0 := hlb.cell (i := 0) (by omega)
                have fA0 := hlb.frozen 0
                have hlb1 := hlb.set 0 (.int .i64 (i : Nat))
                have cA1 : (wa.setCell ⟨wq.heap.size, 0, none⟩ (.int .i64 (i : Nat))).cell? ⟨wq.heap.size, 1, none⟩ = some (.int .i64 0) := by rw [hlb1.cell (i := 1) (by omega), if_neg (by omega)]
                have fA1 := hlb1.frozen 1
                refine wpAnyH_ready (rs := [11]) (by kernel_rfl) (by simp) ?_
                refine AllReadyH.cons rfl (fun K hK => ?_) AllReadyH.nil
                go_simp
                have hsv9 : sv.ownBlock ≠ some wq.heap.size := fun c => by have := (HSq.out.mem.own_lt c).2; omega
                have HSb : Hid (SR w.heap.size z w.heap.size n E.length (fun i => around (some (n, E)) (i : Int)) Rc L0 w ((wa.setCell ⟨wq.heap.size, 0, none⟩ (.int .i64 (i : Nat))).setCell ⟨wq.heap.size, 1, none⟩ (.int .i64 (t : Nat))) s' evs L sv) :=
                  Lib.hid (HSq.out.mine HC.out ((A1.out.far (Nat.le_refl _)).far (Nat.le_refl _)) ((M1.out.far hsw hsv9).far hsw hsv9))
                have hlb2 := Lib.hid (hlb1.set 1 (.int .i64 (t : Nat)))
                have S18 : ((wa.setCell ⟨wq.heap.size, 0, none⟩ (.int .i64 (i : Nat))).setCell ⟨wq.heap.size, 1, none⟩ (.int .i64 (t : Nat))).cell? ⟨w.heap.size, v, none⟩ = some (.slice (some ⟨rb, 0, none⟩) dg rc) ∧ ((wa.setCell ⟨wq.heap.size, 0, none⟩ (.int .i64 (i : Nat))).setCell ⟨wq.heap.size, 1, none⟩ (.int .i64 (t : Nat))).cell? ⟨gb2, q.length * 3 + 2, none⟩ = some (.int .i64 (j : Nat)) ∧ ((wa.setCell ⟨wq.heap.size, 0, none⟩ (.int .i64 (i : Nat))).setCell ⟨wq.heap.size, 1, none⟩ (.int .i64 (t : Nat))).cell? ⟨rb, j * 2, none⟩ = some (.int .i64 (i : Nat)) ∧ ((wa.setCell ⟨wq.heap.size, 0, none⟩ (.int .i64 (i : Nat))).setCell ⟨wq.heap.size, 1, none⟩ (.int .i64 (t : Nat))).cell? ⟨rb, j * 2 + 1, none⟩ = some (.int .i64 (t : Nat)) :=
                  ⟨cell_far (cell_far S17.1 (Nat.ne_of_lt hlt4.1) _) (Nat.ne_of_lt hlt4.1) _, cell_far (cell_far S17.2.1 (Nat.ne_of_lt hlt4.2.1) _) (Nat.ne_of_lt hlt4.2.1) _, cell_far (cell_far S17.2.2.1 (Nat.ne_of_lt hlt4.2.2) _) (Nat.ne_of_lt hlt4.2.2) _, cell_far (cell_far S17.2.2.2 (Nat.ne_of_lt hlt4.2.2) _) (Nat.ne_of_lt hlt4.2.2) _⟩
                obtain ⟨wb, hwb⟩ : ∃ wb, (wa.setCell ⟨wq.heap.size, 0, none⟩ (.int .i64 (i : Nat))).setCell ⟨wq.heap.size, 1, none⟩ (.int .i64 (t : Nat)) = wb := ⟨_, rfl⟩
                rw [hwb] at HSb hlb2 S18 ⊢
                refine hK.out _ _ S18 (fun _ => ?_)
                clear hK hwb S16 S17 S18 hlb hlb1 A1 M1 cA0 fA0 cA1 fA1
                refine wpAnyH_done (by kernel_rfl) ⟨rfl, ?_⟩ _
                obtain ⟨lb, hlbe⟩ : ∃ lb, wq.heap.size = lb := ⟨_, rfl⟩
                have hLq : Hid (∀ b, b ∈ L → b < wq.heap.size) := Lib.hid (HC.out.lt _ _ _ HSq.out.rc)
                rw [hlbe] at hlb2 hsw hsv9 hLq ⊢
                have hgl : gb2 < lb := by rw [← hlbe]; exact hlt4.2.1
                clear HSq hlbe hlt4
                obtain ⟨gb3, cap3, hsv3, -, -, -, -, cn, fn, -⟩ := HSb.out.mem.top Hst.out
                obtain ⟨rfl, rfl⟩ : gb3 = gb2 ∧ cap3 = cap2 := by have := hsv3.symm.trans Hsv.out; simp at this; exact this
                have HSc : Hid (SR w.heap.size z w.heap.size n E.length (fun i => around (some (n, E)) (i : Int)) Rc L0 w (wb.setCell ⟨gb3, q.length * 3 + 2, none⟩ (.int .i64 ((j : Int) + 1))) ⟨s'.cnt, s'.fnd, s'.low, s'.met, ⟨v, e, j + 1⟩ :: q⟩ evs L sv) :=
                  Lib.hid (HSb.out.mine HC.out (Chg.setOwn (by rw [Hsv.out]; rfl) _) (by have := HSb.out.mem.setNx Hst.out Hsv.out hgz (j + 1); exact this))
                have hlbc := Lib.hid (hlb2.out.setOther (a := ⟨gb3, q.length * 3 + 2, none⟩) (by show lb ≠ gb3; omega) (.int .i64 ((j : Int) + 1)))
                have cl0 : (wb.setCell ⟨gb3, q.length * 3 + 2, none⟩ (.int .i64 ((j : Int) + 1))).cell? ⟨lb, 0, none⟩ = some (.int .i64 (i : Nat)) := hlbc.out.cell (i := 0) (by omega)
                have cme : (wb.setCell ⟨gb3, q.length * 3 + 2, none⟩ (.int .i64 ((j : Int) + 1))).cell? ⟨z, i, none⟩ = some (.bool (s'.met i)) := HSc.out.mem.met.cell hil
                have hie : (0 : Int) ≤ i ∧ (i : Int) < E.length := by omega
                clear hlb2 hsv3
                by_cases hm : s'.met i = true
                · have HR2 := Lib.hid (HR.out.skip Hst.out Hi.out hm)
                  rw [hm] at cme
                  go_wp2_with fail
                  go_roundg (dg - (j + 1))
                  case rel => exact ⟨⟨s'.cnt, s'.fnd, s'.low, s'.met, ⟨v, e, j + 1⟩ :: q⟩, j + 1, evs, L, rfl, rfl, by omega, hunf, HR2, HF, HSc⟩
                  case measure => omega
                · have hm : s'.met i = false := by simpa using hm
                  rw [hm] at cme
                  have em := HC.out.em
                  have fme := HSc.out.mem.met.frozen i
                  go_wp2_with fail
                  have HSd : Hid (SR w.heap.size z w.heap.size n E.length (fun i => around (some (n, E)) (i : Int)) Rc L0 w ((wb.setCell ⟨gb3, q.length * 3 + 2, none⟩ (.int .i64 ((j : Int) + 1))).setCell ⟨z, i, none⟩ (.bool true)) ⟨s'.cnt, s'.fnd, s'.low, upd s'.met i true, ⟨v, e, j + 1⟩ :: q⟩ evs L sv) :=
                    Lib.hid (HSc.out.mine HC.out ((Chg.refl z sv _).set (p := ⟨z, i, none⟩) (Nat.le_refl _) (by show z < z + 7; omega) _) (HSc.out.mem.setMet i))
                  have hlbd := Lib.hid (hlbc.out.setOther (a := ⟨z, i, none⟩) (by show lb ≠ z; omega) (.bool true))
                  clear HSc hlbc cl0 cme fme HSb
                  generalize (wb.setCell ⟨gb3, q.length * 3 + 2, none⟩ (.int .i64 ((j : Int) + 1))).setCell ⟨z, i, none⟩ (.bool true) = wd at *
                  have hlbs : lb < wd.heap.size := hlbd.out.lt
                  by_cases h0 : s'.fnd t = 0
                  · have HR2 := Lib.hid (HR.out.down Hst.out Hi.out hm (by rw [ht]; exact h0))
                    rw [ht] at HR2
                    refine (HC.out.meet _ evs i L wd HR2.out HSd.out.rc).mono ?_
                    rintro e9 w10 ⟨⟨r10, rfl⟩, L1, hr1, ho1⟩
                    have hlbL : lb ∉ L := fun c => by have := hLq.out lb c; omega
                    have HSe := Lib.hid (HSd.out.call hr1 ho1)
                    have hlbe2 := Lib.hid (hlbd.out.of_block (ho1.blk lb hlbs hlbL))
                    have hw10 : z + 7 ≤ w10.heap.size := HSe.out.mem.sz
                    have cfx : w10.cell? ⟨z + 2, 0, none⟩ = some (.slice (some ⟨z + 1, 0, none⟩) n n) := HSe.out.mem.fx.cell (by omega)
                    have cft : w10.cell? ⟨z + 1, t, none⟩ = some (.int .i64 (s'.fnd t : Nat)) := HSe.out.mem.fnd.cell htn
                    rw [h0] at cft
                    have cl0 : w10.cell? ⟨lb, 0, none⟩ = some (.int .i64 (i : Nat)) := hlbe2.out.cell (i := 0) (by omega)
                    have cl1 : w10.cell? ⟨lb, 1, none⟩ = some (.int .i64 (t : Nat)) := hlbe2.out.cell (i := 1) (by omega)
                    have htn2 : (0 : Int) ≤ t ∧ (t : Int) < n := by omega
                    have hbd := HR.out.bound HGd.out
                    rw [Hst.out] at hbd
                    have HEN := Lib.hid (enter_any w10 w.heap.size z w.heap.size n E.length _ ⟨s'.cnt, s'.fnd, s'.low, upd s'.met i true, ⟨v, e, j + 1⟩ :: q⟩ sv t (i : Int) HSe.out.mem htn (by dsimp only; omega) (by have := hbd.2; simp only [List.length_cons] at this ⊢; omega))
                    clear HSd hlbd hr1 ho1
                    go_wp2_with fail
                    refine HEN.out.mono ?_
                    clear HEN
                    rintro e11 w11 ⟨⟨r11, rfl⟩, sv11, hA11, hC11⟩
                    have HSf := Lib.hid (HSe.out.mine HC.out hC11 hA11)
                    clear HSe hA11 hC11
                    go_wp2_with fail
                    have hu := unf_upd s'.fnd h0 (c := s'.cnt + 1) (by omega) n htn
                    have hsl : s.stk.length = q.length + 1 := by rw [hst]; rfl
                    go_roundg (2 * unf (upd s'.fnd t (s'.cnt + 1)) n + (q.length + 1 + 1))
                    case rel => exact ⟨⟨s'.cnt + 1, upd s'.fnd t (s'.cnt + 1), upd s'.low t (s'.cnt + 1), upd s'.met i true, ⟨t, i, 0⟩ :: ⟨v, e, j + 1⟩ :: q⟩, _, L1, sv11, rfl, HR2, Lib.hid (fun x hx => by
                        dsimp only
                        by_cases c : x = t
                        · rw [c, upd_at]; omega
                        · rw [upd_ne _ _ c]; exact HF.out x hx), HSf⟩
                    case measure => omega
                  · have HR2 := Lib.hid (HR.out.back Hst.out Hi.out hm (by rw [ht]; exact h0))
                    rw [ht] at HR2
                    refine (HC.out.meet _ evs i L wd HR2.out HSd.out.rc).mono ?_
                    rintro e9 w10 ⟨⟨r10, rfl⟩, L1, hr1, ho1⟩
                    have hlbL : lb ∉ L := fun c => by have := hLq.out lb c; omega
                    have HSe := Lib.hid (HSd.out.call hr1 ho1)
                    have hlbe2 := Lib.hid (hlbd.out.of_block (ho1.blk lb hlbs hlbL))
                    have cfx : w10.cell? ⟨z + 2, 0, none⟩ = some (.slice (some ⟨z + 1, 0, none⟩) n n) := HSe.out.mem.fx.cell (by omega)
                    have cft : w10.cell? ⟨z + 1, t, none⟩ = some (.int .i64 (s'.fnd t : Nat)) := HSe.out.mem.fnd.cell htn
                    have cl0 : w10.cell? ⟨lb, 0, none⟩ = some (.int .i64 (i : Nat)) := hlbe2.out.cell (i := 0) (by omega)
                    have cl1 : w10.cell? ⟨lb, 1, none⟩ = some (.int .i64 (t : Nat)) := hlbe2.out.cell (i := 1) (by omega)
                    have clo : w10.drew.cell? ⟨z + 3, v, none⟩ = some (.int .i64 (s'.low v : Nat)) := HSe.out.mem.low.cell hpn
                    have flo : w10.drew.frozen? ⟨z + 3, v, none⟩ = false := HSe.out.mem.low.frozen v
                    have HS : w10.drew.cell? ⟨z + 4, 0, none⟩ = some (.slice (some ⟨z + 3, 0, none⟩) n n) ∧ w10.drew.cell? ⟨z + 2, 0, none⟩ = some (.slice (some ⟨z + 1, 0, none⟩) n n) ∧ w10.drew.cell? ⟨lb, 1, none⟩ = some (.int .i64 (t : Nat)) ∧ w10.drew.cell? ⟨z + 1, t, none⟩ = some (.int .i64 (s'.fnd t : Nat)) :=
                      ⟨HSe.out.mem.lx.cell (by omega), cfx, cl1, cft⟩
                    have htn2 : (0 : Int) ≤ t ∧ (t : Int) < n := by omega
                    have hd0 : ((s'.fnd t : Nat) : Int) ≠ 0 := by omega
                    have hd0' : (((s'.fnd t : Nat) : Int) == 0) = false := beq_eq_false_iff_ne.2 hd0
                    have hd1 : decide (((s'.fnd t : Nat) : Int) = 0) = false := decide_eq_false hd0
                    clear HSd hlbd hr1 ho1
                    go_wp2_with fail
                    refine region_plain (fun w' => w'.cell? ⟨z + 4, 0, none⟩ = some (.slice (some ⟨z + 3, 0, none⟩) n n) ∧ w'.cell? ⟨z + 2, 0, none⟩ = some (.slice (some ⟨z + 1, 0, none⟩) n n) ∧ w'.cell? ⟨lb, 1, none⟩ = some (.int .i64 (t : Nat)) ∧ w'.cell? ⟨z + 1, t, none⟩ = some (.int .i64 (s'.fnd t : Nat))) (by kernel_rfl) ?_
                    refine take_at (i := 0) (d := 113) (v := ?_) rfl rfl (by kernel_rfl) (by kernel_rfl) (by kernel_rfl) (fun _ _ _ _ => NormalOnly.any) rfl ?hy11 HS ?rest11
                    case hy11 => intro w' hSw; (try dsimp only at hSw); go_simp; try (with_reducible rfl)
                    try simp only [List.setIfInBounds_toArray, List.set_cons_zero, List.set_cons_succ]
                    refine take_at (i := 1) (d := 114) (v := ?_) rfl rfl (by kernel_rfl) (by kernel_rfl) (by kernel_rfl) (fun _ _ _ _ => NormalOnly.any) rfl ?hy12 HS ?rest12
                    case hy12 => intro w' hSw; (try dsimp only at hSw); go_simp; try (with_reducible rfl)
                    try simp only [List.setIfInBounds_toArray, List.set_cons_zero, List.set_cons_succ]
                    refine take_at (i := 2) (d := 115) (v := ?_) rfl rfl (by kernel_rfl) (by kernel_rfl) (by kernel_rfl) (fun _ _ _ _ => NormalOnly.any) rfl ?hy13 HS ?rest13
                    case hy13 => intro w' hSw; (try dsimp only at hSw); go_simp; try (with_reducible rfl)
                    try simp only [List.setIfInBounds_toArray, List.set_cons_zero, List.set_cons_succ]
                    refine take_at (i := 3) (d := 116) (v := ?_) rfl rfl (by kernel_rfl) (by kernel_rfl) (by kernel_rfl) (fun _ _ _ _ => NormalOnly.any) rfl ?hy14 HS ?rest14
                    case hy14 => intro w' hSw; (try dsimp only at hSw); go_simp; try (with_reducible rfl)
                    try simp only [List.setIfInBounds_toArray, List.set_cons_zero, List.set_cons_succ]
                    refine take_at (i := 4) (d := 117) (v := ?_) rfl rfl (by kernel_rfl) (by kernel_rfl) (by kernel_rfl) (fun _ _ _ _ => NormalOnly.any) rfl ?hy15 HS ?rest15
                    case hy15 => intro w' hSw; (try dsimp only at hSw); go_simp; try (with_reducible rfl)
                    try simp only [List.setIfInBounds_toArray, List.set_cons_zero, List.set_cons_succ]
                    refine take_at (i := 6) (d := 119) (v := ?_) rfl rfl (by kernel_rfl) (by kernel_rfl) (by kernel_rfl) (fun _ _ _ _ => NormalOnly.any) rfl ?hy16 HS ?rest16
                    case hy16 => intro w' hSw; (try dsimp only at hSw); go_simp; try (with_reducible rfl)
                    try simp only [List.setIfInBounds_toArray, List.set_cons_zero, List.set_cons_succ]
                    refine take_at (i := 7) (d := 120) (v := ?_) rfl rfl (by kernel_rfl) (by kernel_rfl) (by kernel_rfl) (fun _ _ _ _ => NormalOnly.any) rfl ?hy17 HS ?rest17
                    case hy17 => intro w' hSw; (try dsimp only at hSw); go_simp; try (with_reducible rfl)
                    try simp only [List.setIfInBounds_toArray, List.set_cons_zero, List.set_cons_succ]
                    refine take_at (i := 8) (d := 121) (v := ?_) rfl rfl (by kernel_rfl) (by kernel_rfl) (by kernel_rfl) (fun _ _ _ _ => NormalOnly.any) rfl ?hy18 HS ?rest18
                    case hy18 => intro w' hSw; (try dsimp only at hSw); go_simp; try (with_reducible rfl)
                    try simp only [List.setIfInBounds_toArray, List.set_cons_zero, List.set_cons_succ]
                    refine take_at (i := 9) (d := 122) (v := ?_) rfl rfl (by kernel_rfl) (by kernel_rfl) (by kernel_rfl) (fun _ _ _ _ => NormalOnly.any) rfl ?hy19 HS ?rest19
                    case hy19 => intro w' hSw; (try dsimp only at hSw); go_simp; try (with_reducible rfl)
                    try simp only [List.setIfInBounds_toArray, List.set_cons_zero, List.set_cons_succ]
                    refine take_at (i := 10) (d := 123) (v := ?_) rfl rfl (by kernel_rfl) (by kernel_rfl) (by kernel_rfl) (fun _ _ _ _ => NormalOnly.any) rfl ?hy20 HS ?rest20
                    case hy20 => intro w' hSw; (try dsimp only at hSw); go_simp; try (with_reducible rfl)
                    try simp only [List.setIfInBounds_toArray, List.set_cons_zero, List.set_cons_succ]
                    refine wpAnyH_ready (rs := [5]) (by kernel_rfl) (by simp) ?_
                    refine AllReadyH.cons rfl (fun K hK => ?_) AllReadyH.nil
                    go_simp
                    refine hK.out _ _ HS (fun _ => ?_)
                    clear hK
                    refine take_at (i := 11) (d := 124) (v := ?_) rfl rfl (by kernel_rfl) (by kernel_rfl) (by kernel_rfl) (fun _ _ _ _ => NormalOnly.any) rfl ?hy21 HS ?rest21
                    case hy21 => intro w' hSw; (try dsimp only at hSw); go_simp; try (with_reducible rfl)
                    try simp only [List.setIfInBounds_toArray, List.set_cons_zero, List.set_cons_succ]
                    refine take_at (i := 12) (d := 125) (v := ?_) rfl rfl (by kernel_rfl) (by kernel_rfl) (by kernel_rfl) (fun _ _ _ _ => NormalOnly.any) rfl ?hy22 HS ?rest22
                    case hy22 => intro w' hSw; (try dsimp only at hSw); go_simp; try (with_reducible rfl)
                    try simp only [List.setIfInBounds_toArray, List.set_cons_zero, List.set_cons_succ]
                    refine wpAnyH_ready (rs := [13]) (by kernel_rfl) (by simp) ?_
                    refine AllReadyH.cons rfl (fun K hK => ?_) AllReadyH.nil
                    go_simp
                    have hmin : (if s'.fnd t < s'.low v then ((s'.fnd t : Nat) : Int) else ((s'.low v : Nat) : Int)) = ((min (s'.low v) (s'.fnd t) : Nat) : Int) := by split <;> omega
                    rw [hmin]
                    have HSf : Hid (SR w.heap.size z w.heap.size n E.length (fun i => around (some (n, E)) (i : Int)) Rc L0 w (w10.setCell ⟨z + 3, v, none⟩ (.int .i64 (min (s'.low v) (s'.fnd t) : Nat))).drew ⟨s'.cnt, s'.fnd, upd s'.low v (min (s'.low v) (s'.fnd t)), upd s'.met i true, ⟨v, e, j + 1⟩ :: q⟩ (evs ++ [.meet i]) L1 sv) :=
                      Lib.hid ((HSe.out.mine HC.out ((Chg.refl z sv _).set (p := ⟨z + 3, v, none⟩) (by show z ≤ z + 3; omega) (by show z + 3 < z + 7; omega) _) (HSe.out.mem.setLow v (min (s'.low v) (s'.fnd t)))).drewN HC.out 1)
                    have HS9 : (w10.setCell ⟨z + 3, v, none⟩ (.int .i64 (min (s'.low v) (s'.fnd t) : Nat))).drew.cell? ⟨z + 4, 0, none⟩ = some (.slice (some ⟨z + 3, 0, none⟩) n n) ∧ (w10.setCell ⟨z + 3, v, none⟩ (.int .i64 (min (s'.low v) (s'.fnd t) : Nat))).drew.cell? ⟨z + 2, 0, none⟩ = some (.slice (some ⟨z + 1, 0, none⟩) n n) ∧ (w10.setCell ⟨z + 3, v, none⟩ (.int .i64 (min (s'.low v) (s'.fnd t) : Nat))).drew.cell? ⟨lb, 1, none⟩ = some (.int .i64 (t : Nat)) ∧ (w10.setCell ⟨z + 3, v, none⟩ (.int .i64 (min (s'.low v) (s'.fnd t) : Nat))).drew.cell? ⟨z + 1, t, none⟩ = some (.int .i64 (s'.fnd t : Nat)) :=
                      ⟨cell_far (w := w10) HS.1 (by show z + 4 ≠ z + 3; omega) _, cell_far (w := w10) HS.2.1 (by show z + 2 ≠ z + 3; omega) _, cell_far (w := w10) HS.2.2.1 (by show lb ≠ z + 3; omega) _, cell_far (w := w10) HS.2.2.2 (by show z + 1 ≠ z + 3; omega) _⟩
                    generalize (w10.setCell ⟨z + 3, v, none⟩ (.int .i64 (min (s'.low v) (s'.fnd t) : Nat))).drew = w12 at HSf HS9 ⊢
                    refine hK.out _ _ HS9 (fun _ => ?_)
                    clear hK HS HS9 clo flo HSe hlbe2 cfx cft cl0 cl1 hmin
                    refine wpAnyH_done (by kernel_rfl) ⟨rfl, ?_⟩ _
                    go_wp2_with fail
                    go_roundg (dg - (j + 1))
                    case rel => exact ⟨⟨s'.cnt, s'.fnd, upd s'.low v (min (s'.low v) (s'.fnd t)), upd s'.met i true, ⟨v, e, j + 1⟩ :: q⟩, j + 1, _, L1, rfl, rfl, by omega, hunf, HR2, HF, HSf⟩
                    case measure => omega
              · obtain rfl : j = (adj E v).length := by omega
                have hd1 : decide ((((adj E v).length : Nat) : Int) < ((adj E v).length : Nat)) = false := decide_eq_false (by omega)
                have hdj : ¬ ((((adj E v).length : Nat) : Int) < ((adj E v).length : Nat)) := by omega
                have Hst := Lib.hid hst'
                clear hrow hst' hj cv ce fn
                go_wp2_with fail
                go_quiet (fail)
                generalize hwq : (World.drewN wr _ : World) = wq
                have HSq : Hid (SR w.heap.size z w.heap.size n E.length (fun i => around (some (n, E)) (i : Int)) Rc L0 w wq s' evs L sv) := Lib.hid (by rw [← hwq]; exact HS.out.drewN HC.out _)
                clear HS hwq cn c0
                have ckx : wq.cell? ⟨z + 6, 0, none⟩ = some sv := HSq.out.mem.kx.cell (by omega)
                have fkx := HSq.out.mem.kx.frozen 0
                rw [hsv2] at ckx
                have hcut := run_cut0 etPc (g := gb2) (cap := cap2) (k := q.length + 1) (hi := q.length) (by omega)
                have HSp : Hid (SR w.heap.size z w.heap.size n E.length (fun i => around (some (n, E)) (i : Int)) Rc L0 w (wq.setCell ⟨z + 6, 0, none⟩ (.slice (some ⟨gb2, 0, none⟩) q.length cap2)) ⟨s'.cnt, s'.fnd, s'.low, s'.met, q⟩ evs L (.slice (some ⟨gb2, 0, none⟩) q.length cap2)) :=
                  Lib.hid (HSq.out.mine HC.out (Chg.pop hsv2 _) (HSq.out.mem.pop Hst.out hsv2))
                have ckp : (wq.setCell ⟨z + 6, 0, none⟩ (.slice (some ⟨gb2, 0, none⟩) q.length cap2)).cell? ⟨z + 6, 0, none⟩ = some (.slice (some ⟨gb2, 0, none⟩) q.length cap2) := HSp.out.mem.kx.cell (by omega)
                clear hsv2 HSq
                have hsl : s.stk.length = q.length + 1 := by rw [hst]; rfl
                cases q with
                | nil =>
                  have HR2 := Lib.hid (HR.out.out Hst.out rfl)
                  simp only [List.length_nil] at hcut ckp HSp ckx hcap hql hqi hpos hsl ⊢
                  go_wp2_with fail
                  go_roundg (2 * unf s'.fnd n + 0)
                  case rel => exact ⟨⟨s'.cnt, s'.fnd, s'.low, s'.met, []⟩, evs, L, _, rfl, HR2, HF, HSp⟩
                  case measure => omega
                | cons p1 r =>
                  obtain ⟨u, e1, j1⟩ := p1
                  have hlv := (HR.out.inv HGd.out).lev
                  rw [Hst.out] at hlv
                  obtain ⟨h0u, huv, he0, -, -⟩ := hlv.1.par _ _ rfl
                  have hun : u < n := (HR.out.inv HGd.out).lt _ h0u
                  have hne : u ≠ v := fun c => by dsimp only at huv; rw [c] at huv; omega
                  clear hlv h0u huv
                  obtain ⟨en, rfl⟩ := Int.eq_ofNat_of_zero_le he0
                  have HR2 := HR.out.up Hst.out rfl
                  dsimp only at HR2
                  rw [Int.toNat_natCast] at HR2
                  have HR2 := Lib.hid HR2
                  obtain ⟨gb4, cap4, hsv4, -, -, cu, -, -, -, -⟩ := HSp.out.mem.top rfl
                  dsimp only at cu
                  simp only [List.length_cons] at hcut ckp HSp ckx hcap hql hqi hpos hsl hsv4 cu ⊢
                  obtain ⟨rfl, rfl⟩ : gb2 = gb4 ∧ cap2 = cap4 := by simp at hsv4; exact hsv4
                  have hri : (0 : Int) ≤ r.length ∧ (r.length : Int) < (r.length : Int) + 1 := by omega
                  have hrp : (0 : Int) < (r.length + 1 : Nat) := by omega
                  clear hsv4 he0
                  go_wp2_with fail
                  generalize wq.setCell ⟨z + 6, 0, none⟩ (.slice (some ⟨gb2, 0, none⟩) (r.length + 1 : Nat) cap2) = wp at HSp ckp cu ⊢
                  clear ckx fkx
                  have clu : wp.drew.cell? ⟨z + 3, u, none⟩ = some (.int .i64 (s'.low u : Nat)) := HSp.out.mem.low.cell hun
                  have flu : wp.drew.frozen? ⟨z + 3, u, none⟩ = false := HSp.out.mem.low.frozen u
                  have HS : wp.drew.cell? ⟨z + 4, 0, none⟩ = some (.slice (some ⟨z + 3, 0, none⟩) n n) ∧ wp.drew.cell? ⟨z + 3, v, none⟩ = some (.int .i64 (s'.low v : Nat)) := ⟨HSp.out.mem.lx.cell (by omega), HSp.out.mem.low.cell hpn⟩
                  have hun2 : (0 : Int) ≤ u ∧ (u : Int) < n := by omega
                  refine region_plain (fun w' => w'.cell? ⟨z + 4, 0, none⟩ = some (.slice (some ⟨z + 3, 0, none⟩) n n) ∧ w'.cell? ⟨z + 3, v, none⟩ = some (.int .i64 (s'.low v : Nat))) (by kernel_rfl) ?_
                  refine take_at (i := 0) (d := 141) (v := ?_) rfl rfl (by kernel_rfl) (by kernel_rfl) (by kernel_rfl) (fun _ _ _ _ => NormalOnly.any) rfl ?hy23 HS ?rest23
                  case hy23 => intro w' hSw; (try dsimp only at hSw); go_simp; try (with_reducible rfl)
                  try simp only [List.setIfInBounds_toArray, List.set_cons_zero, List.set_cons_succ]
                  refine take_at (i := 1) (d := 142) (v := ?_) rfl rfl (by kernel_rfl) (by kernel_rfl) (by kernel_rfl) (fun _ _ _ _ => NormalOnly.any) rfl ?hy24 HS ?rest24
                  case hy24 => intro w' hSw; (try dsimp only at hSw); go_simp; try (with_reducible rfl)
                  try simp only [List.setIfInBounds_toArray, List.set_cons_zero, List.set_cons_succ]
                  refine take_at (i := 2) (d := 143) (v := ?_) rfl rfl (by kernel_rfl) (by kernel_rfl) (by kernel_rfl) (fun _ _ _ _ => NormalOnly.any) rfl ?hy25 HS ?rest25
                  case hy25 => intro w' hSw; (try dsimp only at hSw); go_simp; try (with_reducible rfl)
                  try simp only [List.setIfInBounds_toArray, List.set_cons_zero, List.set_cons_succ]
                  refine take_at (i := 3) (d := 144) (v := ?_) rfl rfl (by kernel_rfl) (by kernel_rfl) (by kernel_rfl) (fun _ _ _ _ => NormalOnly.any) rfl ?hy26 HS ?rest26
                  case hy26 => intro w' hSw; (try dsimp only at hSw); go_simp; try (with_reducible rfl)
                  try simp only [List.setIfInBounds_toArray, List.set_cons_zero, List.set_cons_succ]
                  refine take_at (i := 4) (d := 145) (v := ?_) rfl rfl (by kernel_rfl) (by kernel_rfl) (by kernel_rfl) (fun _ _ _ _ => NormalOnly.any) rfl ?hy27 HS ?rest27
                  case hy27 => intro w' hSw; (try dsimp only at hSw); go_simp; try (with_reducible rfl)
                  try simp only [List.setIfInBounds_toArray, List.set_cons_zero, List.set_cons_succ]
                  refine take_at (i := 6) (d := 147) (v := ?_) rfl rfl (by kernel_rfl) (by kernel_rfl) (by kernel_rfl) (fun _ _ _ _ => NormalOnly.any) rfl ?hy28 HS ?rest28
                  case hy28 => intro w' hSw; (try dsimp only at hSw); go_simp; try (with_reducible rfl)
                  try simp only [List.setIfInBounds_toArray, List.set_cons_zero, List.set_cons_succ]
                  refine take_at (i := 7) (d := 148) (v := ?_) rfl rfl (by kernel_rfl) (by kernel_rfl) (by kernel_rfl) (fun _ _ _ _ => NormalOnly.any) rfl ?hy29 HS ?rest29
                  case hy29 => intro w' hSw; (try dsimp only at hSw); go_simp; try (with_reducible rfl)
                  try simp only [List.setIfInBounds_toArray, List.set_cons_zero, List.set_cons_succ]
                  refine take_at (i := 8) (d := 149) (v := ?_) rfl rfl (by kernel_rfl) (by kernel_rfl) (by kernel_rfl) (fun _ _ _ _ => NormalOnly.any) rfl ?hy30 HS ?rest30
                  case hy30 => intro w' hSw; (try dsimp only at hSw); go_simp; try (with_reducible rfl)
                  try simp only [List.setIfInBounds_toArray, List.set_cons_zero, List.set_cons_succ]
                  refine take_at (i := 9) (d := 150) (v := ?_) rfl rfl (by kernel_rfl) (by kernel_rfl) (by kernel_rfl) (fun _ _ _ _ => NormalOnly.any) rfl ?hy31 HS ?rest31
                  case hy31 => intro w' hSw; (try dsimp only at hSw); go_simp; try (with_reducible rfl)
                  try simp only [List.setIfInBounds_toArray, List.set_cons_zero, List.set_cons_succ]
                  refine wpAnyH_ready (rs := [5]) (by kernel_rfl) (by simp) ?_
                  refine AllReadyH.cons rfl (fun K hK => ?_) AllReadyH.nil
                  go_simp
                  refine hK.out _ _ HS (fun _ => ?_)
                  clear hK
                  refine take_at (i := 10) (d := 151) (v := ?_) rfl rfl (by kernel_rfl) (by kernel_rfl) (by kernel_rfl) (fun _ _ _ _ => NormalOnly.any) rfl ?hy32 HS ?rest32
                  case hy32 => intro w' hSw; (try dsimp only at hSw); go_simp; try (with_reducible rfl)
                  try simp only [List.setIfInBounds_toArray, List.set_cons_zero, List.set_cons_succ]
                  refine take_at (i := 11) (d := 152) (v := ?_) rfl rfl (by kernel_rfl) (by kernel_rfl) (by kernel_rfl) (fun _ _ _ _ => NormalOnly.any) rfl ?hy33 HS ?rest33
                  case hy33 => intro w' hSw; (try dsimp only at hSw); go_simp; try (with_reducible rfl)
                  try simp only [List.setIfInBounds_toArray, List.set_cons_zero, List.set_cons_succ]
                  refine wpAnyH_ready (rs := [12]) (by kernel_rfl) (by simp) ?_
                  refine AllReadyH.cons rfl (fun K hK => ?_) AllReadyH.nil
                  go_simp
                  have hmin : (if s'.low v < s'.low u then ((s'.low v : Nat) : Int) else ((s'.low u : Nat) : Int)) = ((min (s'.low u) (s'.low v) : Nat) : Int) := by split <;> omega
                  rw [hmin]
                  have HSf : Hid (SR w.heap.size z w.heap.size n E.length (fun i => around (some (n, E)) (i : Int)) Rc L0 w (wp.setCell ⟨z + 3, u, none⟩ (.int .i64 (min (s'.low u) (s'.low v) : Nat))).drew ⟨s'.cnt, s'.fnd, upd s'.low u (min (s'.low u) (s'.low v)), s'.met, ⟨u, e1, j1⟩ :: r⟩ evs L (.slice (some ⟨gb2, 0, none⟩) (r.length + 1 : Nat) cap2)) :=
                    Lib.hid ((HSp.out.mine HC.out ((Chg.refl z _ _).set (p := ⟨z + 3, u, none⟩) (by show z ≤ z + 3; omega) (by show z + 3 < z + 7; omega) _) (HSp.out.mem.setLow u (min (s'.low u) (s'.low v)))).drewN HC.out 1)
                  have HS9 : (wp.setCell ⟨z + 3, u, none⟩ (.int .i64 (min (s'.low u) (s'.low v) : Nat))).drew.cell? ⟨z + 4, 0, none⟩ = some (.slice (some ⟨z + 3, 0, none⟩) n n) ∧ (wp.setCell ⟨z + 3, u, none⟩ (.int .i64 (min (s'.low u) (s'.low v) : Nat))).drew.cell? ⟨z + 3, v, none⟩ = some (.int .i64 (s'.low v : Nat)) :=
                    ⟨cell_far (w := wp) HS.1 (by show z + 4 ≠ z + 3; omega) _, by
                      have h := (HSp.out.mem.low.set u (.int .i64 (min (s'.low u) (s'.low v) : Nat))).cell hpn
                      rw [if_neg (fun c => hne c.symm)] at h
                      exact h⟩
                  generalize (wp.setCell ⟨z + 3, u, none⟩ (.int .i64 (min (s'.low u) (s'.low v) : Nat))).drew = w13 at HSf HS9 ⊢
                  refine hK.out _ _ HS9 (fun _ => ?_)
                  clear hK HS HS9 clu flu HSp ckp cu hmin
                  refine wpAnyH_done (by kernel_rfl) ⟨rfl, ?_⟩ _
                  go_wp2_with fail
                  have hlv13 := HSf.out.mem.low.cell hpn
                  dsimp only at hlv13
                  rw [upd_ne _ _ (fun c => hne c.symm)] at hlv13
                  have HS : w13.drew.cell? ⟨z + 4, 0, none⟩ = some (.slice (some ⟨z + 3, 0, none⟩) n n) ∧ w13.drew.cell? ⟨z + 2, 0, none⟩ = some (.slice (some ⟨z + 1, 0, none⟩) n n) ∧ w13.drew.cell? ⟨z + 3, v, none⟩ = some (.int .i64 (s'.low v : Nat)) ∧ w13.drew.cell? ⟨z + 1, u, none⟩ = some (.int .i64 (s'.fnd u : Nat)) :=
                    ⟨HSf.out.mem.lx.cell (by omega), HSf.out.mem.fx.cell (by omega), hlv13, HSf.out.mem.fnd.cell hun⟩
                  have HSg := Lib.hid (HSf.out.drewN HC.out 1)
                  have el := HC.out.el
                  clear HSf hlv13
                  refine region_plain (fun w' => w'.cell? ⟨z + 4, 0, none⟩ = some (.slice (some ⟨z + 3, 0, none⟩) n n) ∧ w'.cell? ⟨z + 2, 0, none⟩ = some (.slice (some ⟨z + 1, 0, none⟩) n n) ∧ w'.cell? ⟨z + 3, v, none⟩ = some (.int .i64 (s'.low v : Nat)) ∧ w'.cell? ⟨z + 1, u, none⟩ = some (.int .i64 (s'.fnd u : Nat))) (by kernel_rfl) ?_
                  refine take_at (i := 0) (d := 153) (v := ?_) rfl rfl (by kernel_rfl) (by kernel_rfl) (by kernel_rfl) (fun _ _ _ _ => NormalOnly.any) rfl ?hy34 HS ?rest34
                  case hy34 => intro w' hSw; (try dsimp only at hSw); go_simp; try (with_reducible rfl)
                  try simp only [List.setIfInBounds_toArray, List.set_cons_zero, List.set_cons_succ]
                  refine take_at (i := 1) (d := 154) (v := ?_) rfl rfl (by kernel_rfl) (by kernel_rfl) (by kernel_rfl) (fun _ _ _ _ => NormalOnly.any) rfl ?hy35 HS ?rest35
                  case hy35 => intro w' hSw; (try dsimp only at hSw); go_simp; try (with_reducible rfl)
                  try simp only [List.setIfInBounds_toArray, List.set_cons_zero, List.set_cons_succ]
                  refine take_at (i := 2) (d := 155) (v := ?_) rfl rfl (by kernel_rfl) (by kernel_rfl) (by kernel_rfl) (fun _ _ _ _ => NormalOnly.any) rfl ?hy36 HS ?rest36
                  case hy36 => intro w' hSw; (try dsimp only at hSw); go_simp; try (with_reducible rfl)
                  try simp only [List.setIfInBounds_toArray, List.set_cons_zero, List.set_cons_succ]
                  refine take_at (i := 3) (d := 156) (v := ?_) rfl rfl (by kernel_rfl) (by kernel_rfl) (by kernel_rfl) (fun _ _ _ _ => NormalOnly.any) rfl ?hy37 HS ?rest37
                  case hy37 => intro w' hSw; (try dsimp only at hSw); go_simp; try (with_reducible rfl)
                  try simp only [List.setIfInBounds_toArray, List.set_cons_zero, List.set_cons_succ]
                  refine take_at (i := 4) (d := 157) (v := ?_) rfl rfl (by kernel_rfl) (by kernel_rfl) (by kernel_rfl) (fun _ _ _ _ => NormalOnly.any) rfl ?hy38 HS ?rest38
                  case hy38 => intro w' hSw; (try dsimp only at hSw); go_simp; try (with_reducible rfl)
                  try simp only [List.setIfInBounds_toArray, List.set_cons_zero, List.set_cons_succ]
                  refine take_at (i := 5) (d := 158) (v := ?_) rfl rfl (by kernel_rfl) (by kernel_rfl) (by kernel_rfl) (fun _ _ _ _ => NormalOnly.any) rfl ?hy39 HS ?rest39
                  case hy39 => intro w' hSw; (try dsimp only at hSw); go_simp; try (with_reducible rfl)
                  try simp only [List.setIfInBounds_toArray, List.set_cons_zero, List.set_cons_succ]
                  refine take_at (i := 6) (d := 159) (v := ?_) rfl rfl (by kernel_rfl) (by kernel_rfl) (by kernel_rfl) (fun _ _ _ _ => NormalOnly.any) rfl ?hy40 HS ?rest40
                  case hy40 => intro w' hSw; (try dsimp only at hSw); go_simp; try (with_reducible rfl)
                  try simp only [List.setIfInBounds_toArray, List.set_cons_zero, List.set_cons_succ]
                  refine take_at (i := 7) (d := 160) (v := ?_) rfl rfl (by kernel_rfl) (by kernel_rfl) (by kernel_rfl) (fun _ _ _ _ => NormalOnly.any) rfl ?hy41 HS ?rest41
                  case hy41 => intro w' hSw; (try dsimp only at hSw); go_simp; try (with_reducible rfl)
                  try simp only [List.setIfInBounds_toArray, List.set_cons_zero, List.set_cons_succ]
                  refine take_at (i := 8) (d := 161) (v := ?_) rfl rfl (by kernel_rfl) (by kernel_rfl) (by kernel_rfl) (fun _ _ _ _ => NormalOnly.any) rfl ?hy42 HS ?rest42
                  case hy42 => intro w' hSw; (try dsimp only at hSw); go_simp; try (with_reducible rfl)
                  try simp only [List.setIfInBounds_toArray, List.set_cons_zero, List.set_cons_succ]
                  refine take_at (i := 9) (d := 162) (v := ?_) rfl rfl (by kernel_rfl) (by kernel_rfl) (by kernel_rfl) (fun _ _ _ _ => NormalOnly.any) rfl ?hy43 HS ?rest43
                  case hy43 => intro w' hSw; (try dsimp only at hSw); go_simp; try (with_reducible rfl)
                  try simp only [List.setIfInBounds_toArray, List.set_cons_zero, List.set_cons_succ]
                  refine take_at (i := 10) (d := 163) (v := ?_) rfl rfl (by kernel_rfl) (by kernel_rfl) (by kernel_rfl) (fun _ _ _ _ => NormalOnly.any) rfl ?hy44 HS ?rest44
                  case hy44 => intro w' hSw; (try dsimp only at hSw); go_simp; try (with_reducible rfl)
                  try simp only [List.setIfInBounds_toArray, List.set_cons_zero, List.set_cons_succ]
                  refine take_at (i := 11) (d := 164) (v := ?_) rfl rfl (by kernel_rfl) (by kernel_rfl) (by kernel_rfl) (fun _ _ _ _ => NormalOnly.any) rfl ?hy45 HS ?rest45
                  case hy45 => intro w' hSw; (try dsimp only at hSw); go_simp; try (with_reducible rfl)
                  try simp only [List.setIfInBounds_toArray, List.set_cons_zero, List.set_cons_succ]
                  refine take_at (i := 12) (d := 165) (v := ?_) rfl rfl (by kernel_rfl) (by kernel_rfl) (by kernel_rfl) (fun _ _ _ _ => NormalOnly.any) rfl ?hy46 HS ?rest46
                  case hy46 => intro w' hSw; (try dsimp only at hSw); go_simp; try (with_reducible rfl)
                  try simp only [List.setIfInBounds_toArray, List.set_cons_zero, List.set_cons_succ]
                  refine take_at (i := 13) (d := 166) (v := ?_) rfl rfl (by kernel_rfl) (by kernel_rfl) (by kernel_rfl) (fun _ _ _ _ => NormalOnly.any) rfl ?hy47 HS ?rest47
                  case hy47 => intro w' hSw; (try dsimp only at hSw); go_simp; try (with_reducible rfl)
                  try simp only [List.setIfInBounds_toArray, List.set_cons_zero, List.set_cons_succ]
                  refine take_at (i := 14) (d := 167) (v := ?_) rfl rfl (by kernel_rfl) (by kernel_rfl) (by kernel_rfl) (fun _ _ _ _ => NormalOnly.any) rfl ?hy48 HS ?rest48
                  case hy48 => intro w' hSw; (try dsimp only at hSw); go_simp; try (with_reducible rfl)
                  try simp only [List.setIfInBounds_toArray, List.set_cons_zero, List.set_cons_succ]
                  refine take_at (i := 15) (d := 168) (v := ?_) rfl rfl (by kernel_rfl) (by kernel_rfl) (by kernel_rfl) (fun _ _ _ _ => NormalOnly.any) rfl ?hy49 HS ?rest49
                  case hy49 => intro w' hSw; (try dsimp only at hSw); go_simp; try (with_reducible rfl)
                  try simp only [List.setIfInBounds_toArray, List.set_cons_zero, List.set_cons_succ]
                  refine take_at (i := 16) (d := 169) (v := ?_) rfl rfl (by kernel_rfl) (by kernel_rfl) (by kernel_rfl) (fun _ _ _ _ => NormalOnly.any) rfl ?hy50 HS ?rest50
                  case hy50 => intro w' hSw; (try dsimp only at hSw); go_simp; try (with_reducible rfl)
                  try simp only [List.setIfInBounds_toArray, List.set_cons_zero, List.set_cons_succ]
                  refine take_at (i := 17) (d := 170) (v := ?_) rfl rfl (by kernel_rfl) (by kernel_rfl) (by kernel_rfl) (fun _ _ _ _ => NormalOnly.any) rfl ?hy51 HS ?rest51
                  case hy51 => intro w' hSw; (try dsimp only at hSw); go_simp; try (with_reducible rfl)
                  try simp only [List.setIfInBounds_toArray, List.set_cons_zero, List.set_cons_succ]
                  refine take_at (i := 18) (d := 171) (v := ?_) rfl rfl (by kernel_rfl) (by kernel_rfl) (by kernel_rfl) (fun _ _ _ _ => NormalOnly.any) rfl ?hy52 HS ?rest52
                  case hy52 => intro w' hSw; (try dsimp only at hSw); go_simp; try (with_reducible rfl)
                  try simp only [List.setIfInBounds_toArray, List.set_cons_zero, List.set_cons_succ]
                  refine take_at (i := 19) (d := 172) (v := ?_) rfl rfl (by kernel_rfl) (by kernel_rfl) (by kernel_rfl) (fun _ _ _ _ => NormalOnly.any) rfl ?hy53 HS ?rest53
                  case hy53 => intro w' hSw; (try dsimp only at hSw); go_simp; try (with_reducible rfl)
                  try simp only [List.setIfInBounds_toArray, List.set_cons_zero, List.set_cons_succ]
                  refine take_at (i := 20) (d := 173) (v := ?_) rfl rfl (by kernel_rfl) (by kernel_rfl) (by kernel_rfl) (fun _ _ _ _ => NormalOnly.any) rfl ?hy54 HS ?rest54
                  case hy54 => intro w' hSw; (try dsimp only at hSw); go_simp; try (with_reducible rfl)
                  try simp only [List.setIfInBounds_toArray, List.set_cons_zero, List.set_cons_succ]
                  refine take_at (i := 21) (d := 174) (v := ?_) rfl rfl (by kernel_rfl) (by kernel_rfl) (by kernel_rfl) (fun _ _ _ _ => NormalOnly.any) rfl ?hy55 HS ?rest55
                  case hy55 => intro w' hSw; (try dsimp only at hSw); go_simp; try (with_reducible rfl)
                  try simp only [List.setIfInBounds_toArray, List.set_cons_zero, List.set_cons_succ]
                  refine take_at (i := 22) (d := 175) (v := ?_) rfl rfl (by kernel_rfl) (by kernel_rfl) (by kernel_rfl) (fun _ _ _ _ => NormalOnly.any) rfl ?hy56 HS ?rest56
                  case hy56 => intro w' hSw; (try dsimp only at hSw); go_simp; try (with_reducible rfl)
                  try simp only [List.setIfInBounds_toArray, List.set_cons_zero, List.set_cons_succ]
                  refine wpAnyH_ready (rs := [23]) (by kernel_rfl) (by simp) ?_
                  refine AllReadyH.cons rfl (fun K hK => ?_) AllReadyH.nil
                  go_simp
                  refine (HC.out.leave _ evs u v en _ _ L w13.drew HR2.out HSg.out.rc).mono ?_
                  rintro e14 w14 ⟨⟨r14, rfl⟩, L1, hr1, ho1⟩
                  dsimp only
                  have HSh := Lib.hid (HSg.out.call hr1 ho1)
                  have hlv14 := HSh.out.mem.low.cell hpn
                  dsimp only at hlv14
                  rw [upd_ne _ _ (fun c => hne c.symm)] at hlv14
                  refine hK.out _ _ ⟨HSh.out.mem.lx.cell (by omega), HSh.out.mem.fx.cell (by omega), hlv14, HSh.out.mem.fnd.cell hun⟩ (fun _ => ?_)
                  clear hK HS HSg hr1 ho1 hlv14
                  refine wpAnyH_done (by kernel_rfl) ⟨rfl, ?_⟩ _
                  go_wp2_with fail
                  go_roundg (2 * unf s'.fnd n + (r.length + 1))
                  case rel => exact ⟨⟨s'.cnt, s'.fnd, upd s'.low u (min (s'.low u) (s'.low v)), s'.met, ⟨u, e1, j1⟩ :: r⟩, _, L1, _, rfl, HR2, HF, HSh⟩
                  case measure => omega
    · obtain rfl : k = n := by omega
      go_wp2_with fail
      go_end0
      exact ⟨⟨_, rfl⟩, s, evs, L, ⟨HR.out, hst, fun x hx => HF.out x hx⟩, HS.out.rc, HS.out.own⟩
end Go.Proofs.Ytcpikabhcjkkmaa
