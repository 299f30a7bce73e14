/- The walk of build of package graph: a counting sort of the edges by their ends. Conditions: the edges are given as cells, and are accepted. -/
import Derived.Test.YtpbgophogneecaaGreatMe
namespace Go.Proofs.YtpbgophogneecaaGreat
open Go.RowKit

/-- the cells of a graph -/
def grC (gb sb lb n m : Nat) (ev : Value) : Nat → Value
  | 0 => .pointer (some ⟨gb, 0, none⟩)
  | 1 => ev
  | 2 => .slice (some ⟨sb, 0, none⟩) (n + 1) (n + 1)
  | _ => .slice (some ⟨lb, 0, none⟩) (2 * m) (2 * m)
def i64F (f : Nat → Nat) (i : Nat) : Value := .int .i64 (f i : Nat)
def i64I (f : Nat → Int) (i : Nat) : Value := .int .i64 (f i)
/-- the three blocks that build makes -/
structure BSt (w0 : World) (gb sb lb n m : Nat) (ev : Value) (f : Nat → Nat) (h : Nat → Int) (w : World) : Prop where
  bel : Below w0.heap.size w0 w
  g0 : w0.heap.size ≤ gb
  s0 : w0.heap.size ≤ sb
  l0 : w0.heap.size ≤ lb
  gs : gb ≠ sb
  gl : gb ≠ lb
  sl : sb ≠ lb
  gr : Row w gb 4 (grC gb sb lb n m ev)
  st : Row w sb (n + 1) (i64F f)
  ls : Row w lb (2 * m) (i64I h)
section
variable {w0 w w' : World} {gb sb lb n m : Nat} {ev : Value} {f f' : Nat → Nat} {h h' : Nat → Int}
theorem BSt.alloc (S : BSt w0 gb sb lb n m ev f h w) (o : Obj) : BSt w0 gb sb lb n m ev f h (w.alloc o) :=
  ⟨S.bel.alloc S.bel.size o, S.g0, S.s0, S.l0, S.gs, S.gl, S.sl, S.gr.alloc o, S.st.alloc o, S.ls.alloc o⟩
theorem BSt.drew (S : BSt w0 gb sb lb n m ev f h w) : BSt w0 gb sb lb n m ev f h w.drew :=
  ⟨S.bel.drew, S.g0, S.s0, S.l0, S.gs, S.gl, S.sl, S.gr, S.st, S.ls⟩
theorem BSt.start (S : BSt w0 gb sb lb n m ev f h w) (i x : Nat) {y : Int} (hy : y = (x : Nat)) : BSt w0 gb sb lb n m ev (fun j => if j = i then x else f j) h (w.setCell ⟨sb, i, none⟩ (.int .i64 y)) := by
  subst hy
  exact ⟨S.bel.setCell (p := ⟨sb, i, none⟩) S.s0 _, S.g0, S.s0, S.l0, S.gs, S.gl, S.sl, S.gr.setOther S.gs _, (S.st.set i _).congr fun j _ => by unfold i64F; dsimp only; split <;> rfl, S.ls.setOther (fun e => S.sl e.symm) _⟩
theorem BSt.list (S : BSt w0 gb sb lb n m ev f h w) (i : Nat) (x : Int) : BSt w0 gb sb lb n m ev f (fun j => if j = i then x else h j) (w.setCell ⟨lb, i, none⟩ (.int .i64 x)) :=
  ⟨S.bel.setCell (p := ⟨lb, i, none⟩) S.l0 _, S.g0, S.s0, S.l0, S.gs, S.gl, S.sl, S.gr.setOther S.gl _, S.st.setOther S.sl _, (S.ls.set i _).congr fun j _ => by unfold i64I; dsimp only; split <;> rfl⟩
theorem BSt.congr (S : BSt w0 gb sb lb n m ev f h w) (e : ∀ i, i ≤ n → f i = f' i) : BSt w0 gb sb lb n m ev f' h w :=
  ⟨S.bel, S.g0, S.s0, S.l0, S.gs, S.gl, S.sl, S.gr, S.st.congr fun i hi => by unfold i64F; rw [e i (by omega)], S.ls⟩
theorem copy_row {t e : TypeId} {m : Nat} {f : Nat → Nat → Value} {w w' : World} {en : Ending} (E : ET t e 1 8) (h : CopyPost t e 1 m f w en w') (hm : 0 < m) :
    ∃ g cap, en = .returned (.slice (some ⟨g, 0, none⟩) m cap) ∧ Row w' g m (fun i => f i 0) ∧ w.heap.size ≤ g ∧ Below w.heap.size w w' := by
  obtain ⟨a, cap, A, h1, h2, h3, h4⟩ := h
  rcases h4 with rfl | ⟨g, rfl, hg, hr⟩
  · obtain ⟨_, h5, _⟩ := h2.view E hm; cases h5
  · refine ⟨g, cap, h1, (Row.owned hr).congr fun i hi => ?_, hg, h3⟩
    have := flat_at (f := f) (n := m) (size := 1) hi (show 0 < 1 by omega)
    simp only [Nat.mul_one, Nat.add_zero] at this
    simp only [List.getD, this, Option.getD_some]
theorem BSt.other (S : BSt w0 gb sb lb n m ev f h w) {b : Nat} (h0 : w0.heap.size ≤ b) (h1 : gb ≠ b) (h2 : sb ≠ b) (h3 : lb ≠ b) (i : Nat) (x : Value) : BSt w0 gb sb lb n m ev f h (w.setCell ⟨b, i, none⟩ x) :=
  ⟨S.bel.setCell (p := ⟨b, i, none⟩) h0 _, S.g0, S.s0, S.l0, S.gs, S.gl, S.sl, S.gr.setOther h1 _, S.st.setOther h2 _, S.ls.setOther h3 _⟩
theorem BSt.later (S : BSt w0 gb sb lb n m ev f h w) (hb : Below w.heap.size w w') : BSt w0 gb sb lb n m ev f h w' :=
  ⟨S.bel.trans (hb.mono S.bel.size), S.g0, S.s0, S.l0, S.gs, S.gl, S.sl, S.gr.below hb S.gr.lt, S.st.below hb S.st.lt, S.ls.below hb S.ls.lt⟩
end

theorem bst_new {w W : World} {gb sb lb n m : Nat} {ev : Value} (bel : Below w.heap.size w W) (g0 : w.heap.size ≤ gb) (s0 : w.heap.size ≤ sb) (l0 : w.heap.size ≤ lb) (gs : gb ≠ sb) (gl : gb ≠ lb) (sl : sb ≠ lb)
    (gr : Row W gb 4 (fun i => if i = 0 then .pointer none else grC gb sb lb n m ev i)) (st : Row W sb (n + 1) (fun _ => .int .i64 0)) (ls : Row W lb (2 * m) (fun _ => .int .i64 0)) :
    BSt w gb sb lb n m ev (fun _ => 0) (fun _ => 0) (W.setCell ⟨gb, 0, none⟩ (.pointer (some ⟨gb, 0, none⟩))) :=
  ⟨bel.setCell (p := ⟨gb, 0, none⟩) g0 _, g0, s0, l0, gs, gl, sl, (gr.set 0 _).congr fun j _ => by
    by_cases h : j = 0
    · subst h; rfl
    · rw [if_neg h, if_neg h],
   st.setOther (fun e => gs e.symm) _, ls.setOther (fun e => gl e.symm) _⟩
theorem begin1 (w : World) (n m : Nat) (ev : Value) :
    BSt w (w.heap.size + 1 + 1) w.heap.size (w.heap.size + 1) n m ev (fun _ => 0) (fun _ => 0) ((((((w.alloc (.cells (madeCells #[.int .i64 0] (n + 1)) 3)).alloc (.cells (madeCells #[.int .i64 0] (2 * m)) 3)).alloc (.cells #[.pointer none, ev, .slice (some ⟨w.heap.size, 0, none⟩) (n + 1) (n + 1), .slice (some ⟨w.heap.size + 1, 0, none⟩) (2 * m) (2 * m)] 100))).drew).setCell ⟨w.heap.size + 1 + 1, 0, none⟩ (.pointer (some ⟨w.heap.size + 1 + 1, 0, none⟩))) ∧
    Row ((((w.alloc (.cells (madeCells #[.int .i64 0] (n + 1)) 3)).alloc (.cells (madeCells #[.int .i64 0] (2 * m)) 3)).alloc (.cells #[.pointer none, ev, .slice (some ⟨w.heap.size, 0, none⟩) (n + 1) (n + 1), .slice (some ⟨w.heap.size + 1, 0, none⟩) (2 * m) (2 * m)] 100))).drew (w.heap.size + 1 + 1) 4 (fun i => if i = 0 then .pointer none else grC (w.heap.size + 1 + 1) w.heap.size (w.heap.size + 1) n m ev i) := by
  have h1 := Row.made w (.int .i64 0) (n + 1) 3
  have h2 := Row.made (w.alloc (.cells (madeCells #[.int .i64 0] (n + 1)) 3)) (.int .i64 0) (2 * m) 3
  rw [World.size_alloc] at h2
  have h3 := Row.lit (n := 4) (f := fun i => if i = 0 then .pointer none else grC (w.heap.size + 1 + 1) w.heap.size (w.heap.size + 1) n m ev i) ((w.alloc (.cells (madeCells #[.int .i64 0] (n + 1)) 3)).alloc (.cells (madeCells #[.int .i64 0] (2 * m)) 3)) #[.pointer none, ev, .slice (some ⟨w.heap.size, 0, none⟩) (n + 1) (n + 1), .slice (some ⟨w.heap.size + 1, 0, none⟩) (2 * m) (2 * m)] 100 (by simp) (fun i hi => by
    match i, hi with
    | 0, _ => rfl
    | 1, _ => rfl
    | 2, _ => rfl
    | 3, _ => rfl)
  rw [World.size_alloc, World.size_alloc] at h3
  exact ⟨bst_new ((((Below.refl _ w).alloc (Nat.le_refl _) _).alloc (by simp) _).alloc (by simp; omega) _).drew (by omega) (by omega) (by omega) (by omega) (by omega) (by omega) h3.drew ((h1.alloc _).alloc _).drew (h2.alloc _).drew, h3.drew⟩
theorem begin2 (w : World) (n m : Nat) (ev : Value) :
    BSt w (w.heap.size + 1 + 1) (w.heap.size + 1) w.heap.size n m ev (fun _ => 0) (fun _ => 0) ((((((w.alloc (.cells (madeCells #[.int .i64 0] (2 * m)) 3)).alloc (.cells (madeCells #[.int .i64 0] (n + 1)) 3)).alloc (.cells #[.pointer none, ev, .slice (some ⟨w.heap.size + 1, 0, none⟩) (n + 1) (n + 1), .slice (some ⟨w.heap.size, 0, none⟩) (2 * m) (2 * m)] 100))).drew).setCell ⟨w.heap.size + 1 + 1, 0, none⟩ (.pointer (some ⟨w.heap.size + 1 + 1, 0, none⟩))) ∧
    Row ((((w.alloc (.cells (madeCells #[.int .i64 0] (2 * m)) 3)).alloc (.cells (madeCells #[.int .i64 0] (n + 1)) 3)).alloc (.cells #[.pointer none, ev, .slice (some ⟨w.heap.size + 1, 0, none⟩) (n + 1) (n + 1), .slice (some ⟨w.heap.size, 0, none⟩) (2 * m) (2 * m)] 100))).drew (w.heap.size + 1 + 1) 4 (fun i => if i = 0 then .pointer none else grC (w.heap.size + 1 + 1) (w.heap.size + 1) w.heap.size n m ev i) := by
  have h1 := Row.made w (.int .i64 0) (2 * m) 3
  have h2 := Row.made (w.alloc (.cells (madeCells #[.int .i64 0] (2 * m)) 3)) (.int .i64 0) (n + 1) 3
  rw [World.size_alloc] at h2
  have h3 := Row.lit (n := 4) (f := fun i => if i = 0 then .pointer none else grC (w.heap.size + 1 + 1) (w.heap.size + 1) w.heap.size n m ev i) ((w.alloc (.cells (madeCells #[.int .i64 0] (2 * m)) 3)).alloc (.cells (madeCells #[.int .i64 0] (n + 1)) 3)) #[.pointer none, ev, .slice (some ⟨w.heap.size + 1, 0, none⟩) (n + 1) (n + 1), .slice (some ⟨w.heap.size, 0, none⟩) (2 * m) (2 * m)] 100 (by simp) (fun i hi => by
    match i, hi with
    | 0, _ => rfl
    | 1, _ => rfl
    | 2, _ => rfl
    | 3, _ => rfl)
  rw [World.size_alloc, World.size_alloc] at h3
  exact ⟨bst_new ((((Below.refl _ w).alloc (Nat.le_refl _) _).alloc (by simp) _).alloc (by simp; omega) _).drew (by omega) (by omega) (by omega) (by omega) (by omega) (by omega) h3.drew (h2.alloc _).drew ((h1.alloc _).alloc _).drew, h3.drew⟩
set_option maxRecDepth 100000 in
set_option maxHeartbeats 2000000 in
theorem build_any (B : Nat) (a : Option Addr) (cap n : Nat) (A : Nat → Addr) (E : List Ed) (w : World) (G : GOk n E) (hS : ES w B (.slice a E.length cap) E A) (hB : B ≤ w.heap.size) :
    Calls Tryz.prog 18 #[.int .i64 n, .slice a E.length cap] w fun e w' => ∃ gb sb lb h, e = .returned (.pointer (some ⟨gb, 0, none⟩)) ∧ BSt w gb sb lb n E.length (.slice a E.length cap) (pre E) h w' ∧ Lst E n E.length h := by
  have hn := G.n_le
  have hm := G.m_le
  have hmk1 : ∀ w, (Instr.makeSlice 46 (.int .i64 ((n : Int) + 1)) (.int .i64 ((n : Int) + 1))).run Tryz.prog w = .ok (.slice (some ⟨w.heap.size, 0, none⟩) (n + 1) (n + 1)) (w.alloc (.cells (madeCells #[.int .i64 0] (n + 1)) 3)) := fun w => by
    have := run_make_row' (P := Tryz.prog) 46 3 (.int .i64 0) 8 Tryz.underlying46 Tryz.infoI rfl .i64 .i64 (n + 1) (by omega) (by omega) w
    simpa using this
  have hmk2 : ∀ w, (Instr.makeSlice 46 (.int .i64 (2 * (E.length : Int))) (.int .i64 (2 * (E.length : Int)))).run Tryz.prog w = .ok (.slice (some ⟨w.heap.size, 0, none⟩) (2 * E.length) (2 * E.length)) (w.alloc (.cells (madeCells #[.int .i64 0] (2 * E.length)) 3)) := fun w => by
    have := run_make_row' (P := Tryz.prog) 46 3 (.int .i64 0) 8 Tryz.underlying46 Tryz.infoI rfl .i64 .i64 (2 * E.length) (by omega) (by omega) w
    simpa using this
  go_enter Tryz.func18, Tryz.ntmps18
  go_upto_region 1 with fail
  go_cut [5] (fun s5 wx => ∃ gb sb lb, s5 = .pointer (some ⟨gb, 0, none⟩) ∧ BSt w gb sb lb n E.length (.slice a E.length cap) (fun _ => 0) (fun _ => 0) (wx.setCell ⟨gb, 0, none⟩ (.pointer (some ⟨gb, 0, none⟩))) ∧ Row wx gb 4 (fun i => if i = 0 then .pointer none else grC gb sb lb n E.length (.slice a E.length cap) i))
  case first =>
    go_region
    all_goals go_wp2_with fail
    all_goals go_meet
    · exact ⟨_, _, _, rfl, begin1 _ _ _ _⟩
    · exact ⟨_, _, _, rfl, begin2 _ _ _ _⟩
  case rest =>
    obtain ⟨gb, sb, lb, rfl, S0, R0⟩ := hcut
    have r0 := R0.cell (i := 0) (by omega)
    have z0 := R0.frozen 0
    clear R0
    go_wp2_with fail
    clear r0 z0
    generalize wc.setCell ⟨gb, 0, none⟩ (.pointer (some ⟨gb, 0, none⟩)) = w1 at *
    clear hmk1 hmk2
    go_loopw [30] (fun i wr => ∃ k : Nat, k ≤ E.length ∧ i = .int .i64 k ∧ BSt w gb sb lb n E.length (.slice a E.length cap) (cntF E k) (fun _ => 0) wr) (fun i _ => E.length - (intOf i).toNat)
    case atStart => exact ⟨0, Nat.zero_le _, rfl, S0.congr fun i _ => (cntF_zero E i).symm⟩
    case round =>
      obtain ⟨k, hk, rfl, S⟩ := hrel
      have n1 := S.gs; have n2 := S.gl; have n3 := S.sl
      by_cases hlt : k < E.length
      · obtain ⟨u, v, hu, hv, hun, hvn, huv⟩ := G.nats hlt
        have hEr := hS.below (S.bel.mono hB)
        have e0 := ES.u hEr hlt
        have e1 := ES.v hEr hlt
        have e2 := ES.w hEr hlt
        rw [hu] at e0; rw [hv] at e1
        have ix := hEr.ix k hlt
        have S1 := S.alloc (.cells #[.int .i64 (u : Int), .int .i64 (v : Int), .int .i64 (eAt E k).w] 45)
        have x0 : (wr.alloc (.cells #[.int .i64 (u : Int), .int .i64 (v : Int), .int .i64 (eAt E k).w] 45)).cell? ⟨wr.heap.size, 0, none⟩ = some (.int .i64 (u : Int)) := by go_simp
        have x1 : (wr.alloc (.cells #[.int .i64 (u : Int), .int .i64 (v : Int), .int .i64 (eAt E k).w] 45)).cell? ⟨wr.heap.size, 1, none⟩ = some (.int .i64 (v : Int)) := by go_simp
        have q2 : wr.heap.size ≠ sb := by have := S.st.lt; omega
        have HU := Lib.hid hu
        have HV := Lib.hid hv
        have b1 := cntF_le E k (u + 1)
        have b2 := cntF_le E k (v + 1)
        have hvu : v ≠ u := fun e => huv e.symm
        clear hu hv hEr S
        go_wp2_with fail
        clear e0 e1 e2 ix
        generalize (wr.alloc (.cells #[.int .i64 (u : Int), .int .i64 (v : Int), .int .i64 (eAt E k).w] 45)) = W1 at *
        have c2 : W1.cell? ⟨gb, 2, none⟩ = some (.slice (some ⟨sb, 0, none⟩) (n + 1) (n + 1)) := S1.gr.cell (by omega)
        have s1 := S1.st.cell (i := u + 1) (by omega)
        have s2 := S1.st.cell (i := v + 1) (by omega)
        unfold i64F at s1 s2
        have z1 := S1.st.frozen (u + 1)
        have z2 := S1.st.frozen (v + 1)
        go_region
        go_wp2_with fail
        go_region
        go_wp2_with fail
        go_roundw
        case rel => exact ⟨k + 1, by omega, by go_num, (((S1.start (u + 1) (cntF E k (u + 1) + 1) (by omega)).start (v + 1) (cntF E k (v + 1) + 1) (by omega)).drew.drew).congr fun i _ => (cntF_step HU.out HV.out huv i).symm⟩
        case measure => simp only [intOf]; omega
      · obtain rfl : k = E.length := by omega
        have S2 := S.congr fun i _ => (pfx_zero E i).symm
        clear S S0
        go_wp2_with fail
        generalize wr = w2 at *
        go_loopw [58] (fun i wr => ∃ k : Nat, k ≤ n ∧ i = .int .i64 k ∧ BSt w gb sb lb n E.length (.slice a E.length cap) (pfx E k) (fun _ => 0) wr) (fun i _ => n - (intOf i).toNat)
        case atStart => exact ⟨0, Nat.zero_le _, rfl, S2⟩
        case round =>
          obtain ⟨k, hk2, rfl, S⟩ := hrel
          by_cases hlt : k < n
          · have c2 : wr.cell? ⟨gb, 2, none⟩ = some (.slice (some ⟨sb, 0, none⟩) (n + 1) (n + 1)) := S.gr.cell (by omega)
            have s1 := S.st.cell (i := k + 1) (by omega)
            have s2 := S.st.cell (i := k) (by omega)
            unfold i64F at s1 s2
            have z1 := S.st.frozen (k + 1)
            have b1 := pfx_le G (k := k) (x := k + 1) (by omega)
            have b2 := pfx_le G (k := k) (x := k) (by omega)
            go_wp2_with fail
            go_region
            go_wp2_with fail
            go_roundw
            case rel => exact ⟨k + 1, by omega, by go_num, ((S.start (k + 1) (pfx E k (k + 1) + pfx E k k) (by omega)).drew).congr fun i _ => (pfx_step E k i).symm⟩
            case measure => simp only [intOf]; omega
          · obtain rfl : k = n := by omega
            have S3 := S.congr (f' := pre E) fun i hi => pfx_end hi
            have c2 : wr.cell? ⟨gb, 2, none⟩ = some (.slice (some ⟨sb, 0, none⟩) (k + 1) (k + 1)) := S3.gr.cell (by omega)
            clear S S2
            go_wp2_with fail
            clear c2
            refine (cloneI wr.heap.size (some ⟨sb, 0, none⟩) (k + 1) (k + 1) _ (fun i _ => .int .i64 (pre E i : Nat)) wr (Rd.addr etI (fun _ => S3.st.lt) fun i hi j hj => ?_) (Nat.le_refl _) (fun _ _ _ _ => rfl) (by omega)).mono ?_
            · obtain rfl : j = 0 := by omega
              rw [add_mk]; simp only [Nat.mul_one, Nat.add_zero, Nat.zero_add]
              exact S3.st.cell hi
            rintro e w3 h3
            obtain ⟨nb, ncap, rfl, hN, hnb, hb3⟩ := copy_row etI h3 (by omega)
            have S4 := S3.later hb3
            have m1 : gb ≠ nb := by have := S3.gr.lt; omega
            have m2 : sb ≠ nb := by have := S3.st.lt; omega
            have m3 : lb ≠ nb := by have := S3.ls.lt; omega
            have m0 : w.heap.size ≤ nb := by have := S3.bel.size; omega
            have N4 : Row w3 nb (k + 1) (i64F (nxt E 0)) := hN.congr fun i _ => by unfold i64F; rw [nxt_zero]
            clear h3 S3 hb3 hN hnb
            go_wp2_with fail
            go_loopw [86] (fun i wr => ∃ (j : Nat) (h : Nat → Int), j ≤ E.length ∧ i = .int .i64 j ∧ BSt w gb sb lb k E.length (.slice a E.length cap) (pre E) h wr ∧ Lst E k j h ∧ Row wr nb (k + 1) (i64F (nxt E j))) (fun i _ => E.length - (intOf i).toNat)
            case atStart => exact ⟨0, _, Nat.zero_le _, rfl, S4, Lst.zero _ _ _, N4⟩
            case round =>
              obtain ⟨j, h, hj, rfl, S, hL, N⟩ := hrel
              by_cases hlt : j < E.length
              · obtain ⟨u, v, hu, hv, hun, hvn, huv⟩ := G.nats hlt
                have hEr := hS.below (S.bel.mono hB)
                have e0 := ES.u hEr hlt
                have e1 := ES.v hEr hlt
                have e2 := ES.w hEr hlt
                rw [hu] at e0; rw [hv] at e1
                have ix := hEr.ix j hlt
                have S1 := S.alloc (.cells #[.int .i64 (u : Int), .int .i64 (v : Int), .int .i64 (eAt E j).w] 45)
                have N1 := N.alloc (.cells #[.int .i64 (u : Int), .int .i64 (v : Int), .int .i64 (eAt E j).w] 45)
                have HU := Lib.hid hu
                have HV := Lib.hid hv
                clear hu hv hEr S N
                go_wp2_with fail
                clear e0 e1 e2 ix
                generalize (wr.alloc (.cells #[.int .i64 (u : Int), .int .i64 (v : Int), .int .i64 (eAt E j).w] 45)) = W1 at *
                have c3 : W1.cell? ⟨gb, 3, none⟩ = some (.slice (some ⟨lb, 0, none⟩) (2 * E.length) (2 * E.length)) := S1.gr.cell (by omega)
                have t1 := N1.cell (i := u) (by omega)
                unfold i64F at t1
                have y1 := N1.frozen u
                have b1 := G.nxt_lt hlt hun (inc_u HU.out)
                have l1 := S1.ls.cell b1
                have z1 := S1.ls.frozen (nxt E j u)
                refine wp_loop_rounds 3 ?_
                rw [rounds_succ]
                have i0 : ∀ w, (Instr.index 91 (.agg #[.int .i64 (u : Int), .int .i64 (v : Int)]) (.int .i64 0)).run Tryz.prog w = .ok (.int .i64 (u : Int)) w := fun _ => by kernel_rfl
                have i1 : ∀ w, (Instr.index 91 (.agg #[.int .i64 (u : Int), .int .i64 (v : Int)]) (.int .i64 1)).run Tryz.prog w = .ok (.int .i64 (v : Int)) w := fun _ => by kernel_rfl
                go_wp2_with fail
                go_region
                go_wp2_with fail
                have S2 := ((S1.list (nxt E j u) j).other m0 m1 m2 m3 u (.int .i64 ((nxt E j u : Int) + 1))).drew
                have N2 := ((N1.setOther (a := ⟨lb, nxt E j u, none⟩) (fun e => m3 e.symm) (.int .i64 j)).set u (.int .i64 ((nxt E j u : Int) + 1))).drew
                generalize (((W1.setCell ⟨lb, nxt E j u, none⟩ (.int .i64 j)).setCell ⟨nb, u, none⟩ (.int .i64 ((nxt E j u : Int) + 1))).drew) = W2 at *
                clear c3 t1 y1 l1 z1 b1 S1 N1
                have c3 : W2.cell? ⟨gb, 3, none⟩ = some (.slice (some ⟨lb, 0, none⟩) (2 * E.length) (2 * E.length)) := S2.gr.cell (by omega)
                have t1 : W2.cell? ⟨nb, v, none⟩ = some (.int .i64 (nxt E j v : Nat)) := (N2.cell (i := v) (by omega)).trans (by rw [if_neg (fun e => huv e.symm)]; rfl)
                have y1 := N2.frozen v
                have b1 := G.nxt_lt hlt hvn (inc_v HV.out)
                have l1 := S2.ls.cell b1
                have z1 := S2.ls.frozen (nxt E j v)
                rw [rounds_succ]
                go_wp2_with fail
                go_region
                go_wp2_with fail
                have S3 := ((S2.list (nxt E j v) j).other m0 m1 m2 m3 v (.int .i64 ((nxt E j v : Int) + 1))).drew
                have N3 := ((N2.setOther (a := ⟨lb, nxt E j v, none⟩) (fun e => m3 e.symm) (.int .i64 j)).set v (.int .i64 ((nxt E j v : Int) + 1))).drew
                generalize (((W2.setCell ⟨lb, nxt E j v, none⟩ (.int .i64 j)).setCell ⟨nb, v, none⟩ (.int .i64 ((nxt E j v : Int) + 1))).drew) = W3 at *
                clear c3 t1 y1 l1 z1 b1 S2 N2
                rw [rounds_succ]
                go_wp2_with fail
                go_roundw
                case rel =>
                  refine ⟨j + 1, _, by omega, by go_num, S3, hL.step hlt HU.out HV.out, N3.congr fun i _ => ?_⟩
                  simp only [i64F, nxt_step HU.out HV.out]
                  split
                  · rfl
                  · split <;> rfl
                case measure => simp only [intOf]; omega
              · obtain rfl : j = E.length := by omega
                go_wp2_with fail
                go_ret
                exact ⟨gb, sb, lb, h, rfl, S, hL⟩
end Go.Proofs.YtpbgophogneecaaGreat
