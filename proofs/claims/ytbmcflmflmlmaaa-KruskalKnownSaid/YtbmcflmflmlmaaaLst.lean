/- The walk of the search of kruskal.Swap (its closure last). Conditions: the rows around each vertex are those of a forest. -/
import Derived.Test.YtbmcflmflmlmaaaPth
import Derived.Test.YtbmcflmflmlmaaaWgt
namespace Go.Proofs.Ytbmcflmflmlmaaa
open Go.RowKit

/-- what the search reads -/
structure LastF (w0 : World) (n : Nat) (E : List Ed) (F : List Nat) (R : Nat → List Nat) (xb ab eb lb bl t : Nat) (a : Option Addr) (cap : Nat) (A : Nat → Addr) : Prop where
  lt : xb < w0.heap.size ∧ ab < w0.heap.size ∧ eb < w0.heap.size ∧ lb < w0.heap.size ∧ bl < w0.heap.size
  hx : w0.cell? ⟨xb, 1, none⟩ = some (.int .i64 (t : Nat))
  har : w0.cell? ⟨ab, 0, none⟩ = some (.slice (some ⟨eb, 0, none⟩) n n)
  hrow : ∀ v, v < n → ∃ ra rc RA, w0.cell? ⟨eb, v, none⟩ = some (.slice ra (R v).length rc) ∧ Rd 24 1 w0 w0.heap.size (.slice ra (R v).length rc) (R v).length (nums .i64 (intsN (R v))) RA
  hl : w0.cell? ⟨lb, 0, none⟩ = some (.func (.func 49) #[] #[.pointer (some ⟨xb, 0, none⟩), .pointer (some ⟨ab, 0, none⟩), .pointer (some ⟨lb, 0, none⟩), .pointer (some ⟨bl, 0, none⟩)])
  hb : w0.cell? ⟨bl, 0, none⟩ = some (.slice a E.length cap)
  hE : ES w0 w0.heap.size (.slice a E.length cap) E A
  mem : ∀ v i, i ∈ R v ↔ i ∈ F ∧ ∃ u, Lnk E i v u
  few : ∀ v, (R v).length ≤ 1000000
/-- what the search answers -/
def LastRes (w0 : World) (E : List Ed) (F : List Nat) (t v : Nat) (fr : Option Nat) (e : Ending) (w' : World) : Prop :=
  ((∃ r, PMax E (rest (· ∈ F) fr) v t r ∧ (∀ j, r = some j → j ∈ F) ∧ e = .returned (.tuple #[.int .i64 (optI r), .bool true])) ∨
    (¬ CI E (rest (· ∈ F) fr) v t ∧ e = .returned (.tuple #[.int .i64 (-1), .bool false]))) ∧ Below w0.heap.size w0 w'
theorem lnk_other {E : List Ed} {i v u x y : Nat} (h : Lnk E i v u) (e : edP E i = (x, y)) : (x = v ∧ y = u) ∨ (x = u ∧ y = v) := by
  rcases h with h | h <;> rw [e] at h <;> simp at h <;> omega
theorem lnk_fun {E : List Ed} {i v u u' : Nat} (h : Lnk E i v u) (h' : Lnk E i v u') : u = u' := by
  rcases h with h | h <;> rcases h' with k | k <;> rw [h] at k <;> simp at k <;> omega
set_option maxRecDepth 100000 in
set_option maxHeartbeats 4000000 in
theorem last_any (w0 : World) (n : Nat) (E : List Ed) (F : List Nat) (R : Nat → List Nat) (xb ab eb lb bl t : Nat) (a : Option Addr) (cap : Nat) (A : Nat → Addr) (L : LastF w0 n E F R xb ab eb lb bl t a cap A) (G : GOk n E) (hF : ∀ i, i ∈ F → i < E.length) (hC : Cut E (· ∈ F)) :
    ∀ (m v : Nat) (fr : Option Nat) (w : World), mes n E (· ∈ F) fr v < m → v < n → At E (· ∈ F) fr v → Below w0.heap.size w0 w →
      Calls Try.prog 49 #[.int .i64 (v : Nat), .int .i64 (optI fr), .pointer (some ⟨xb, 0, none⟩), .pointer (some ⟨ab, 0, none⟩), .pointer (some ⟨lb, 0, none⟩), .pointer (some ⟨bl, 0, none⟩)] w (LastRes w0 E F t v fr) := by
  intro m
  induction m with
  | zero => intro v fr w h; omega
  | succ m ih =>
    intro v fr w hmes hv hAt bel
    have IH := Lib.hid ih
    have HL := Lib.hid L; have HG := Lib.hid G; have HF := Lib.hid hF; have HC := Lib.hid hC; have HA := Lib.hid hAt
    have HM := Lib.hid hmes
    have hkn := G.n_le
    clear ih L G hF hC hAt hmes
    obtain ⟨f, hf⟩ : ∃ f, optI fr = f := ⟨_, rfl⟩
    have Hf := Lib.hid hf
    rw [hf]
    clear hf
    have c0 : w.cell? ⟨xb, 1, none⟩ = some (.int .i64 (t : Nat)) := (bel.cell (p := ⟨xb, 1, none⟩) HL.out.lt.1).trans HL.out.hx
    by_cases hvt : v = t
    · have hz : ((v : Int) == (t : Int)) = true := by simp [hvt]
      have HV := Lib.hid hvt
      clear hvt
      go_enter Try.func49, Try.ntmps49
      go_wp2_with fail
      go_ret2
      exact ⟨.inl ⟨none, HV.out, (fun j hj => by cases hj), rfl⟩, bel⟩
    · have hz : ((v : Int) == (t : Int)) = false := by simp; omega
      have HV := Lib.hid hvt
      clear hvt
      obtain ⟨ra, rc, RA, hr1, hr2⟩ := HL.out.hrow v hv
      have c1 : w.cell? ⟨ab, 0, none⟩ = some (.slice (some ⟨eb, 0, none⟩) n n) := (bel.cell (p := ⟨ab, 0, none⟩) HL.out.lt.2.1).trans HL.out.har
      have c2 : w.cell? ⟨eb, v, none⟩ = some (.slice ra (R v).length rc) := (bel.cell (p := ⟨eb, v, none⟩) HL.out.lt.2.2.1).trans hr1
      have HRd := Lib.hid hr2
      have hfew := HL.out.few v
      have hvi : (0 : Int) ≤ v ∧ (v : Int) < n := by omega
      clear hr1 hr2
      go_enter Try.func49, Try.ntmps49
      go_wp2_with fail
      go_loopw [23] (fun i wr => ∃ k : Nat, k ≤ (R v).length ∧ i = .int .i64 (k : Nat) ∧ Hid (∀ j, j < k → some ((R v).getD j 0) ≠ fr → ∀ u, Lnk E ((R v).getD j 0) v u → ¬ CI E (rest (· ∈ F) (some ((R v).getD j 0))) u t) ∧ Below w0.heap.size w0 wr) (fun i _ => (R v).length - (intOf i).toNat)
      case atStart => exact ⟨0, Nat.zero_le _, rfl, Lib.hid (fun j hj => absurd hj (by omega)), bel⟩
      case round =>
        clear bel c0 c1 c2
        obtain ⟨k, hk, rfl, HN, bel⟩ := hrel
        by_cases hlt : k < (R v).length
        · obtain ⟨x, hx⟩ : ∃ x, (R v).getD k 0 = x := ⟨_, rfl⟩
          have hmem : x ∈ R v := by rw [← hx, List.getD_eq_getElem?_getD, List.getElem?_eq_getElem hlt]; exact List.getElem_mem _
          obtain ⟨hxF, u, hl⟩ := (HL.out.mem v x).1 hmem
          have hxl := HF.out x hxF
          have hRr := HRd.out.below bel
          have i0 := hRr.ix k hlt
          have d0 := hRr.cell k hlt 0 (by omega)
          rw [add_zero] at d0
          have hn : nums .i64 (intsN (R v)) k 0 = .int .i64 (x : Nat) := by
            rw [← hx]; simp [nums, nth, intsN, List.getD, hlt]
          rw [hn] at d0
          have HX := Lib.hid hx
          have hki : (0 : Int) ≤ k ∧ (k : Int) < (R v).length := by omega
          clear hRr hn hx hmem
          by_cases hxf : some x = fr
          · have hz2 : ((x : Int) == f) = true := by rw [← Hf.out, ← hxf]; simp [optI]
            have HXf := Lib.hid hxf
            clear hxf
            go_wp2_with fail
            go_roundw
            case rel => exact ⟨k + 1, by omega, by go_num, Lib.hid (fun j hj => by
              by_cases e : j = k
              · rw [e, HX.out]; exact fun c => absurd HXf.out c
              · exact HN.out j (by omega)), bel⟩
            case measure => simp only [intOf]; omega
          · have hz2 : ((x : Int) == f) = false := by
              rw [← Hf.out]
              cases fr with
              | none => simp [optI]
              | some j => simp [optI]; intro c; exact hxf (congrArg some (by omega))
            obtain ⟨p, q, hp, hq, hpn, hqn, hpq⟩ := HG.out.nats hxl
            have hed : edP E x = (p, q) := by unfold edP; rw [hp, hq]; simp
            have hun : u < n ∧ (p : Int) + (q : Int) - (v : Int) = (u : Nat) := by
              rcases lnk_other hl hed with ⟨e1, e2⟩ | ⟨e1, e2⟩ <;> omega
            have hEr := HL.out.hE.below bel
            have i1 := hEr.ix x hxl
            have c2 := ES.u hEr hxl
            have c3 := ES.v hEr hxl
            rw [hp] at c2; rw [hq] at c3
            have hw1 : IntKind.i64.wrap ((p : Int) + (q : Int)) = (p : Int) + (q : Int) := IntWalk.i64_in _ (by omega)
            have hw2 : IntKind.i64.wrap ((p : Int) + (q : Int) - (v : Int)) = (u : Nat) := by rw [hun.2]; exact IntWalk.i64_in _ (by omega)
            have cl : wr.cell? ⟨lb, 0, none⟩ = some (.func (.func 49) #[] #[.pointer (some ⟨xb, 0, none⟩), .pointer (some ⟨ab, 0, none⟩), .pointer (some ⟨lb, 0, none⟩), .pointer (some ⟨bl, 0, none⟩)]) := (bel.cell (p := ⟨lb, 0, none⟩) HL.out.lt.2.2.2.1).trans HL.out.hl
            have cb : wr.cell? ⟨bl, 0, none⟩ = some (.slice a E.length cap) := (bel.cell (p := ⟨bl, 0, none⟩) HL.out.lt.2.2.2.2).trans HL.out.hb
            have hm2 := mes_lt HC.out HA.out hxF hxf hl hv
            have HU := Lib.hid (IH.out u (some x) wr.drew (by have := HM.out; omega) hun.1 (At.next hxF hl) bel.drew)
            unfold optI at HU
            have HXF := Lib.hid hxF; have HXn := Lib.hid hxf; have HLk := Lib.hid hl
            have HS : wr.drew.cell? ⟨lb, 0, none⟩ = some (.func (.func 49) #[] #[.pointer (some ⟨xb, 0, none⟩), .pointer (some ⟨ab, 0, none⟩), .pointer (some ⟨lb, 0, none⟩), .pointer (some ⟨bl, 0, none⟩)]) ∧ wr.drew.cell? ⟨bl, 0, none⟩ = some (.slice a E.length cap) ∧ wr.drew.cell? (A x) = some (.int .i64 (p : Nat)) ∧ wr.drew.cell? ⟨(A x).block, (A x).off + 1, none⟩ = some (.int .i64 (q : Nat)) := ⟨cl, cb, c2, c3⟩
            have hkx : (0 : Int) ≤ x ∧ (x : Int) < E.length := by omega
            have HSB : ∀ w4, Below w0.heap.size w0 w4 → w4.cell? ⟨lb, 0, none⟩ = some (.func (.func 49) #[] #[.pointer (some ⟨xb, 0, none⟩), .pointer (some ⟨ab, 0, none⟩), .pointer (some ⟨lb, 0, none⟩), .pointer (some ⟨bl, 0, none⟩)]) ∧ w4.cell? ⟨bl, 0, none⟩ = some (.slice a E.length cap) ∧ w4.cell? (A x) = some (.int .i64 (p : Nat)) ∧ w4.cell? ⟨(A x).block, (A x).off + 1, none⟩ = some (.int .i64 (q : Nat)) := fun w4 b4 => by
              have h2 := ES.u (HL.out.hE.below b4) hxl
              have h3 := ES.v (HL.out.hE.below b4) hxl
              rw [hp] at h2; rw [hq] at h3
              exact ⟨(b4.cell (p := ⟨lb, 0, none⟩) HL.out.lt.2.2.2.1).trans HL.out.hl, (b4.cell (p := ⟨bl, 0, none⟩) HL.out.lt.2.2.2.2).trans HL.out.hb, h2, h3⟩
            clear hEr hp hq c2 c3 cl cb hm2 hxF hxf hl hed hpq hun
            go_wp2_with fail
            refine region_plain (fun w' => w'.cell? ⟨lb, 0, none⟩ = some (.func (.func 49) #[] #[.pointer (some ⟨xb, 0, none⟩), .pointer (some ⟨ab, 0, none⟩), .pointer (some ⟨lb, 0, none⟩), .pointer (some ⟨bl, 0, none⟩)]) ∧ w'.cell? ⟨bl, 0, none⟩ = some (.slice a E.length cap) ∧ w'.cell? (A x) = some (.int .i64 (p : Nat)) ∧ w'.cell? ⟨(A x).block, (A x).off + 1, none⟩ = some (.int .i64 (q : Nat))) (by kernel_rfl) ?_
            refine take_at (i := 0) (d := 31) (v := ?_) rfl rfl (by kernel_rfl) (by kernel_rfl) (by kernel_rfl) (fun _ _ _ _ => NormalOnly.any) rfl ?hy1 HS ?rest1
            case hy1 => intro w' hSw; (try dsimp only at hSw); go_simp; try (with_reducible rfl)
            try simp only [List.setIfInBounds_toArray, List.set_cons_zero, List.set_cons_succ]
            refine take_at (i := 1) (d := 32) (v := ?_) rfl rfl (by kernel_rfl) (by kernel_rfl) (by kernel_rfl) (fun _ _ _ _ => NormalOnly.any) rfl ?hy2 HS ?rest2
            case hy2 => intro w' hSw; (try dsimp only at hSw); go_simp; try (with_reducible rfl)
            try simp only [List.setIfInBounds_toArray, List.set_cons_zero, List.set_cons_succ]
            refine take_at (i := 2) (d := 33) (v := ?_) rfl rfl (by kernel_rfl) (by kernel_rfl) (by kernel_rfl) (fun _ _ _ _ => NormalOnly.any) rfl ?hy3 HS ?rest3
            case hy3 => intro w' hSw; (try dsimp only at hSw); go_simp; try (with_reducible rfl)
            try simp only [List.setIfInBounds_toArray, List.set_cons_zero, List.set_cons_succ]
            refine take_at (i := 3) (d := 34) (v := ?_) rfl rfl (by kernel_rfl) (by kernel_rfl) (by kernel_rfl) (fun _ _ _ _ => NormalOnly.any) rfl ?hy4 HS ?rest4
            case hy4 => intro w' hSw; (try dsimp only at hSw); go_simp; try (with_reducible rfl)
            try simp only [List.setIfInBounds_toArray, List.set_cons_zero, List.set_cons_succ]
            refine take_at (i := 4) (d := 35) (v := ?_) rfl rfl (by kernel_rfl) (by kernel_rfl) (by kernel_rfl) (fun _ _ _ _ => NormalOnly.any) rfl ?hy5 HS ?rest5
            case hy5 => intro w' hSw; (try dsimp only at hSw); go_simp; try (with_reducible rfl)
            try simp only [List.setIfInBounds_toArray, List.set_cons_zero, List.set_cons_succ]
            refine take_at (i := 5) (d := 36) (v := ?_) rfl rfl (by kernel_rfl) (by kernel_rfl) (by kernel_rfl) (fun _ _ _ _ => NormalOnly.any) rfl ?hy6 HS ?rest6
            case hy6 => intro w' hSw; (try dsimp only at hSw); go_simp; try (with_reducible rfl)
            try simp only [List.setIfInBounds_toArray, List.set_cons_zero, List.set_cons_succ]
            refine take_at (i := 6) (d := 37) (v := ?_) rfl rfl (by kernel_rfl) (by kernel_rfl) (by kernel_rfl) (fun _ _ _ _ => NormalOnly.any) rfl ?hy7 HS ?rest7
            case hy7 => intro w' hSw; (try dsimp only at hSw); go_simp; try (with_reducible rfl)
            try simp only [List.setIfInBounds_toArray, List.set_cons_zero, List.set_cons_succ]
            refine take_at (i := 7) (d := 38) (v := ?_) rfl rfl (by kernel_rfl) (by kernel_rfl) (by kernel_rfl) (fun _ _ _ _ => NormalOnly.any) rfl ?hy8 HS ?rest8
            case hy8 => intro w' hSw; (try dsimp only at hSw); go_simp; try (with_reducible rfl)
            try simp only [List.setIfInBounds_toArray, List.set_cons_zero, List.set_cons_succ]
            refine take_at (i := 8) (d := 39) (v := ?_) rfl rfl (by kernel_rfl) (by kernel_rfl) (by kernel_rfl) (fun _ _ _ _ => NormalOnly.any) rfl ?hy9 HS ?rest9
            case hy9 => intro w' hSw; (try dsimp only at hSw); go_simp; try (with_reducible rfl)
            try simp only [List.setIfInBounds_toArray, List.set_cons_zero, List.set_cons_succ]
            refine take_at (i := 9) (d := 40) (v := ?_) rfl rfl (by kernel_rfl) (by kernel_rfl) (by kernel_rfl) (fun _ _ _ _ => NormalOnly.any) rfl ?hy10 HS ?rest10
            case hy10 => intro w' hSw; (try dsimp only at hSw); go_simp; try (with_reducible rfl)
            try simp only [List.setIfInBounds_toArray, List.set_cons_zero, List.set_cons_succ]
            refine take_at (i := 10) (d := 41) (v := ?_) rfl rfl (by kernel_rfl) (by kernel_rfl) (by kernel_rfl) (fun _ _ _ _ => NormalOnly.any) rfl ?hy11 HS ?rest11
            case hy11 => intro w' hSw; (try dsimp only at hSw); go_simp; try (with_reducible rfl)
            try simp only [List.setIfInBounds_toArray, List.set_cons_zero, List.set_cons_succ]
            refine take_at (i := 11) (d := 42) (v := ?_) rfl rfl (by kernel_rfl) (by kernel_rfl) (by kernel_rfl) (fun _ _ _ _ => NormalOnly.any) rfl ?hy12 HS ?rest12
            case hy12 => intro w' hSw; (try dsimp only at hSw); go_simp; try (with_reducible rfl)
            try simp only [List.setIfInBounds_toArray, List.set_cons_zero, List.set_cons_succ]
            refine take_at (i := 12) (d := 43) (v := ?_) rfl rfl (by kernel_rfl) (by kernel_rfl) (by kernel_rfl) (fun _ _ _ _ => NormalOnly.any) rfl ?hy13 HS ?rest13
            case hy13 => intro w' hSw; (try dsimp only at hSw); go_simp; try (with_reducible rfl)
            try simp only [List.setIfInBounds_toArray, List.set_cons_zero, List.set_cons_succ]
            refine take_at (i := 13) (d := 44) (v := ?_) rfl rfl (by kernel_rfl) (by kernel_rfl) (by kernel_rfl) (fun _ _ _ _ => NormalOnly.any) rfl ?hy14 HS ?rest14
            case hy14 => intro w' hSw; (try dsimp only at hSw); go_simp; try (with_reducible rfl)
            try simp only [List.setIfInBounds_toArray, List.set_cons_zero, List.set_cons_succ]
            refine take_at (i := 14) (d := 45) (v := ?_) rfl rfl (by kernel_rfl) (by kernel_rfl) (by kernel_rfl) (fun _ _ _ _ => NormalOnly.any) rfl ?hy15 HS ?rest15
            case hy15 => intro w' hSw; (try dsimp only at hSw); go_simp; try (with_reducible rfl)
            try simp only [List.setIfInBounds_toArray, List.set_cons_zero, List.set_cons_succ]
            refine wpAnyH_ready (rs := [15]) (by kernel_rfl) (by simp) ?_
            refine AllReadyH.cons rfl (fun K hK => ?_) AllReadyH.nil
            go_simp
            refine HU.out.mono ?_
            rintro e w4 ⟨hres, bel4⟩
            rcases hres with ⟨r, hPM, hrF, rfl⟩ | ⟨hNo, rfl⟩
            · have HPM := Lib.hid hPM; have HrF := Lib.hid hrF
              clear hPM hrF
              dsimp only
              refine hK.out _ _ (HSB w4 bel4) (fun HS => ?_)
              clear hK HSB HU
              refine take_at (i := 16) (d := 30) (v := ?_) rfl rfl (by kernel_rfl) (by kernel_rfl) (by kernel_rfl) (fun _ _ _ _ => NormalOnly.any) rfl ?hy16 HS ?rest16
              case hy16 => intro w' hSw; (try dsimp only at hSw); go_simp; try (with_reducible rfl)
              try simp only [List.setIfInBounds_toArray, List.set_cons_zero, List.set_cons_succ]
              refine take_at (i := 17) (d := 47) (v := ?_) rfl rfl (by kernel_rfl) (by kernel_rfl) (by kernel_rfl) (fun _ _ _ _ => NormalOnly.any) rfl ?hy17 HS ?rest17
              case hy17 => intro w' hSw; (try dsimp only at hSw); go_simp; try (with_reducible rfl)
              try simp only [List.setIfInBounds_toArray, List.set_cons_zero, List.set_cons_succ]
              refine take_at (i := 18) (d := 48) (v := ?_) rfl rfl (by kernel_rfl) (by kernel_rfl) (by kernel_rfl) (fun _ _ _ _ => NormalOnly.any) rfl ?hy18 HS ?rest18
              case hy18 => intro w' hSw; (try dsimp only at hSw); go_simp; try (with_reducible rfl)
              try simp only [List.setIfInBounds_toArray, List.set_cons_zero, List.set_cons_succ]
              refine take_at (i := 19) (d := 12) (v := ?_) rfl rfl (by kernel_rfl) (by kernel_rfl) (by kernel_rfl) (fun _ _ _ _ => NormalOnly.any) rfl ?hy19 HS ?rest19
              case hy19 => intro w' hSw; (try dsimp only at hSw); go_simp; try (with_reducible rfl)
              try simp only [List.setIfInBounds_toArray, List.set_cons_zero, List.set_cons_succ]
              refine take_at (i := 20) (d := 13) (v := ?_) rfl rfl (by kernel_rfl) (by kernel_rfl) (by kernel_rfl) (fun _ _ _ _ => NormalOnly.any) rfl ?hy20 HS ?rest20
              case hy20 => intro w' hSw; (try dsimp only at hSw); go_simp; try (with_reducible rfl)
              try simp only [List.setIfInBounds_toArray, List.set_cons_zero, List.set_cons_succ]
              refine wpAnyH_done (by kernel_rfl) ⟨rfl, ?_⟩ _
              have cb4 : w4.cell? ⟨bl, 0, none⟩ = some (.slice a E.length cap) := HS.2.1
              have HLt := Lib.hid (later_any w0.heap.size E a cap A x r w4 (HL.out.hE.below bel4) hxl (fun j hj => HF.out j (HrF.out j hj)))
              have hs4 := bel4.size
              obtain ⟨rz, hrz⟩ : ∃ rz, optI r = rz := ⟨_, rfl⟩
              rw [hrz] at HLt ⊢
              clear HS hrz
              go_wp2_with fail
              refine HLt.out.mono ?_
              rintro e w5 ⟨rfl, hb5⟩
              go_wp2_with fail
              go_ret2
              refine ⟨.inl ⟨some (latO E x r), pmax_step HC.out HA.out HXF.out HXn.out HLk.out HPM.out, (fun j hj => ?_), rfl⟩, bel4.trans (hb5.mono hs4)⟩
              cases hj
              cases r with
              | none => exact HXF.out
              | some j =>
                show latE E x j ∈ F
                unfold latE
                split
                · exact HXF.out
                · exact HrF.out j rfl
            · have HNo := Lib.hid hNo
              clear hNo
              dsimp only
              refine hK.out _ _ (HSB w4 bel4) (fun HS => ?_)
              clear hK HSB HU
              refine take_at (i := 16) (d := 30) (v := ?_) rfl rfl (by kernel_rfl) (by kernel_rfl) (by kernel_rfl) (fun _ _ _ _ => NormalOnly.any) rfl ?hy21 HS ?rest21
              case hy21 => intro w' hSw; (try dsimp only at hSw); go_simp; try (with_reducible rfl)
              try simp only [List.setIfInBounds_toArray, List.set_cons_zero, List.set_cons_succ]
              refine take_at (i := 17) (d := 47) (v := ?_) rfl rfl (by kernel_rfl) (by kernel_rfl) (by kernel_rfl) (fun _ _ _ _ => NormalOnly.any) rfl ?hy22 HS ?rest22
              case hy22 => intro w' hSw; (try dsimp only at hSw); go_simp; try (with_reducible rfl)
              try simp only [List.setIfInBounds_toArray, List.set_cons_zero, List.set_cons_succ]
              refine take_at (i := 18) (d := 48) (v := ?_) rfl rfl (by kernel_rfl) (by kernel_rfl) (by kernel_rfl) (fun _ _ _ _ => NormalOnly.any) rfl ?hy23 HS ?rest23
              case hy23 => intro w' hSw; (try dsimp only at hSw); go_simp; try (with_reducible rfl)
              try simp only [List.setIfInBounds_toArray, List.set_cons_zero, List.set_cons_succ]
              refine take_at (i := 19) (d := 12) (v := ?_) rfl rfl (by kernel_rfl) (by kernel_rfl) (by kernel_rfl) (fun _ _ _ _ => NormalOnly.any) rfl ?hy24 HS ?rest24
              case hy24 => intro w' hSw; (try dsimp only at hSw); go_simp; try (with_reducible rfl)
              try simp only [List.setIfInBounds_toArray, List.set_cons_zero, List.set_cons_succ]
              refine take_at (i := 20) (d := 13) (v := ?_) rfl rfl (by kernel_rfl) (by kernel_rfl) (by kernel_rfl) (fun _ _ _ _ => NormalOnly.any) rfl ?hy25 HS ?rest25
              case hy25 => intro w' hSw; (try dsimp only at hSw); go_simp; try (with_reducible rfl)
              try simp only [List.setIfInBounds_toArray, List.set_cons_zero, List.set_cons_succ]
              refine wpAnyH_done (by kernel_rfl) ⟨rfl, ?_⟩ _
              clear HS
              go_wp2_with fail
              go_roundw
              case rel => exact ⟨k + 1, by omega, by go_num, Lib.hid (fun j hj => by
                by_cases e : j = k
                · rw [e, HX.out]
                  intro _ u' hu'
                  rw [← lnk_fun HLk.out hu']
                  exact HNo.out
                · exact HN.out j (by omega)), bel4⟩
              case measure => simp only [intOf]; omega
        · have hke : k = (R v).length := by omega
          have HNP := Lib.hid (show ¬ CI E (rest (· ∈ F) fr) v t from no_path HV.out fun i u hi hne hl => by
            have hm := (HL.out.mem v i).2 ⟨hi, u, hl⟩
            obtain ⟨j, hj, he⟩ := List.mem_iff_getElem.1 hm
            have h2 : (R v).getD j 0 = i := by rw [← he]; simp [List.getD, hj]
            have := HN.out j (by omega)
            rw [h2] at this
            exact this hne u hl)
          go_wp2_with fail
          go_ret2
          exact ⟨.inr ⟨HNP.out, rfl⟩, bel⟩
end Go.Proofs.Ytbmcflmflmlmaaa
