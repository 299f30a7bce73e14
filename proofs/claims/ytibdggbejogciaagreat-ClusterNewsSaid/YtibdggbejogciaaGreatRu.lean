/- Plain facts: the edges up to a threshold, as the document keeps them. No program. -/
import Derived.Test.YtibdggbejogciaaGreatRcS
import Derived.Test.YtibdggbejogciaaGreatRw
import Derived.Test.YtibdggbejogciaaGreatMe
import Derived.Test.YtibdggbejogciaaGreatRcV
import Derived.Test.YtibdggbejogciaaGreatDsGp
import Derived.Test.YtibdggbejogciaaGreatCm
import Derived.Test.YtibdggbejogciaaGreatCz
import Derived.Test.YtibdggbejogciaaGreatCr
import Derived.IntWalk
namespace Go.Proofs.YtibdggbejogciaaGreat

/-- the edges up to a threshold -/
def undE (E : List Ed) (θ : Int) : List Ed := E.filter fun e => decide (e.w ≤ θ)
/-- the edges below a threshold -/
def belE (E : List Ed) (θ : Int) : List Ed := E.filter fun e => decide (e.w < θ)
def prO (e : Ed) : Nat × Nat := (e.u.toNat, e.v.toNat)
theorem eAt_range (E : List Ed) : (List.range E.length).map (eAt E) = E := by
  apply List.ext_getElem
  · simp
  · intro i h1 h2
    rw [List.getElem_map, List.getElem_range, eAt_eq h2]
theorem labO_all (E : List Ed) : labO E (List.range E.length) = labL (E.map prO) := by
  unfold labO
  have h : (List.range E.length).map (edP E) = ((List.range E.length).map (eAt E)).map prO := by rw [List.map_map]; rfl
  rw [h, eAt_range]
theorem labO_filt (E : List Ed) (p : Ed → Bool) : labO (E.filter p) (List.range (E.filter p).length) = labO E ((List.range E.length).filter fun i => p (eAt E i)) := by
  rw [labO_all]
  unfold labO
  have h : ((List.range E.length).filter fun i => p (eAt E i)).map (edP E) = (((List.range E.length).map (eAt E)).filter p).map prO := by
    rw [List.filter_map, List.map_map]; rfl
  rw [h, eAt_range]
theorem undE_lab (E : List Ed) (θ : Int) : labO (undE E θ) (List.range (undE E θ).length) = lbW E θ := labO_filt E _
theorem belE_lab (E : List Ed) (θ : Int) : labO (belE E θ) (List.range (belE E θ).length) = lbB E θ := labO_filt E _
theorem filt_ok {n : Nat} {E : List Ed} (G : GOk n E) (p : Ed → Bool) : GOk n (E.filter p) := by
  refine ⟨G.n_le, Nat.le_trans (List.length_filter_le _ _) G.m_le, fun i hi => ?_⟩
  rw [eAt_eq hi]
  have hm := (List.mem_filter.1 (List.getElem_mem hi)).1
  obtain ⟨j, hj, e⟩ := List.mem_iff_getElem.1 hm
  have h1 := G.ends j hj
  rw [eAt_eq hj, e] at h1
  exact h1
theorem filtE_take {E : List Ed} {k : Nat} (p : Ed → Bool) (h : k < E.length) : (E.take (k + 1)).filter p = if p (eAt E k) = true then (E.take k).filter p ++ [eAt E k] else (E.take k).filter p := by
  rw [List.take_succ_eq_append_getElem h, List.filter_append, eAt_eq h]
  cases hp : p E[k] <;> simp [hp]
end Go.Proofs.YtibdggbejogciaaGreat

/- The walk of Under of the document's graph. Conditions: New has made the graph. -/
namespace Go.Proofs.YtibdggbejogciaaGreat
open Go.RowKit

/-- what Under answers -/
def UndRes (n : Nat) (F : List Ed) (w : World) (e : Ending) (w' : World) : Prop := ∃ b : Nat, e = .returned (.pointer (some ⟨b, 0, none⟩)) ∧ RAt w' w'.heap.size b n F ∧ Below w.heap.size w w'
/-- a graph that is being built -/
def UnB (w : World) (g n : Nat) (P : List Ed) (v : Value) : Prop := Row w g 3 (fun i => (#[.bool true, .int .i64 (n : Nat), v] : Array Value).getD i undef) ∧ OwnE (g + 1) v P w
theorem UnB.below {w w' : World} {g n : Nat} {P : List Ed} {v : Value} (h : UnB w g n P v) (hb : Below w.heap.size w w') : UnB w' g n P v := ⟨h.1.below hb h.1.lt, h.2.below hb⟩
theorem UnB.at {w : World} {g n : Nat} {P : List Ed} {v : Value} (h : UnB w g n P v) (G : GOk n P) : RAt w w.heap.size g n P := by
  obtain ⟨a, cap, A, rfl, h2⟩ := h.2.rd
  exact ⟨G, h.1.lt, h.1.cell (i := 0) (by omega), h.1.cell (i := 1) (by omega), a, cap, A, h.1.cell (i := 2) (by omega), h2⟩
set_option maxRecDepth 100000 in
set_option maxHeartbeats 2000000 in
theorem runder_any (B b n : Nat) (E : List Ed) (θ : Int) (w : World) (hR : RAt w B b n E) (hB : B ≤ w.heap.size) :
    Calls Tryz.prog 39 #[.pointer (some ⟨b, 0, none⟩), .int .i64 θ] w (UndRes n (undE E θ) w) := by
  have HV := Lib.hid (rvalid_is (x := true) (o := some (n, E)) rfl (show RG w B (.pointer (some ⟨b, 0, none⟩)) (some (n, E)) from ⟨b, rfl, hR⟩))
  have hml := hR.ok.m_le
  have HG := Lib.hid (show GOk n (undE E θ) from filt_ok hR.ok _)
  obtain ⟨a, cap, A, h2, hE⟩ := hR.edges
  have c1 := hR.num
  have hbl := hR.lt
  have H2 : ∀ W, Below w.heap.size w W → W.cell? ⟨b, 2, none⟩ = some (.slice a E.length cap) := fun W hW => (hW.cell (p := ⟨b, 2, none⟩) (by show b < w.heap.size; omega)).trans h2
  have h20 := h2
  have HC := Lib.hid H2; have HE := Lib.hid hE
  clear hR h2 hE H2
  go_enter Tryz.func39, Tryz.ntmps39
  go_wp2_with fail
  refine HV.out.mono ?_
  rintro e w ⟨rfl, rfl⟩
  clear HV
  go_wp2_with fail
  obtain ⟨g, hg⟩ : ∃ g, w.heap.size = g := ⟨_, rfl⟩
  have U1 : UnB (w.alloc (.cells #[.bool true, .int .i64 (n : Nat), .slice none 0 0] 65)) g n (undE (E.take 0) θ) (.slice none 0 0) := by
    refine ⟨?_, OwnE.nil _ _⟩
    rw [← hg]
    exact Row.lit w _ _ (by simp) fun i hi => by
      match i, hi with
      | 0, _ => rfl
      | 1, _ => rfl
      | 2, _ => rfl
      | n + 3, h => omega
  have b1 : Below w.heap.size w (w.alloc (.cells #[.bool true, .int .i64 (n : Nat), .slice none 0 0] 65)) := (Below.refl _ _).alloc (Nat.le_refl _) _
  have s1 : g < (w.alloc (.cells #[.bool true, .int .i64 (n : Nat), .slice none 0 0] 65)).heap.size := by simp; omega
  rw [hg] at b1 HC ⊢
  have hbg : b < g := by omega
  have hBg : B ≤ g := by omega
  generalize w.alloc (.cells #[.bool true, .int .i64 (n : Nat), .slice none 0 0] 65) = w1 at *
  go_loopw [6] (fun iv wr => ∃ k : Nat, k ≤ E.length ∧ iv = .int .i64 (k : Nat) ∧ Hid (∃ v, UnB wr g n (undE (E.take k) θ) v) ∧ Hid (Below g w wr)) (fun iv _ => E.length - (intOf iv).toNat)
  case atStart => exact ⟨0, Nat.zero_le _, rfl, Lib.hid ⟨_, U1⟩, Lib.hid b1⟩
  case round =>
    obtain ⟨k, hk, rfl, HU, BW⟩ := hrel
    have l2 := HC.out wr BW.out
    have HBw := Lib.hid (BW.out.mono hBg)
    by_cases hlt : k < E.length
    · have ix := HE.out.ix k hlt
      have e2 := ES.w (HE.out.below HBw.out) hlt
      have HT := Lib.hid (show undE (E.take (k + 1)) θ = if decide ((eAt E k).w ≤ θ) = true then undE (E.take k) θ ++ [eAt E k] else undE (E.take k) θ from filtE_take _ hlt)
      by_cases hc : (eAt E k).w ≤ θ
      · have d1 : decide ((eAt E k).w ≤ θ) = true := decide_eq_true hc
        obtain ⟨v, hU⟩ := HU.out
        have e0 := ES.u (HE.out.below HBw.out) hlt
        have e1 := ES.v (HE.out.below HBw.out) hlt
        have hPl : (undE (E.take k) θ).length ≤ 16384 := by
          have h1 := List.length_filter_le (fun e : Ed => decide (e.w ≤ θ)) (E.take k)
          rw [List.length_take] at h1
          unfold undE; omega
        obtain ⟨P, hP⟩ : ∃ P, undE (E.take k) θ = P := ⟨_, rfl⟩
        rw [hP] at hU hPl HT
        have HSB : ∀ W, Below g w W → W.cell? ⟨b, 2, none⟩ = some (.slice a E.length cap) ∧ W.cell? (A k) = some (.int .i64 (eAt E k).u) ∧ W.cell? ⟨(A k).block, (A k).off + 1, none⟩ = some (.int .i64 (eAt E k).v) ∧ W.cell? ⟨(A k).block, (A k).off + 2, none⟩ = some (.int .i64 (eAt E k).w) := fun W hW =>
          ⟨HC.out W hW, ES.u (HE.out.below (hW.mono hBg)) hlt, ES.v (HE.out.below (hW.mono hBg)) hlt, ES.w (HE.out.below (hW.mono hBg)) hlt⟩
        obtain ⟨u, hu⟩ : ∃ u, (eAt E k).u = u := ⟨_, rfl⟩
        obtain ⟨y, hy⟩ : ∃ y, (eAt E k).v = y := ⟨_, rfl⟩
        obtain ⟨x, hx⟩ : ∃ x, (eAt E k).w = x := ⟨_, rfl⟩
        have HEd := Lib.hid (show eAt E k = ⟨u, y, x⟩ by rw [← hu, ← hy, ← hx])
        rw [hu, hy, hx] at HSB
        rw [hx] at e2 d1 HT hc
        rw [hu] at e0; rw [hy] at e1
        have hglt := hU.1.lt
        have hsz : g + 1 ≤ wr.drew.heap.size := hglt
        have owd : wr.drew.ownsRow (g + 1) 57 3 v P.length (flat (edC P) P.length 3) := hU.2
        have cua : wr.drew.cell? ⟨g, 2, none⟩ = some v := hU.1.cell (i := 2) (by omega)
        have bAL : Below g w (wr.alloc (.cells #[.int .i64 u, .int .i64 y, .int .i64 x] 57)).drew := (BW.out.alloc (by have := hglt; omega) _).drew
        have cwa : (wr.alloc (.cells #[.int .i64 u, .int .i64 y, .int .i64 x] 57)).drew.cell? ⟨g, 2, none⟩ = some v := (hU.1.alloc _).cell (i := 2) (by omega)
        have FIN := Lib.hid (fun (ga cpa : Nat) (w5 : World) (h1 : w5.ownsRow (g + 1) 57 3 (.slice (some ⟨ga, 0, none⟩) (P.length + 1 : Nat) cpa) (P.length + 1) (flat (edC P) P.length 3 ++ [.int .i64 u, .int .i64 y, .int .i64 x])) (h2 : wr.drew.grownBy w5 v.ownBlock) =>
          have hne : some g ≠ v.ownBlock := fun e => by have := (owd.lt g e.symm).1; omega
          have hr : Row w5 g 3 (fun i => (#[.bool true, .int .i64 (n : Nat), v] : Array Value).getD i undef) := hU.1.of_block (h2.block g hsz hne)
          have hb5 : Below g w w5 := (BW.out.drew).grown h2 (by omega) (fun j e => by have := (owd.lt j e).1; omega)
          have hb6 : Below g w (w5.setCell ⟨g, 2, none⟩ (.slice (some ⟨ga, 0, none⟩) (P.length + 1 : Nat) cpa)) := hb5.setCell (by show g ≤ g; omega) _
          show (w5.cell? ⟨b, 2, none⟩ = some (.slice a E.length cap) ∧ w5.cell? (A k) = some (.int .i64 u) ∧ w5.cell? ⟨(A k).block, (A k).off + 1, none⟩ = some (.int .i64 y) ∧ w5.cell? ⟨(A k).block, (A k).off + 2, none⟩ = some (.int .i64 x)) ∧ w5.cell? ⟨g, 2, none⟩ = some v ∧ w5.frozen? ⟨g, 2, none⟩ = false ∧ ((w5.setCell ⟨g, 2, none⟩ (.slice (some ⟨ga, 0, none⟩) (P.length + 1 : Nat) cpa)).cell? ⟨b, 2, none⟩ = some (.slice a E.length cap) ∧ (w5.setCell ⟨g, 2, none⟩ (.slice (some ⟨ga, 0, none⟩) (P.length + 1 : Nat) cpa)).cell? (A k) = some (.int .i64 u) ∧ (w5.setCell ⟨g, 2, none⟩ (.slice (some ⟨ga, 0, none⟩) (P.length + 1 : Nat) cpa)).cell? ⟨(A k).block, (A k).off + 1, none⟩ = some (.int .i64 y) ∧ (w5.setCell ⟨g, 2, none⟩ (.slice (some ⟨ga, 0, none⟩) (P.length + 1 : Nat) cpa)).cell? ⟨(A k).block, (A k).off + 2, none⟩ = some (.int .i64 x)) ∧ UnB (w5.setCell ⟨g, 2, none⟩ (.slice (some ⟨ga, 0, none⟩) (P.length + 1 : Nat) cpa)) g n (P ++ [⟨u, y, x⟩]) (.slice (some ⟨ga, 0, none⟩) (P.length + 1 : Nat) cpa) ∧ Below g w (w5.setCell ⟨g, 2, none⟩ (.slice (some ⟨ga, 0, none⟩) (P.length + 1 : Nat) cpa)) from
          ⟨HSB _ hb5, hr.cell (i := 2) (by omega), hr.frozen 2, HSB _ hb6, ⟨(hr.set 2 _).congr fun i hi => by
            match i, hi with
            | 0, _ => rfl
            | 1, _ => rfl
            | 2, _ => rfl
            | m + 3, h => omega, OwnE.snoc (x := ⟨u, y, x⟩) (ownsRow_setCell_below h1 (a := ⟨g, 2, none⟩) (by show g < g + 1; omega) _)⟩, hb6⟩)
        have HS : wr.drew.cell? ⟨b, 2, none⟩ = some (.slice a E.length cap) ∧ wr.drew.cell? (A k) = some (.int .i64 u) ∧ wr.drew.cell? ⟨(A k).block, (A k).off + 1, none⟩ = some (.int .i64 y) ∧ wr.drew.cell? ⟨(A k).block, (A k).off + 2, none⟩ = some (.int .i64 x) := HSB _ BW.out.drew
        have HS1 : (wr.alloc (.cells #[.int .i64 u, .int .i64 y, .int .i64 x] 57)).drew.cell? ⟨b, 2, none⟩ = some (.slice a E.length cap) ∧ (wr.alloc (.cells #[.int .i64 u, .int .i64 y, .int .i64 x] 57)).drew.cell? (A k) = some (.int .i64 u) ∧ (wr.alloc (.cells #[.int .i64 u, .int .i64 y, .int .i64 x] 57)).drew.cell? ⟨(A k).block, (A k).off + 1, none⟩ = some (.int .i64 y) ∧ (wr.alloc (.cells #[.int .i64 u, .int .i64 y, .int .i64 x] 57)).drew.cell? ⟨(A k).block, (A k).off + 2, none⟩ = some (.int .i64 x) := HSB _ bAL
        clear hU HU hP hu hy hx HSB bAL
        go_wp2_with fail
        refine region_plain (fun w' => w'.cell? ⟨b, 2, none⟩ = some (.slice a E.length cap) ∧ w'.cell? (A k) = some (.int .i64 u) ∧ w'.cell? ⟨(A k).block, (A k).off + 1, none⟩ = some (.int .i64 y) ∧ w'.cell? ⟨(A k).block, (A k).off + 2, none⟩ = some (.int .i64 x)) (by kernel_rfl) ?_
        refine take_at (i := 0) (d := 35) (v := ?_) rfl rfl (by kernel_rfl) (by kernel_rfl) (by kernel_rfl) (fun _ _ _ _ => NormalOnly.any) rfl ?hy1 HS ?rest1
        case hy1 => intro w' hSw; (try dsimp only at hSw); go_simp; try (with_reducible rfl)
        try simp only [List.setIfInBounds_toArray, List.set_cons_zero, List.set_cons_succ]
        refine take_at (i := 1) (d := 36) (v := ?_) rfl rfl (by kernel_rfl) (by kernel_rfl) (by kernel_rfl) (fun _ _ _ _ => NormalOnly.any) rfl ?hy2 HS ?rest2
        case hy2 => intro w' hSw; (try dsimp only at hSw); go_simp; try (with_reducible rfl)
        try simp only [List.setIfInBounds_toArray, List.set_cons_zero, List.set_cons_succ]
        refine take_at (i := 2) (d := 37) (v := ?_) rfl rfl (by kernel_rfl) (by kernel_rfl) (by kernel_rfl) (fun _ _ _ _ => NormalOnly.any) rfl ?hy3 HS ?rest3
        case hy3 => intro w' hSw; (try dsimp only at hSw); go_simp; try (with_reducible rfl)
        try simp only [List.setIfInBounds_toArray, List.set_cons_zero, List.set_cons_succ]
        refine take_at (i := 3) (d := 38) (v := ?_) rfl rfl (by kernel_rfl) (by kernel_rfl) (by kernel_rfl) (fun _ _ _ _ => NormalOnly.any) rfl ?hy4 HS ?rest4
        case hy4 => intro w' hSw; (try dsimp only at hSw); go_simp; try (with_reducible rfl)
        try simp only [List.setIfInBounds_toArray, List.set_cons_zero, List.set_cons_succ]
        refine take_at (i := 5) (d := 40) (v := ?_) rfl rfl (by kernel_rfl) (by kernel_rfl) (by kernel_rfl) (fun _ _ _ _ => NormalOnly.any) rfl ?hy5 HS ?rest5
        case hy5 => intro w' hSw; (try dsimp only at hSw); go_simp; try (with_reducible rfl)
        try simp only [List.setIfInBounds_toArray, List.set_cons_zero, List.set_cons_succ]
        refine take_at (i := 6) (d := 41) (v := ?_) rfl rfl (by kernel_rfl) (by kernel_rfl) (by kernel_rfl) (fun _ _ _ _ => NormalOnly.any) rfl ?hy6 HS ?rest6
        case hy6 => intro w' hSw; (try dsimp only at hSw); go_simp; try (with_reducible rfl)
        try simp only [List.setIfInBounds_toArray, List.set_cons_zero, List.set_cons_succ]
        refine take_at (i := 7) (d := 42) (v := ?_) rfl rfl (by kernel_rfl) (by kernel_rfl) (by kernel_rfl) (fun _ _ _ _ => NormalOnly.any) rfl ?hy7 HS ?rest7
        case hy7 => intro w' hSw; (try dsimp only at hSw); go_simp; try (with_reducible rfl)
        try simp only [List.setIfInBounds_toArray, List.set_cons_zero, List.set_cons_succ]
        refine take_at (i := 8) (d := 43) (v := ?_) rfl rfl (by kernel_rfl) (by kernel_rfl) (by kernel_rfl) (fun _ _ _ _ => NormalOnly.any) rfl ?hy8 HS ?rest8
        case hy8 => intro w' hSw; (try dsimp only at hSw); go_simp; try (with_reducible rfl)
        try simp only [List.setIfInBounds_toArray, List.set_cons_zero, List.set_cons_succ]
        refine take_at (i := 9) (d := 44) (v := ?_) rfl rfl (by kernel_rfl) (by kernel_rfl) (by kernel_rfl) (fun _ _ _ _ => NormalOnly.any) rfl ?hy9 HS ?rest9
        case hy9 => intro w' hSw; (try dsimp only at hSw); go_simp; try (with_reducible rfl)
        try simp only [List.setIfInBounds_toArray, List.set_cons_zero, List.set_cons_succ]
        refine take_at (i := 10) (d := 45) (v := ?_) rfl rfl (by kernel_rfl) (by kernel_rfl) (by kernel_rfl) (fun _ _ _ _ => NormalOnly.any) rfl ?hy10 HS ?rest10
        case hy10 => intro w' hSw; (try dsimp only at hSw); go_simp; try (with_reducible rfl)
        try simp only [List.setIfInBounds_toArray, List.set_cons_zero, List.set_cons_succ]
        refine take_at (i := 11) (d := 46) (v := ?_) rfl rfl (by kernel_rfl) (by kernel_rfl) (by kernel_rfl) (fun _ _ _ _ => NormalOnly.any) rfl ?hy11 HS ?rest11
        case hy11 => intro w' hSw; (try dsimp only at hSw); go_simp; try (with_reducible rfl)
        try simp only [List.setIfInBounds_toArray, List.set_cons_zero, List.set_cons_succ]
        refine wpAnyH_ready (rs := [4, 12]) (by kernel_rfl) (by simp) ?_
        refine AllReadyH.cons rfl (fun K hK => ?_) (AllReadyH.cons rfl (fun K hK => ?_) AllReadyH.nil)
        · go_simp
          refine hK.out _ _ HS (fun _ => ?_)
          clear hK
          refine wpAnyH_ready (rs := [12]) (by kernel_rfl) (by simp) ?_
          refine AllReadyH.cons rfl (fun K hK => ?_) AllReadyH.nil
          go_simp
          refine hK.out _ _ HS1 (fun _ => ?_)
          clear hK
          refine wpAnyH_ready (rs := [13]) (by kernel_rfl) (by simp) ?_
          refine AllReadyH.cons rfl (fun K hK => ?_) AllReadyH.nil
          refine step_pushM (w0 := wr.drew) rfl etE rfl _ _ rfl (g + 1) v P.length _ owd rfl #[.int .i64 u, .int .i64 y, .int .i64 x] _ rfl rfl rfl (by simp [Value.oneCell']) (by omega) (by omega) hsz ?_
          intro ga cpa w5 hown hgr hmv
          obtain ⟨HS, c5, f5, HS6, HU6, BW6⟩ := FIN.out ga cpa w5 hown hgr
          have HU6 := Lib.hid HU6; have BW6 := Lib.hid BW6
          clear hown hgr hmv FIN HS1 cwa cua owd
          simp only [Act.put, List.setIfInBounds_toArray]
          refine hK.out _ _ HS (fun _ => ?_)
          clear hK
          refine take_at (i := 14) (d := 49) (v := ?_) rfl rfl (by kernel_rfl) (by kernel_rfl) (by kernel_rfl) (fun _ _ _ _ => NormalOnly.any) rfl ?hy12 HS ?rest12
          case hy12 => intro w' hSw; (try dsimp only at hSw); go_simp; try (with_reducible rfl)
          try simp only [List.setIfInBounds_toArray, List.set_cons_zero, List.set_cons_succ]
          refine take_at (i := 15) (d := 50) (v := ?_) rfl rfl (by kernel_rfl) (by kernel_rfl) (by kernel_rfl) (fun _ _ _ _ => NormalOnly.any) rfl ?hy13 HS ?rest13
          case hy13 => intro w' hSw; (try dsimp only at hSw); go_simp; try (with_reducible rfl)
          try simp only [List.setIfInBounds_toArray, List.set_cons_zero, List.set_cons_succ]
          refine wpAnyH_ready (rs := [16]) (by kernel_rfl) (by simp) ?_
          refine AllReadyH.cons rfl (fun K hK => ?_) AllReadyH.nil
          go_simp
          refine hK.out _ _ HS6 (fun _ => ?_)
          clear hK
          refine wpAnyH_done (by kernel_rfl) ⟨rfl, ?_⟩ _
          clear HS HS6 c5 f5
          generalize w5.setCell ⟨g, 2, none⟩ (.slice (some ⟨ga, 0, none⟩) (P.length + 1 : Nat) cpa) = wm at *
          go_wp2_with fail
          go_roundw
          case rel =>
            refine ⟨k + 1, by omega, by go_num, ?_, BW6⟩
            rw [HT.out, d1, if_pos rfl, HEd.out]; exact Lib.hid ⟨_, HU6.out⟩
          case measure => simp only [intOf]; omega
        · go_simp
          refine hK.out _ _ HS1 (fun _ => ?_)
          clear hK
          refine wpAnyH_ready (rs := [4]) (by kernel_rfl) (by simp) ?_
          refine AllReadyH.cons rfl (fun K hK => ?_) AllReadyH.nil
          go_simp
          refine hK.out _ _ HS1 (fun _ => ?_)
          clear hK
          refine wpAnyH_ready (rs := [13]) (by kernel_rfl) (by simp) ?_
          refine AllReadyH.cons rfl (fun K hK => ?_) AllReadyH.nil
          refine step_pushM (w0 := wr.drew) rfl etE rfl _ _ rfl (g + 1) v P.length _ owd rfl #[.int .i64 u, .int .i64 y, .int .i64 x] _ rfl rfl rfl (by simp [Value.oneCell']) (by omega) (by omega) hsz ?_
          intro ga cpa w5 hown hgr hmv
          obtain ⟨HS, c5, f5, HS6, HU6, BW6⟩ := FIN.out ga cpa w5 hown hgr
          have HU6 := Lib.hid HU6; have BW6 := Lib.hid BW6
          clear hown hgr hmv FIN HS1 cwa cua owd
          simp only [Act.put, List.setIfInBounds_toArray]
          refine hK.out _ _ HS (fun _ => ?_)
          clear hK
          refine take_at (i := 14) (d := 49) (v := ?_) rfl rfl (by kernel_rfl) (by kernel_rfl) (by kernel_rfl) (fun _ _ _ _ => NormalOnly.any) rfl ?hy14 HS ?rest14
          case hy14 => intro w' hSw; (try dsimp only at hSw); go_simp; try (with_reducible rfl)
          try simp only [List.setIfInBounds_toArray, List.set_cons_zero, List.set_cons_succ]
          refine take_at (i := 15) (d := 50) (v := ?_) rfl rfl (by kernel_rfl) (by kernel_rfl) (by kernel_rfl) (fun _ _ _ _ => NormalOnly.any) rfl ?hy15 HS ?rest15
          case hy15 => intro w' hSw; (try dsimp only at hSw); go_simp; try (with_reducible rfl)
          try simp only [List.setIfInBounds_toArray, List.set_cons_zero, List.set_cons_succ]
          refine wpAnyH_ready (rs := [16]) (by kernel_rfl) (by simp) ?_
          refine AllReadyH.cons rfl (fun K hK => ?_) AllReadyH.nil
          go_simp
          refine hK.out _ _ HS6 (fun _ => ?_)
          clear hK
          refine wpAnyH_done (by kernel_rfl) ⟨rfl, ?_⟩ _
          clear HS HS6 c5 f5
          generalize w5.setCell ⟨g, 2, none⟩ (.slice (some ⟨ga, 0, none⟩) (P.length + 1 : Nat) cpa) = wm at *
          go_wp2_with fail
          go_roundw
          case rel =>
            refine ⟨k + 1, by omega, by go_num, ?_, BW6⟩
            rw [HT.out, d1, if_pos rfl, HEd.out]; exact Lib.hid ⟨_, HU6.out⟩
          case measure => simp only [intOf]; omega
      · have d1 : decide ((eAt E k).w ≤ θ) = false := decide_eq_false hc
        go_wp2_with fail
        go_roundw
        case rel =>
          refine ⟨k + 1, by omega, by go_num, ?_, BW⟩
          rw [HT.out, d1, if_neg (by simp)]; exact HU
        case measure => simp only [intOf]; omega
    · have hkn : k = E.length := by omega
      obtain ⟨v, hU⟩ := HU.out
      rw [hkn, List.take_length] at hU
      have HF := Lib.hid (hU.at HG.out)
      clear hU HU
      go_wp2_with fail
      go_ret
      exact ⟨g, rfl, HF.out, hg ▸ BW.out⟩
end Go.Proofs.YtibdggbejogciaaGreat

/- The walk of Components of the document's graph. Conditions: New has made the graph. -/
namespace Go.Proofs.YtibdggbejogciaaGreat
open Go.RowKit

theorem Tryz.infoCm : (Tryz.prog.info? 37).map (fun i => (i.zero, i.size, i.bytes)) = some (some (.slice none 0 0), 1, 24) := by kernel_rfl
theorem etCm : ET 78 37 1 24 := ET.of Tryz.underlying78 Tryz.infoCm rfl (by decide)
/-- rows of the members of each label, as Components lays them -/
def CmAt (base : Nat) (n : Nat) (f : Nat → Nat) (l : List Nat) (v : Value) (w : World) : Prop :=
  ∃ RV : Nat → Value, w.ownsRow base 37 1 v l.length (l.map RV) ∧ ∀ a, a ∈ l → OwnI base (RV a) (lvs n f a) w
theorem CmAt.below {base n : Nat} {f : Nat → Nat} {l : List Nat} {v : Value} {w w' : World} (h : CmAt base n f l v w) (hb : Below w.heap.size w w') : CmAt base n f l v w' := by
  obtain ⟨RV, h1, h2⟩ := h
  exact ⟨RV, ownsRow_below h1 hb, fun a ha => ownsRow_below (h2 a ha) hb⟩
theorem own_ne {w : World} {b1 b2 s1 s2 n1 n2 : Nat} {e1 e2 : TypeId} {v1 v2 : Value} {x1 x2 : List Value} (h1 : w.ownsRow b1 e1 s1 v1 n1 x1) (h2 : w.ownsRow b2 e2 s2 v2 n2 x2) (he : e1 ≠ e2) : v1.ownBlock = none ∨ v1.ownBlock ≠ v2.ownBlock := by
  rcases h1.2 with ⟨h, _⟩ | ⟨g1, c1, cur1, h, _, k1, _⟩
  · exact .inl (by rw [h]; rfl)
  · rcases h2.2 with ⟨h', _⟩ | ⟨g2, c2, cur2, h', _, k2, _⟩
    · exact .inr (by rw [h, h']; intro c; cases c)
    · refine .inr fun c => ?_
      rw [h, h'] at c
      have c : g1 = g2 := Option.some.inj c
      rw [c, k2] at k1
      simp at k1
      exact he k1.2.symm
theorem lvs_start {f : Nat → Nat} (K : LabOk f) (i : Nat) : lvs i f i = [] := by
  unfold lvs
  rw [List.filter_eq_nil_iff]
  intro x hx c
  have h1 := List.mem_range.1 hx
  have h2 := of_decide_eq_true c
  have h3 := K.le x
  omega
theorem lbL_lt {f : Nat → Nat} {i a : Nat} (h : a ∈ lbL f i) : a < i := List.mem_range.1 (List.mem_filter.1 h).1
/-- what Components answers -/
def CmRes (n : Nat) (f : Nat → Nat) (w : World) (e : Ending) (w' : World) : Prop := ∃ v, e = .returned v ∧ CmAt w.heap.size n f (lbL f n) v w' ∧ Below w.heap.size w w'
set_option maxRecDepth 100000 in
set_option maxHeartbeats 4000000 in
theorem rcomps_any (B b n : Nat) (E : List Ed) (w : World) (hR : RAt w B b n E) (hB : B ≤ w.heap.size) :
    Calls Tryz.prog 40 #[.pointer (some ⟨b, 0, none⟩)] w (CmRes n (labO E (List.range E.length)) w) := by
  have HL := Lib.hid (rlabels_any B b n E w hR hB)
  have hn := hR.ok.n_le
  clear hR
  have hne : 3 ≠ 37 := by decide
  obtain ⟨f, hf⟩ : ∃ f, labO E (List.range E.length) = f := ⟨_, rfl⟩
  have HK : Hid (LabOk f) := Lib.hid (by rw [← hf]; exact labO_ok _ _)
  unfold RLabRes at HL
  rw [hf] at HL ⊢
  clear hf
  go_enter Tryz.func40, Tryz.ntmps40
  go_wp2_with fail
  refine HL.out.mono ?_
  rintro e w2 ⟨v, rfl, hl, b2⟩
  obtain ⟨la, lc, LA, rfl, hLA⟩ := hl.rd
  have HLA := Lib.hid hLA; have B2 := Lib.hid b2
  have hs2 := b2.size
  clear hl hLA b2 HL
  go_wp2_with fail
  go_loopw [4, 5] (fun ov iv wr => ∃ i : Nat, i ≤ n ∧ iv = .int .i64 (i : Nat) ∧ Hid (CmAt w2.heap.size n f (lbL f i) ov wr) ∧ Hid (Below w2.heap.size w2 wr)) (fun _ iv _ => n - (intOf iv).toNat)
  case atStart => exact ⟨0, Nat.zero_le _, rfl, Lib.hid ⟨fun _ => .slice none 0 0, World.ownsRow_nil _ _ _ _, fun a ha => by cases ha⟩, Lib.hid (Below.refl _ _)⟩
  case round =>
    obtain ⟨i, hi, rfl, HC, BW⟩ := hrel
    obtain ⟨wo, hwo⟩ : ∃ x, x = wr := ⟨_, rfl⟩
    rw [← hwo] at HC BW ⊢
    clear hwo
    by_cases hlt : i < n
    · have ixi := HLA.out.ix i hlt
      have li := lab_cell (HLA.out.below BW.out) hlt
      have HLs := Lib.hid (lbL_succ f i)
      by_cases hc : f i = i
      · rw [hc] at li
        have k1 : ((i : Int) != (i : Int)) = false := by simp
        have HCi := Lib.hid hc
        have hbs := BW.out.size
        go_wp2_with fail
        go_loopw [6, 7] (fun ov jv wj => ∃ j : Nat, i ≤ j ∧ j ≤ n ∧ jv = .int .i64 (j : Nat) ∧ Hid (OwnI wo.heap.size ov (lvs j f i) wj) ∧ Hid (Below wo.heap.size wo wj)) (fun _ jv _ => n - (intOf jv).toNat)
        case atStart => exact ⟨i, Nat.le_refl _, by omega, rfl, Lib.hid (by rw [lvs_start HK.out]; exact World.ownsRow_nil _ _ _ _), Lib.hid (Below.refl _ _)⟩
        case round =>
          obtain ⟨j, hij, hj, rfl, HO, BJ⟩ := hrel
          have bj5 := BJ.out.size
          by_cases hjn : j < n
          · have hLj := HLA.out.below (BW.out.trans (BJ.out.mono hbs))
            have ixj := HLA.out.ix j hjn
            have lj := lab_cell hLj hjn
            clear hLj ixi li
            by_cases hc2 : f j = i
            · rw [hc2] at lj
              have k2 : ((i : Int) == (i : Int)) = true := by simp
              have HY := Lib.hid (lvs_yes hc2)
              have hown := HO.out
              have hln : (lvs j f i).length ≤ j := lvs_len
              unfold OwnI at hown
              clear hc2
              go_wp2_with (at_builtin; refine push etI rfl _ _ rfl wo.heap.size _ _ _ hown rfl #[.int .i64 (j : Nat)] _ rfl rfl rfl (by simp [Value.oneCell']) (by omega) (by omega) bj5 ?_; intro g cp w5 hown5 hg5 hv5)
              have hb5 : Below wo.heap.size wo w5 := BJ.out.grown hg5 bj5 (fun q e => (hown.lt q e).1)
              go_roundw
              case rel => exact ⟨j + 1, by omega, by omega, by go_num, by rw [HY.out]; exact Lib.hid (ownI_snoc hown5), Lib.hid hb5⟩
              case measure => simp only [intOf]; omega
            · have k2 : ((f j : Int) == (i : Int)) = false := by rw [beq_eq_false_iff_ne]; omega
              have k2' : (f j == i) = false := by simpa using hc2
              have HY := Lib.hid (lvs_no (lab := f) hc2)
              clear hc2
              go_wp2_with fail
              go_roundw
              case rel => exact ⟨j + 1, by omega, by omega, by go_num, by rw [HY.out]; exact HO, BJ⟩
              case measure => simp only [intOf]; omega
          · have hjn2 : j = n := by omega
            subst hjn2
            have hO := HO.out
            obtain ⟨oa, oc, OA, e6, _⟩ := ownI_rd hO
            obtain ⟨RV, h1, h2⟩ := HC.out.below BJ.out
            have hll : (lbL f i).length ≤ i := by rw [lbL_len]; exact cntN_le i f
            have hsw : w2.heap.size ≤ wr.heap.size := Nat.le_trans hbs bj5
            obtain ⟨m, hm⟩ : ∃ m, (lvs j f i).length = m := ⟨_, rfl⟩
            rw [hm] at e6
            have H1 := Lib.hid h1; have H2 := Lib.hid h2; have HO2 := Lib.hid hO
            subst e6
            have B6 := Lib.hid (BW.out.trans (BJ.out.mono hbs))
            clear h1 h2 hO HO HC ixi li hm
            go_wp2_with (at_builtin; refine push etCm rfl _ _ rfl w2.heap.size _ _ _ H1.out rfl #[.slice oa (m : Nat) oc] _ rfl rfl rfl (by simp [Value.oneCell']) (by omega) (by omega) hsw ?_; intro g cp w5 hown5 hg5 hv5)
            have hb5 : Below w2.heap.size w2 w5 := B6.out.grown hg5 hsw (fun q e => (H1.out.lt q e).1)
            have hone : OwnI w2.heap.size (.slice oa (m : Nat) oc) (lvs j f i) w5 := own_lower (HO2.out.kept hg5 (own_ne HO2.out H1.out hne)) hbs
            have hold : ∀ a, a ∈ lbL f i → OwnI w2.heap.size (RV a) (lvs j f a) w5 := fun a ha => (H2.out a ha).kept hg5 (own_ne (H2.out a ha) H1.out hne)
            have hC5 : CmAt w2.heap.size j f (lbL f i ++ [i]) (.slice (some ⟨g, 0, none⟩) ((lbL f i).length + 1 : Nat) cp) w5 := by
              refine ⟨fun a => if a = i then .slice oa (m : Nat) oc else RV a, ?_, fun a ha => ?_⟩
              · have e1 : (lbL f i ++ [i]).map (fun a => if a = i then Value.slice oa (m : Nat) oc else RV a) = (lbL f i).map RV ++ [.slice oa (m : Nat) oc] := by
                  rw [List.map_append, List.map_cons, List.map_nil, if_pos rfl, List.map_congr_left fun a ha => if_neg (by have := lbL_lt ha; omega)]
                rw [e1, List.length_append]
                exact hown5
              · by_cases h0 : a = i
                · dsimp only; rw [if_pos h0, h0]; exact hone
                · dsimp only; rw [if_neg h0]
                  rcases List.mem_append.1 ha with h3 | h3
                  · exact hold a h3
                  · exact absurd (List.mem_singleton.1 h3) h0
            go_roundw
            case rel => exact ⟨i + 1, by omega, by go_num, by rw [HLs.out, if_pos HCi.out]; exact Lib.hid hC5, Lib.hid hb5⟩
            case measure => simp only [intOf]; omega
      · have k1 : ((f i : Int) != (i : Int)) = true := by rw [bne_iff_ne]; omega
        have HCi := Lib.hid hc
        clear hc
        go_wp2_with fail
        go_roundw
        case rel => exact ⟨i + 1, by omega, by go_num, by rw [HLs.out, if_neg HCi.out]; exact HC, BW⟩
        case measure => simp only [intOf]; omega
    · have hin : i = n := by omega
      subst hin
      go_wp2_with fail
      go_ret
      obtain ⟨RV, h1, h2⟩ := HC.out
      exact ⟨_, rfl, ⟨RV, own_lower h1 hs2, fun a ha => own_lower (h2 a ha) hs2⟩, B2.out.trans (BW.out.mono hs2)⟩
end Go.Proofs.YtibdggbejogciaaGreat

/- The document's view: how it lies in memory, New, valid, Labels; Has of the document's graph. No conditions. -/
namespace Go.Proofs.YtibdggbejogciaaGreat
open Go.RowKit

/-- the document's view at an address -/
structure RwAt (w : World) (B vb n : Nat) (E : List Ed) : Prop where
  lt : vb < B
  ex : ∃ gb : Nat, w.cell? ⟨vb, 0, none⟩ = some (.bool true) ∧ w.cell? ⟨vb, 1, none⟩ = some (.pointer (some ⟨gb, 0, none⟩)) ∧ RAt w B gb n E
section
variable {w w' : World} {B B' vb n : Nat} {E : List Ed}
theorem RwAt.below (h : RwAt w B vb n E) (hb : Below B w w') : RwAt w' B vb n E := by
  obtain ⟨gb, h1, h2, h3⟩ := h.ex
  exact ⟨h.lt, gb, (hb.cell h.lt).trans h1, (hb.cell h.lt).trans h2, h3.below hb⟩
theorem RwAt.mono (h : RwAt w B vb n E) (hB : B ≤ B') : RwAt w B' vb n E := by
  obtain ⟨gb, h1, h2, h3⟩ := h.ex
  exact ⟨Nat.lt_of_lt_of_le h.lt hB, gb, h1, h2, h3.mono hB⟩
theorem RwAt.at (h : RwAt w w.heap.size vb n E) {w1 : World} (hb : Below w.heap.size w w1) : RwAt w1 w1.heap.size vb n E := (h.below hb).mono hb.size
theorem RwAt.ok (h : RwAt w B vb n E) : GOk n E := by
  obtain ⟨gb, _, _, h3⟩ := h.ex; exact h3.ok
end
/-- what New answers -/
def RwRes (n : Int) (E : List Ed) (w : World) (e : Ending) (w' : World) : Prop :=
  Below w.heap.size w w' ∧ ((gErr n E ≠ 0 ∧ e = .returned (.tuple #[.pointer none, .int .i64 (gErr n E)])) ∨
    (∃ k vb : Nat, n = k ∧ GOk k E ∧ e = .returned (.tuple #[.pointer (some ⟨vb, 0, none⟩), .int .i64 0]) ∧ RwAt w' w'.heap.size vb k E))
set_option maxRecDepth 100000 in
set_option maxHeartbeats 1000000 in
theorem rwnew_any (B : Nat) (a : Option Addr) (cap : Nat) (A : Nat → Addr) (n : Int) (E : List Ed) (w : World) (hS : ES w B (.slice a E.length cap) E A) (hB : B ≤ w.heap.size) (hm : E.length ≤ 9223372036854775807) :
    Calls Tryz.prog 28 #[.int .i64 n, .slice a E.length cap] w (RwRes n E w) := by
  have HM := Lib.hid (rnew_any B a cap A n E w hS hB hm)
  clear hS hm
  go_enter Tryz.func28, Tryz.ntmps28
  go_wp2_with fail
  refine HM.out.mono ?_
  rintro e w1 ⟨v, rfl, hv, b1⟩
  clear HM
  by_cases h0 : gErr n E = 0
  · obtain ⟨k, h1, h2⟩ := gErr_zero h0
    subst h1
    rw [gO_some h2] at hv
    obtain ⟨gb, rfl, hg⟩ := hv
    rw [h0]
    have HG := Lib.hid hg; have B1 := Lib.hid b1; have H2 := Lib.hid h2
    clear hg b1 h0 h2
    go_wp2_with fail
    go_ret2
    have hA : Below w1.heap.size w1 (w1.alloc (.cells #[.bool true, .pointer (some ⟨gb, 0, none⟩)] 68)) := (Below.refl _ _).alloc (Nat.le_refl _) _
    have r : Row (w1.alloc (.cells #[.bool true, .pointer (some ⟨gb, 0, none⟩)] 68)) w1.heap.size 2 (fun i => (#[Value.bool true, .pointer (some ⟨gb, 0, none⟩)] : Array Value).getD i undef) := Row.lit w1 _ _ (by simp) fun i hi => by
      match i, hi with
      | 0, _ => rfl
      | 1, _ => rfl
      | n + 2, h => omega
    exact ⟨B1.out.trans (hA.mono B1.out.size), .inr ⟨k, w1.heap.size, rfl, H2.out, rfl, ⟨by simp, gb, r.cell (i := 0) (by omega), r.cell (i := 1) (by omega), (HG.out.below hA).mono hA.size⟩⟩⟩
  · rw [gO_none h0] at hv
    obtain rfl : v = .pointer none := hv
    have k1 : ((gErr n E) != 0) = true := by simpa using h0
    obtain ⟨x, hx⟩ : ∃ x, gErr n E = x := ⟨_, rfl⟩
    have HX := Lib.hid hx; have H0 := Lib.hid h0; have B1 := Lib.hid b1
    rw [hx] at k1 ⊢
    clear hx h0 b1
    go_wp2_with fail
    go_ret2
    exact ⟨B1.out, .inl ⟨H0.out, by rw [HX.out]; rfl⟩⟩
section
variable {vb n : Nat} {E : List Ed} {w : World}
set_option maxRecDepth 100000 in
theorem rwvalid_yes {B : Nat} (h : RwAt w B vb n E) : Calls Tryz.prog 32 #[.pointer (some ⟨vb, 0, none⟩)] w fun e w' => e = .returned (.bool true) ∧ w = w' := by
  obtain ⟨gb, c0, _, _⟩ := h.ex
  clear h
  go_enter Tryz.func32, Tryz.ntmps32
  go_wp2_with fail
  go_ret
  exact ⟨rfl, rfl⟩
set_option maxRecDepth 100000 in
theorem rwvalid_no (w : World) : Calls Tryz.prog 32 #[.pointer none] w fun e w' => e = .returned (.bool false) ∧ w = w' := by
  go_enter Tryz.func32, Tryz.ntmps32
  go_wp2_with fail
  go_ret
  exact ⟨rfl, rfl⟩
set_option maxRecDepth 100000 in
set_option maxHeartbeats 1000000 in
theorem rwlabels_any (θ : Int) (h : RwAt w w.heap.size vb n E) : Calls Tryz.prog 23 #[.pointer (some ⟨vb, 0, none⟩), .int .i64 θ] w fun e w' => ∃ v, e = .returned v ∧ LabO w.heap.size v n (lbW E θ) w' ∧ Below w.heap.size w w' := by
  have HV := Lib.hid (rwvalid_yes h)
  obtain ⟨gb, c0, c1, hg⟩ := h.ex
  have HU := Lib.hid (runder_any w.heap.size gb n E θ w hg (Nat.le_refl _))
  clear h hg
  go_enter Tryz.func23, Tryz.ntmps23
  go_wp2_with fail
  refine HV.out.mono ?_
  rintro e w' ⟨rfl, rfl⟩
  go_wp2_with fail
  refine HU.out.mono ?_
  rintro e w1 ⟨ub, rfl, hu, b1⟩
  have HU1 := Lib.hid hu; have B1 := Lib.hid b1
  clear hu b1 HU HV c0 c1
  go_wp2_with fail
  refine (rlabels_any w1.heap.size ub n (undE E θ) w1 HU1.out (Nat.le_refl _)).mono ?_
  rintro e w2 ⟨v, rfl, hl, b2⟩
  rw [undE_lab] at hl
  have HL := Lib.hid hl; have B2 := Lib.hid b2
  clear hl b2
  go_wp2_with fail
  go_ret
  exact ⟨v, rfl, own_lower HL.out B1.out.size, B1.out.trans (B2.out.mono B1.out.size)⟩
set_option maxRecDepth 100000 in
set_option maxHeartbeats 1000000 in
theorem rwlabels_no (θ : Int) : Calls Tryz.prog 23 #[.pointer none, .int .i64 θ] w fun e w' => e = .returned (.slice none 0 0) ∧ w = w' := by
  have HV := Lib.hid (rwvalid_no w)
  go_enter Tryz.func23, Tryz.ntmps23
  go_wp2_with fail
  refine HV.out.mono ?_
  rintro e w' ⟨rfl, rfl⟩
  go_wp2_with fail
  go_ret
  exact ⟨rfl, rfl⟩
end
set_option maxRecDepth 100000 in
set_option maxHeartbeats 1000000 in
theorem rhas_is (B b n : Nat) (E : List Ed) (u : Int) (w : World) (hR : RAt w B b n E) (x : Bool) (hx : decide (0 ≤ u ∧ u < n) = x) :
    Calls Tryz.prog 36 #[.pointer (some ⟨b, 0, none⟩), .int .i64 u] w fun e w' => e = .returned (.bool x) ∧ w = w' := by
  have HV := Lib.hid (rvalid_is (x := true) (o := some (n, E)) rfl (show RG w B (.pointer (some ⟨b, 0, none⟩)) (some (n, E)) from ⟨b, rfl, hR⟩))
  have c1 := hR.num
  clear hR
  by_cases h0 : 0 ≤ u
  · have d0 : decide (u ≥ 0) = true := decide_eq_true h0
    have d0' : decide (0 ≤ u) = true := decide_eq_true h0
    have d1 : decide (u < (n : Int)) = x := by rw [← hx]; simp [h0]
    clear hx
    go_enter Tryz.func36, Tryz.ntmps36
    go_wp2_with fail
    refine HV.out.mono ?_
    rintro e w ⟨rfl, rfl⟩
    go_wp2_with fail
    go_ret
    exact ⟨rfl, rfl⟩
  · have d0 : decide (u ≥ 0) = false := decide_eq_false h0
    have d0' : decide (0 ≤ u) = false := decide_eq_false h0
    have d1 : x = false := by rw [← hx]; exact decide_eq_false fun c => h0 c.1
    subst d1
    clear hx
    go_enter Tryz.func36, Tryz.ntmps36
    go_wp2_with fail
    refine HV.out.mono ?_
    rintro e w ⟨rfl, rfl⟩
    go_wp2_with fail
    go_ret
    exact ⟨rfl, rfl⟩
end Go.Proofs.YtibdggbejogciaaGreat

/- The document's view: Members and Of. No conditions. -/
namespace Go.Proofs.YtibdggbejogciaaGreat
open Go.RowKit

section
variable {vb n : Nat} {E : List Ed} {w : World}
set_option maxRecDepth 100000 in
set_option maxHeartbeats 1000000 in
theorem rwmembers_out (u θ : Int) (h : RwAt w w.heap.size vb n E) (hu : ¬ (0 ≤ u ∧ u < n)) : Calls Tryz.prog 15 #[.pointer (some ⟨vb, 0, none⟩), .int .i64 u, .int .i64 θ] w fun e w' => e = .returned (.tuple #[.slice none 0 0, .int .i64 3]) ∧ w = w' := by
  have HV := Lib.hid (rwvalid_yes h)
  obtain ⟨gb, c0, c1, hg⟩ := h.ex
  have HH := Lib.hid (rhas_is w.heap.size gb n E u w hg false (decide_eq_false hu))
  clear h hg hu
  go_enter Tryz.func15, Tryz.ntmps15
  go_wp2_with fail
  refine HV.out.mono ?_
  rintro e w' ⟨rfl, rfl⟩
  go_wp2_with fail
  refine HH.out.mono ?_
  rintro e w' ⟨rfl, rfl⟩
  go_wp2_with fail
  go_ret2
  exact ⟨rfl, rfl⟩
set_option maxRecDepth 100000 in
set_option maxHeartbeats 1000000 in
theorem rwmembers_no (u θ : Int) : Calls Tryz.prog 15 #[.pointer none, .int .i64 u, .int .i64 θ] w fun e w' => e = .returned (.tuple #[.slice none 0 0, .int .i64 1]) ∧ w = w' := by
  have HV := Lib.hid (rwvalid_no w)
  go_enter Tryz.func15, Tryz.ntmps15
  go_wp2_with fail
  refine HV.out.mono ?_
  rintro e w' ⟨rfl, rfl⟩
  go_wp2_with fail
  go_ret2
  exact ⟨rfl, rfl⟩
set_option maxRecDepth 100000 in
set_option maxHeartbeats 2000000 in
theorem rwmembers_in (u : Nat) (θ : Int) (h : RwAt w w.heap.size vb n E) (hu : u < n) : Calls Tryz.prog 15 #[.pointer (some ⟨vb, 0, none⟩), .int .i64 (u : Nat), .int .i64 θ] w fun e w' => ∃ v, e = .returned (.tuple #[v, .int .i64 0]) ∧ OwnI w.heap.size v (lvs n (lbW E θ) (lbW E θ u)) w' ∧ Below w.heap.size w w' := by
  have HV := Lib.hid (rwvalid_yes h)
  have HLb := Lib.hid (rwlabels_any θ h)
  have hn := h.ok.n_le
  obtain ⟨gb, c0, c1, hg⟩ := h.ex
  have HH := Lib.hid (rhas_is w.heap.size gb n E (u : Nat) w hg true (decide_eq_true (by omega)))
  obtain ⟨f, hf⟩ : ∃ f, lbW E θ = f := ⟨_, rfl⟩
  rw [hf] at HLb ⊢
  obtain ⟨fu, hfu⟩ : ∃ y, f u = y := ⟨_, rfl⟩
  have HFu := Lib.hid hfu
  rw [hfu]
  clear h hg hf hfu
  go_enter Tryz.func15, Tryz.ntmps15
  go_wp2_with fail
  refine HV.out.mono ?_
  rintro e w' ⟨rfl, rfl⟩
  go_wp2_with fail
  refine HH.out.mono ?_
  rintro e w' ⟨rfl, rfl⟩
  go_wp2_with fail
  refine HLb.out.mono ?_
  rintro e w1 ⟨v, rfl, hl, b1⟩
  obtain ⟨la, lc, LA, rfl, hLA⟩ := hl.rd
  have HLA := Lib.hid hLA; have B1 := Lib.hid b1
  have hs1 := b1.size
  clear hl hLA b1 HLb HV HH c0 c1
  go_wp2_with fail
  go_loopw [9, 10] (fun ov iv wr => ∃ i : Nat, i ≤ n ∧ iv = .int .i64 (i : Nat) ∧ Hid (OwnI w1.heap.size ov (lvs i f fu) wr) ∧ Hid (Below w1.heap.size w1 wr)) (fun _ iv _ => n - (intOf iv).toNat)
  case atStart => exact ⟨0, Nat.zero_le _, rfl, Lib.hid (World.ownsRow_nil _ _ _ _), Lib.hid (Below.refl _ _)⟩
  case round =>
    obtain ⟨i, hi, rfl, HO, BW⟩ := hrel
    have hsz := BW.out.size
    by_cases hlt : i < n
    · have hL := HLA.out.below BW.out
      have ixi := HLA.out.ix i hlt
      have ixu := HLA.out.ix u hu
      have li := lab_cell hL hlt
      have lu := lab_cell hL hu
      rw [HFu.out] at lu
      clear hL
      have hln : (lvs i f fu).length ≤ i := lvs_len
      by_cases hc : f i = fu
      · rw [hc] at li
        have k1 : ((fu : Int) == (fu : Int)) = true := by simp
        have HY := Lib.hid (lvs_yes hc)
        have hown : ∀ q, (wr.drewN q).ownsRow w1.heap.size 3 1 u9 (lvs i f fu).length ((intsN (lvs i f fu)).map (Value.int .i64)) := fun q => ownsRow_below HO.out (below_drewN (Below.refl _ _) q)
        have HOW := Lib.hid hown
        have HSz := Lib.hid (show ∀ m, w1.heap.size ≤ (wr.drewN m).heap.size from fun m => hsz)
        clear hc hown
        go_wp2_with fail
        go_quiet (fail)
        go_wp2_with (at_builtin; refine push etI rfl _ _ rfl w1.heap.size _ _ _ (HOW.out _) rfl #[.int .i64 (i : Nat)] _ rfl rfl rfl (by simp [Value.oneCell']) (by omega) (by omega) (HSz.out _) ?_; intro g cp w5 hown5 hg5 hv5)
        have hb5 : Below w1.heap.size w1 w5 := (below_drewN BW.out _).grown hg5 hsz (fun q e => ((HOW.out 0).lt q e).1)
        go_roundw
        case rel => exact ⟨i + 1, by omega, by go_num, by rw [HY.out]; exact Lib.hid (ownI_snoc hown5), Lib.hid hb5⟩
        case measure => simp only [intOf]; omega
      · have k1 : ((f i : Int) == (fu : Int)) = false := by rw [beq_eq_false_iff_ne]; omega
        have HY := Lib.hid (lvs_no (lab := f) hc)
        clear hc
        go_wp2_with fail
        go_quiet (fail)
        go_wp2_with fail
        go_roundw
        case rel => exact ⟨i + 1, by omega, by go_num, by rw [HY.out]; exact Lib.hid (ownsRow_below HO.out (below_drewN (Below.refl _ _) _)), Lib.hid (below_drewN BW.out _)⟩
        case measure => simp only [intOf]; omega
    · have hin : i = n := by omega
      subst hin
      go_wp2_with fail
      go_ret2
      exact ⟨_, rfl, own_lower HO.out hs1, B1.out.trans (BW.out.mono hs1)⟩
theorem lvs_head {f : Nat → Nat} {n u : Nat} (K : LabOk f) (hu : u < n) : ∃ t, lvs n f (f u) = f u :: t := by
  have hm : f u ∈ lvs n f (f u) := List.mem_filter.2 ⟨List.mem_range.2 (Nat.lt_of_le_of_lt (K.le u) hu), decide_eq_true (K.idem u)⟩
  have hp : (lvs n f (f u)).Pairwise (· < ·) := List.Pairwise.filter _ List.pairwise_lt_range
  cases h : lvs n f (f u) with
  | nil => rw [h] at hm; cases hm
  | cons a t =>
    refine ⟨t, ?_⟩
    have ha : a ∈ lvs n f (f u) := by rw [h]; exact List.mem_cons_self
    have h1 := of_decide_eq_true (List.mem_filter.1 ha).2
    have h2 := K.le a
    rw [h] at hm hp
    rcases List.mem_cons.1 hm with h3 | h3
    · rw [← h3]
    · have := (List.pairwise_cons.1 hp).1 _ h3
      omega
theorem lvs_clsN (n : Nat) (f : Nat → Nat) (u : Nat) : (lvs n f (f u)).length = clsN n f u := rfl
end
end Go.Proofs.YtibdggbejogciaaGreat

/- The document's view: Of. No conditions. -/
namespace Go.Proofs.YtibdggbejogciaaGreat
open Go.RowKit

section
variable {vb n : Nat} {E : List Ed} {w : World}
set_option maxRecDepth 100000 in
set_option maxHeartbeats 1000000 in
theorem rwof_in (u : Nat) (θ : Int) (h : RwAt w w.heap.size vb n E) (hu : u < n) : Calls Tryz.prog 13 #[.pointer (some ⟨vb, 0, none⟩), .int .i64 (u : Nat), .int .i64 θ] w fun e w' => e = .returned (.tuple #[.agg (grpV (lbW E θ u) (clsN n (lbW E θ) u)), .int .i64 0]) ∧ Below w.heap.size w w' := by
  have hA : Below w.heap.size w (w.alloc (.cells #[.int .i64 0, .int .i64 0] 33)) := (Below.refl _ _).alloc (Nat.le_refl _) _
  have HM := Lib.hid (rwmembers_in u θ (h.at hA) hu)
  have HA := Lib.hid hA
  have hZ : Row (w.alloc (.cells #[.int .i64 0, .int .i64 0] 33)) w.heap.size 2 (fun _ => .int .i64 0) := Row.lit w _ _ (by simp) (fun i hi => by
    match i, hi with
    | 0, _ => rfl
    | 1, _ => rfl
    | n + 2, h => omega)
  have HZ := Lib.hid hZ
  obtain ⟨t, ht⟩ := lvs_head (labO_ok E ((List.range E.length).filter (leW E θ))) hu
  have ht : lvs n (lbW E θ) (lbW E θ u) = lbW E θ u :: t := ht
  have hcl := lvs_clsN n (lbW E θ) u
  obtain ⟨f, hf⟩ : ∃ f, lbW E θ = f := ⟨_, rfl⟩
  rw [hf] at HM ht hcl ⊢
  obtain ⟨a, ha⟩ : ∃ a, f u = a := ⟨_, rfl⟩
  obtain ⟨s, hs⟩ : ∃ s, clsN n f u = s := ⟨_, rfl⟩
  rw [ha] at HM ht hcl ⊢
  rw [hs] at hcl ⊢
  have HT := Lib.hid ht; have HC := Lib.hid hcl
  have hs0 : 0 < s := by rw [← hcl, ht]; simp
  clear h hA hZ ht hcl hf ha hs
  go_enter Tryz.func13, Tryz.ntmps13
  go_wp2_with fail
  refine HM.out.mono ?_
  clear HM
  rintro e w1 ⟨v, rfl, hm, b1⟩
  obtain ⟨ma, mc, MA, rfl, hR⟩ := ownI_rd hm
  rw [HC.out] at hR ⊢
  have i0 : ∀ w', (Instr.indexAt 37 (.slice ma s mc) (.int .i64 0)).run Tryz.prog w' = .ok (.pointer (some (MA 0))) w' := hR.ix 0 hs0
  have c0 := hR.cell 0 hs0 0 (by omega)
  rw [add_zero] at c0
  unfold nums at c0
  rw [intsN_nth, HT.out] at c0
  have c0 : w1.cell? (MA 0) = some (.int .i64 (a : Nat)) := c0
  have z := HZ.out.below b1 (by simp)
  have z0 := z.cell (i := 0) (by omega)
  have z1 := z.cell (i := 1) (by omega)
  have f0 := z.frozen 0
  have f1 := z.frozen 1
  have hlt : w.heap.size < w1.heap.size := Nat.lt_of_lt_of_le (by simp) b1.size
  have B1 := Lib.hid (HA.out.trans (b1.mono HA.out.size))
  have HZ3 : Hid (Row ((w1.setCell ⟨w.heap.size, 0, none⟩ (.int .i64 (a : Nat))).setCell ⟨w.heap.size, 1, none⟩ (.int .i64 (s : Nat))) w.heap.size 2 (fun i => (grpV a s).getD i undef)) := Lib.hid (((z.set 0 _).set 1 _).congr fun i hi => by
    match i, hi with
    | 0, _ => rfl
    | 1, _ => rfl
    | n + 2, h => omega)
  have B3 : Hid (Below w.heap.size w ((w1.setCell ⟨w.heap.size, 0, none⟩ (.int .i64 (a : Nat))).setCell ⟨w.heap.size, 1, none⟩ (.int .i64 (s : Nat)))) := Lib.hid ((B1.out.setCell (by show w.heap.size ≤ w.heap.size; omega) _).setCell (by show w.heap.size ≤ w.heap.size; omega) _)
  clear hR hm b1 z HA HZ
  go_wp2_with fail
  clear z0 z1 f0 f1 c0
  generalize (w1.setCell ⟨w.heap.size, 0, none⟩ (.int .i64 (a : Nat))).setCell ⟨w.heap.size, 1, none⟩ (.int .i64 (s : Nat)) = w3 at *
  have s0 : w3.cell? ⟨w.heap.size, 0, none⟩ = some (.int .i64 (a : Nat)) := HZ3.out.cell (i := 0) (by omega)
  have s1 : w3.cell? ⟨w.heap.size, 1, none⟩ = some (.int .i64 (s : Nat)) := HZ3.out.cell (i := 1) (by omega)
  refine bodyPost_ret (v := .tuple #[.agg (grpV a s), .int .i64 0]) (by simp [results, Tryz.results13, go_sem, s0, s1, grpV]) rfl ?_
  exact ⟨rfl, B3.out⟩
set_option maxRecDepth 100000 in
set_option maxHeartbeats 1000000 in
theorem rwof_err (v : Value) (u θ x : Int) (hx : x ≠ 0) (h : ∀ w1, Below w.heap.size w w1 → Calls Tryz.prog 15 #[v, .int .i64 u, .int .i64 θ] w1 fun e w' => e = .returned (.tuple #[.slice none 0 0, .int .i64 x]) ∧ w1 = w') :
    Calls Tryz.prog 13 #[v, .int .i64 u, .int .i64 θ] w fun e w' => e = .returned (.tuple #[.agg (grpV 0 0), .int .i64 x]) ∧ Below w.heap.size w w' := by
  have hA : Below w.heap.size w (w.alloc (.cells #[.int .i64 0, .int .i64 0] 33)) := (Below.refl _ _).alloc (Nat.le_refl _) _
  have HM := Lib.hid (h _ hA)
  have HA := Lib.hid hA
  have k1 : (x != 0) = true := by simpa using hx
  clear h hA hx
  go_enter Tryz.func13, Tryz.ntmps13
  go_wp2_with fail
  refine HM.out.mono ?_
  clear HM
  rintro e w1 ⟨rfl, rfl⟩
  go_wp2_with fail
  refine bodyPost_ret (v := .tuple #[.agg (grpV 0 0), .int .i64 x]) (by simp [results, Tryz.results13, go_sem, grpV]) rfl ?_
  exact ⟨rfl, HA.out⟩
end
end Go.Proofs.YtibdggbejogciaaGreat

/- The walks of Row of the document's graph and of its view. No conditions. -/
namespace Go.Proofs.YtibdggbejogciaaGreat
open Go.RowKit

theorem CmAt.rd {base n : Nat} {f : Nat → Nat} {l : List Nat} {v : Value} {w : World} (h : CmAt base n f l v w) : ∃ (a : Option Addr) (cap : Nat) (A : Nat → Addr) (RV : Nat → Value), v = .slice a l.length cap ∧
    Rd 78 1 w w.heap.size (.slice a l.length cap) l.length (fun i _ => RV i) A ∧ ∀ i, i < l.length → OwnI base (RV i) (lvs n f (l.getD i 0)) w := by
  obtain ⟨RV, h1, h2⟩ := h
  have e : l.map RV = flat (fun i _ => RV (l.getD i 0)) l.length 1 := by
    rw [flat_one]
    apply List.ext_getElem
    · simp
    · intro i k1 k2
      have hi : i < l.length := by simpa using k1
      rw [List.getElem_map, List.getElem_map, List.getElem_range]
      simp [List.getD, hi]
  rw [e] at h1
  obtain ⟨a, cap, A, rfl, h3⟩ := Rd.own etCm h1
  refine ⟨a, cap, A, fun i => RV (l.getD i 0), rfl, h3, fun i hi => h2 _ ?_⟩
  rw [List.getD_eq_getElem?_getD, List.getElem?_eq_getElem hi]
  exact List.getElem_mem hi
set_option maxRecDepth 100000 in
set_option maxHeartbeats 4000000 in
theorem rrow_any (B b n : Nat) (E : List Ed) (w : World) (hR : RAt w B b n E) (hB : B ≤ w.heap.size) :
    Calls Tryz.prog 45 #[.pointer (some ⟨b, 0, none⟩)] w (RowRes n (labO E (List.range E.length)) w) := by
  have hA : Below w.heap.size w (w.alloc (.cells #[.int .i64 0, .int .i64 0, .int .i64 0] 48)) := (Below.refl _ _).alloc (Nat.le_refl _) _
  have HC := Lib.hid (rcomps_any B b n E _ (hR.below (hA.mono hB)) (Nat.le_trans hB hA.size))
  have HZ := Lib.hid (rw_row w 0 0 0 48)
  have hn := hR.ok.n_le
  have HA := Lib.hid hA
  obtain ⟨f, hf⟩ : ∃ f, labO E (List.range E.length) = f := ⟨_, rfl⟩
  have HK : Hid (LabOk f) := Lib.hid (by rw [← hf]; exact labO_ok _ _)
  unfold CmRes at HC
  rw [hf] at HC ⊢
  unfold RowRes
  have hcn : cntN n f = (lbL f n).length := (lbL_len f n).symm
  have hlL : (lbL f n).length ≤ n := lbL_le f n
  have hAt : ∀ k, k < (lbL f n).length → f ((lbL f n).getD k 0) = (lbL f n).getD k 0 := fun k hk => (lbL_at hk).2
  obtain ⟨l, hl⟩ : ∃ l, lbL f n = l := ⟨_, rfl⟩
  rw [hl] at HC hcn hlL hAt ⊢
  rw [hcn]
  have HAt := Lib.hid hAt
  obtain ⟨m, hm⟩ : ∃ m, l.length = m := ⟨_, rfl⟩
  have Hm := Lib.hid hm
  rw [hm] at hlL ⊢
  clear hR hA hf hl hcn hAt hm
  go_enter Tryz.func45, Tryz.ntmps45
  go_wp2_with fail
  refine HC.out.mono ?_
  clear HC
  rintro e w2 ⟨v, rfl, hc, b2⟩
  obtain ⟨ca, cc, CA, RV, rfl, hCR, hRV⟩ := hc.rd
  rw [Hm.out] at hCR hRV ⊢
  have HCR := Lib.hid hCR; have HRV := Lib.hid hRV
  have HZ2 := Lib.hid (HZ.out.below b2 (by simp))
  have B2 := Lib.hid (HA.out.trans (b2.mono HA.out.size))
  have hob : w.heap.size < w2.heap.size := Nat.lt_of_lt_of_le (by simp) b2.size
  clear hc hCR hRV b2 HZ HA
  have HR3 := Lib.hid (rw_row w2 0 m 0 48)
  have hb3 : Below w2.heap.size w2 (w2.alloc (.cells #[.int .i64 0, .int .i64 m, .int .i64 0] 48)) := (Below.refl _ _).alloc (Nat.le_refl _) _
  have B3 := Lib.hid hb3
  clear hb3
  go_wp2_with fail
  obtain ⟨rb, hrb⟩ : ∃ x, w2.heap.size = x := ⟨_, rfl⟩
  generalize w2.alloc (.cells #[.int .i64 0, .int .i64 m, .int .i64 0] 48) = w3 at *
  rw [hrb] at HR3 B3 HCR hob ⊢
  go_loopw [5] (fun iv wr => ∃ k : Nat, k ≤ m ∧ iv = .int .i64 (k : Nat) ∧ Hid (Row wr rb 3 (rwC (lgN n f (l.take k) : Nat) m (sqN n f (l.take k) : Nat))) ∧ Hid (Below rb w2 wr)) (fun iv _ => m - (intOf iv).toNat)
  case atStart => exact ⟨0, Nat.zero_le _, rfl, HR3, B3⟩
  case round =>
    obtain ⟨k, hk, rfl, HRr, BW⟩ := hrel
    by_cases hlt : k < m
    · have hkl : k < l.length := by have := Hm.out; omega
      have hSS := take_snoc0 hkl
      have e2 := sqN_snoc n f (l.take k) (l.getD k 0)
      have e3 := lgN_snoc n f (l.take k) (l.getD k 0)
      rw [← hSS] at e2 e3
      have z2 := sqN_le n f (l.take k)
      have z3 := lgN_le n f (l.take k)
      have ztk : (l.take k).length ≤ 4096 := by rw [List.length_take]; omega
      have z4 := clsN_le n f (l.getD k 0)
      have hls : (lvs n f (l.getD k 0)).length = clsN n f (l.getD k 0) := lvs_cls (HAt.out k hkl)
      have ic := HCR.out.ix k hlt
      have c0 := (HCR.out.below BW.out).cell k hlt 0 (by omega)
      rw [add_zero] at c0
      obtain ⟨va, vc, VA, hva, _⟩ := ownI_rd (HRV.out k hlt)
      rw [hva] at c0
      rw [hls] at c0
      obtain ⟨s, hs⟩ : ∃ s, clsN n f (l.getD k 0) = s := ⟨_, rfl⟩
      rw [hs] at e2 e3 z4 c0
      obtain ⟨t2, ht2⟩ : ∃ t, sqN n f (l.take k) = t := ⟨_, rfl⟩
      obtain ⟨t3, ht3⟩ : ∃ t, lgN n f (l.take k) = t := ⟨_, rfl⟩
      rw [ht2] at e2 z2 HRr; rw [ht3] at e3 z3 HRr
      have s4 : s ≤ 4096 := by omega
      have y2 : (l.take k).length * (n * n) ≤ 4096 * (4096 * 4096) := Nat.mul_le_mul ztk (Nat.mul_le_mul hn hn)
      have y3 : s * s ≤ 4096 * 4096 := Nat.mul_le_mul s4 s4
      obtain ⟨pp, hpp⟩ : ∃ p, s * s = p := ⟨_, rfl⟩
      rw [hpp] at y3 e2
      have m2 : IntKind.i64.wrap ((s : Int) * (s : Int)) = (pp : Int) := by
        have h1 : ((s : Int) * (s : Int)) = (pp : Int) := by rw [← hpp]; exact (Int.natCast_mul s s).symm
        rw [h1, IntWalk.i64_in _ (by omega)]
      have m3 : IntKind.i64.wrap ((t2 : Int) + (pp : Int)) = ((t2 + pp : Nat) : Int) := by rw [IntWalk.i64_in _ (by omega)]; omega
      have r0 := HRr.out.cell (i := 0) (by omega)
      have r2 := HRr.out.cell (i := 2) (by omega)
      have f0 := HRr.out.frozen 0
      have f2 := HRr.out.frozen 2
      unfold rwC at r0 r2
      have E2 := Lib.hid e2; have E3 := Lib.hid e3
      clear hSS e2 e3 ht2 ht3 hs hls hva hpp
      by_cases hgt : s > t3
      · have dg : decide ((s : Int) > (t3 : Int)) = true := decide_eq_true (by omega)
        have dg' : decide ((t3 : Int) < (s : Int)) = true := decide_eq_true (by omega)
        have dg2 : decide (t3 < s) = true := decide_eq_true (by omega)
        have R1 := Lib.hid ((HRr.out.set 0 (.int .i64 (s : Nat))).set 2 (.int .i64 ((t2 : Int) + (pp : Int))))
        have B1 := Lib.hid ((BW.out.setCell (p := ⟨rb, 0, none⟩) (by show rb ≤ rb; omega) (.int .i64 (s : Nat))).setCell (p := ⟨rb, 2, none⟩) (by show rb ≤ rb; omega) (.int .i64 ((t2 : Int) + (pp : Int))))
        go_wp2_with fail
        go_roundw
        case rel =>
          refine ⟨k + 1, by omega, by go_num, ?_, B1⟩
          rw [E2.out, E3.out, Nat.max_eq_right (by omega)]
          exact Lib.hid (R1.out.congr fun i hi => by
            match i, hi with
            | 0, _ => rfl
            | 1, _ => rfl
            | 2, _ => rfl
            | q + 3, h => omega)
        case measure => simp only [intOf]; omega
      · have dg : decide ((s : Int) > (t3 : Int)) = false := decide_eq_false (by omega)
        have dg' : decide ((t3 : Int) < (s : Int)) = false := decide_eq_false (by omega)
        have dg2 : decide (t3 < s) = false := decide_eq_false (by omega)
        have R1 := Lib.hid (HRr.out.set 2 (.int .i64 ((t2 : Int) + (pp : Int))))
        have B1 := Lib.hid (BW.out.setCell (p := ⟨rb, 2, none⟩) (by show rb ≤ rb; omega) (.int .i64 ((t2 : Int) + (pp : Int))))
        go_wp2_with fail
        go_roundw
        case rel =>
          refine ⟨k + 1, by omega, by go_num, ?_, B1⟩
          rw [E2.out, E3.out, Nat.max_eq_left (by omega)]
          exact Lib.hid (R1.out.congr fun i hi => by
            match i, hi with
            | 0, _ => rfl
            | 1, _ => rfl
            | 2, _ => rfl
            | q + 3, h => omega)
        case measure => simp only [intOf]; omega
    · have hkm : k = m := by omega
      subst hkm
      have hr := HRr.out
      rw [List.take_of_length_le (by have := Hm.out; omega)] at hr
      obtain ⟨lg, hlg⟩ : ∃ x, lgN n f l = x := ⟨_, rfl⟩
      obtain ⟨sq, hsq⟩ : ∃ x, sqN n f l = x := ⟨_, rfl⟩
      rw [hlg, hsq] at hr
      have HX := Lib.hid (And.intro hlg hsq)
      clear hlg hsq HRr HRV HCR
      have r0 := hr.cell (i := 0) (by omega)
      have r1 := hr.cell (i := 1) (by omega)
      have r2 := hr.cell (i := 2) (by omega)
      unfold rwC at r0 r1 r2
      have z := HZ2.out.below BW.out hob
      have z0 := z.cell (i := 0) (by omega)
      have z1 := z.cell (i := 1) (by omega)
      have z2 := z.cell (i := 2) (by omega)
      have f0 := z.frozen 0
      have f1 := z.frozen 1
      have f2 := z.frozen 2
      unfold rwC at z0 z1 z2
      have HZ3 : Hid (Row (((wr.setCell ⟨w.heap.size, 0, none⟩ (.int .i64 (lg : Nat))).setCell ⟨w.heap.size, 1, none⟩ (.int .i64 (k : Nat))).setCell ⟨w.heap.size, 2, none⟩ (.int .i64 (sq : Nat))) w.heap.size 3 (rwC lg k sq)) := Lib.hid ((((z.set 0 _).set 1 _).set 2 _).congr fun i hi => by
        match i, hi with
        | 0, _ => rfl
        | 1, _ => rfl
        | 2, _ => rfl
        | q + 3, h => omega)
      have bw : Below w.heap.size w wr := B2.out.trans (BW.out.mono (by omega))
      have B5 : Hid (Below w.heap.size w (((wr.setCell ⟨w.heap.size, 0, none⟩ (.int .i64 (lg : Nat))).setCell ⟨w.heap.size, 1, none⟩ (.int .i64 (k : Nat))).setCell ⟨w.heap.size, 2, none⟩ (.int .i64 (sq : Nat)))) := Lib.hid (((bw.setCell (by show w.heap.size ≤ w.heap.size; omega) _).setCell (by show w.heap.size ≤ w.heap.size; omega) _).setCell (by show w.heap.size ≤ w.heap.size; omega) _)
      clear hr z bw HZ2
      go_wp2_with fail
      clear z0 z1 z2 f0 f1 f2 r0 r1 r2
      generalize ((wr.setCell ⟨w.heap.size, 0, none⟩ (.int .i64 (lg : Nat))).setCell ⟨w.heap.size, 1, none⟩ (.int .i64 (k : Nat))).setCell ⟨w.heap.size, 2, none⟩ (.int .i64 (sq : Nat)) = w5 at *
      have s0 : w5.cell? ⟨w.heap.size, 0, none⟩ = some (.int .i64 (lg : Nat)) := HZ3.out.cell (i := 0) (by omega)
      have s1 : w5.cell? ⟨w.heap.size, 1, none⟩ = some (.int .i64 (k : Nat)) := HZ3.out.cell (i := 1) (by omega)
      have s2 : w5.cell? ⟨w.heap.size, 2, none⟩ = some (.int .i64 (sq : Nat)) := HZ3.out.cell (i := 2) (by omega)
      refine bodyPost_ret (v := .agg #[.int .i64 (lg : Nat), .int .i64 (k : Nat), .int .i64 (sq : Nat)]) (by simp [results, Tryz.results45, go_sem, s0, s1, s2]) rfl ?_
      exact ⟨by rw [HX.out.1, HX.out.2], B5.out⟩
end Go.Proofs.YtibdggbejogciaaGreat

/- The document's view: Row. No conditions. -/
namespace Go.Proofs.YtibdggbejogciaaGreat
open Go.RowKit

section
variable {vb n : Nat} {E : List Ed} {w : World}
set_option maxRecDepth 100000 in
set_option maxHeartbeats 2000000 in
theorem rwrow_any (θ : Int) (h : RwAt w w.heap.size vb n E) : Calls Tryz.prog 25 #[.pointer (some ⟨vb, 0, none⟩), .int .i64 θ] w (RowRes n (lbW E θ) w) := by
  have hA : Below w.heap.size w (w.alloc (.cells #[.int .i64 0, .int .i64 0, .int .i64 0] 48)) := (Below.refl _ _).alloc (Nat.le_refl _) _
  have HZ := Lib.hid (rw_row w 0 0 0 48)
  have h1 := h.at hA
  have HV := Lib.hid (rwvalid_yes h1)
  obtain ⟨gb, c0, c1, hg⟩ := h1.ex
  have HU := Lib.hid (runder_any _ gb n E θ _ hg (Nat.le_refl _))
  have HA := Lib.hid hA
  clear h h1 hg hA
  go_enter Tryz.func25, Tryz.ntmps25
  go_wp2_with fail
  refine HV.out.mono ?_
  rintro e w' ⟨rfl, rfl⟩
  go_wp2_with fail
  refine HU.out.mono ?_
  rintro e w1 ⟨ub, rfl, hu, b1⟩
  have HU1 := Lib.hid hu
  have HZ1 := Lib.hid (HZ.out.below b1 (by simp))
  have B1 := Lib.hid (HA.out.trans (b1.mono HA.out.size))
  have hl1 : w.heap.size < w1.heap.size := Nat.lt_of_lt_of_le (by simp) b1.size
  clear hu b1 HU HV c0 c1 HZ HA
  go_wp2_with fail
  refine (rrow_any w1.heap.size ub n (undE E θ) w1 HU1.out (Nat.le_refl _)).mono ?_
  rintro e w2 ⟨rfl, b2⟩
  rw [undE_lab]
  have hl2 : w.heap.size < w2.heap.size := Nat.lt_of_lt_of_le hl1 b2.size
  obtain ⟨f, hf⟩ : ∃ f, lbW E θ = f := ⟨_, rfl⟩
  obtain ⟨lg, hlg⟩ : ∃ x, lgN n f (lbL f n) = x := ⟨_, rfl⟩
  obtain ⟨k, hk⟩ : ∃ x, cntN n f = x := ⟨_, rfl⟩
  obtain ⟨sq, hsq⟩ : ∃ x, sqN n f (lbL f n) = x := ⟨_, rfl⟩
  rw [hf, hlg, hk, hsq]
  have HX := Lib.hid (show lgN n (lbW E θ) (lbL (lbW E θ) n) = lg ∧ cntN n (lbW E θ) = k ∧ sqN n (lbW E θ) (lbL (lbW E θ) n) = sq by rw [hf]; exact ⟨hlg, hk, hsq⟩)
  have z := HZ1.out.below b2 hl1
  have z0 := z.cell (i := 0) (by omega)
  have z1 := z.cell (i := 1) (by omega)
  have z2 := z.cell (i := 2) (by omega)
  have f0 := z.frozen 0
  have f1 := z.frozen 1
  have f2 := z.frozen 2
  unfold rwC at z0 z1 z2
  have HZ3 : Hid (Row (((w2.setCell ⟨w.heap.size, 0, none⟩ (.int .i64 (lg : Nat))).setCell ⟨w.heap.size, 1, none⟩ (.int .i64 (k : Nat))).setCell ⟨w.heap.size, 2, none⟩ (.int .i64 (sq : Nat))) w.heap.size 3 (rwC lg k sq)) := Lib.hid ((((z.set 0 _).set 1 _).set 2 _).congr fun i hi => by
    match i, hi with
    | 0, _ => rfl
    | 1, _ => rfl
    | 2, _ => rfl
    | q + 3, h => omega)
  have bw : Below w.heap.size w w2 := B1.out.trans (b2.mono B1.out.size)
  have B5 : Hid (Below w.heap.size w (((w2.setCell ⟨w.heap.size, 0, none⟩ (.int .i64 (lg : Nat))).setCell ⟨w.heap.size, 1, none⟩ (.int .i64 (k : Nat))).setCell ⟨w.heap.size, 2, none⟩ (.int .i64 (sq : Nat)))) := Lib.hid (((bw.setCell (by show w.heap.size ≤ w.heap.size; omega) _).setCell (by show w.heap.size ≤ w.heap.size; omega) _).setCell (by show w.heap.size ≤ w.heap.size; omega) _)
  clear hf hlg hk hsq z bw HZ1 b2 HU1
  go_wp2_with fail
  clear z0 z1 z2 f0 f1 f2
  generalize ((w2.setCell ⟨w.heap.size, 0, none⟩ (.int .i64 (lg : Nat))).setCell ⟨w.heap.size, 1, none⟩ (.int .i64 (k : Nat))).setCell ⟨w.heap.size, 2, none⟩ (.int .i64 (sq : Nat)) = w5 at *
  have s0 : w5.cell? ⟨w.heap.size, 0, none⟩ = some (.int .i64 (lg : Nat)) := HZ3.out.cell (i := 0) (by omega)
  have s1 : w5.cell? ⟨w.heap.size, 1, none⟩ = some (.int .i64 (k : Nat)) := HZ3.out.cell (i := 1) (by omega)
  have s2 : w5.cell? ⟨w.heap.size, 2, none⟩ = some (.int .i64 (sq : Nat)) := HZ3.out.cell (i := 2) (by omega)
  refine bodyPost_ret (v := .agg #[.int .i64 (lg : Nat), .int .i64 (k : Nat), .int .i64 (sq : Nat)]) (by simp [results, Tryz.results25, go_sem, s0, s1, s2]) rfl ?_
  exact ⟨by rw [HX.out.1, HX.out.2.1, HX.out.2.2], B5.out⟩
set_option maxRecDepth 100000 in
set_option maxHeartbeats 2000000 in
theorem rwrow_no (θ : Int) : Calls Tryz.prog 25 #[.pointer none, .int .i64 θ] w (RowRes 0 id w) := by
  have hA : Below w.heap.size w (w.alloc (.cells #[.int .i64 0, .int .i64 0, .int .i64 0] 48)) := (Below.refl _ _).alloc (Nat.le_refl _) _
  have HA := Lib.hid hA
  have HV := Lib.hid (rwvalid_no (w.alloc (.cells #[.int .i64 0, .int .i64 0, .int .i64 0] 48)))
  clear hA
  go_enter Tryz.func25, Tryz.ntmps25
  go_wp2_with fail
  refine HV.out.mono ?_
  rintro e w' ⟨rfl, rfl⟩
  go_wp2_with fail
  refine bodyPost_ret (v := .agg #[.int .i64 0, .int .i64 0, .int .i64 0]) (by simp [results, Tryz.results25, go_sem]) rfl ?_
  exact ⟨rfl, HA.out⟩
end
end Go.Proofs.YtibdggbejogciaaGreat

/- The document's view: All and Count. No conditions. -/
namespace Go.Proofs.YtibdggbejogciaaGreat
open Go.RowKit

section
variable {vb n : Nat} {E : List Ed} {w : World}
set_option maxRecDepth 100000 in
set_option maxHeartbeats 2000000 in
theorem rwall_any (θ : Int) (h : RwAt w w.heap.size vb n E) : Calls Tryz.prog 19 #[.pointer (some ⟨vb, 0, none⟩), .int .i64 θ] w (AllRes n (lbW E θ) w) := by
  have HV := Lib.hid (rwvalid_yes h)
  have hn := h.ok.n_le
  obtain ⟨gb, c0, c1, hg⟩ := h.ex
  have HU := Lib.hid (runder_any _ gb n E θ _ hg (Nat.le_refl _))
  clear h hg
  unfold AllRes
  go_enter Tryz.func19, Tryz.ntmps19
  go_wp2_with fail
  refine HV.out.mono ?_
  rintro e w' ⟨rfl, rfl⟩
  go_wp2_with fail
  refine HU.out.mono ?_
  rintro e w1 ⟨ub, rfl, hu, b1⟩
  have HU1 := Lib.hid hu
  have B1 := Lib.hid b1
  clear hu b1 HU HV c0 c1
  go_wp2_with fail
  refine (rcomps_any w1.heap.size ub n (undE E θ) w1 HU1.out (Nat.le_refl _)).mono ?_
  rintro e w2 ⟨v, rfl, hc, b2⟩
  rw [undE_lab] at hc
  obtain ⟨f, hf⟩ : ∃ f, lbW E θ = f := ⟨_, rfl⟩
  have HK : Hid (LabOk f) := Lib.hid (by rw [← hf]; exact labO_ok _ _)
  have HF := Lib.hid hf
  rw [hf] at hc
  obtain ⟨l, hl⟩ : ∃ l, lbL f n = l := ⟨_, rfl⟩
  have HL := Lib.hid hl
  have HAt := Lib.hid (show ∀ k, k < l.length → l.getD k 0 < n ∧ f (l.getD k 0) = l.getD k 0 from fun k hk => by rw [← hl] at hk ⊢; exact lbL_at hk)
  have hlL : l.length ≤ n := by rw [← hl]; exact lbL_le f n
  rw [hl] at hc
  obtain ⟨ca, cc, CA, RV, rfl, hCR, hRV⟩ := hc.rd
  obtain ⟨m, hm⟩ : ∃ m, l.length = m := ⟨_, rfl⟩
  have Hm := Lib.hid hm
  rw [hm] at hCR hRV hlL ⊢
  have HCR := Lib.hid hCR; have HRV := Lib.hid hRV
  have B2 := Lib.hid (B1.out.trans (b2.mono B1.out.size))
  clear hf hl hc hm hCR hRV b2 HU1 B1
  go_wp2_with fail
  go_loopw [6, 7] (fun ov iv wr => ∃ k : Nat, k ≤ m ∧ iv = .int .i64 (k : Nat) ∧ Hid (wr.ownsRow w2.heap.size 33 2 ov k (flat (gpC n f l) k 2)) ∧ Hid (Below w2.heap.size w2 wr)) (fun _ iv _ => m - (intOf iv).toNat)
  case atStart => exact ⟨0, Nat.zero_le _, rfl, Lib.hid (World.ownsRow_nil _ _ _ _), Lib.hid (Below.refl _ _)⟩
  case round =>
    obtain ⟨k, hk, rfl, HO, BW⟩ := hrel
    by_cases hlt : k < m
    · have hkl : k < l.length := by have := Hm.out; omega
      obtain ⟨ha1, ha2⟩ := HAt.out k hkl
      have hls : (lvs n f (l.getD k 0)).length = clsN n f (l.getD k 0) := lvs_cls ha2
      obtain ⟨tt, htt⟩ := lvs_head HK.out ha1
      rw [ha2] at htt
      have HSn := Lib.hid (gpC_snoc n f l k)
      have ic := HCR.out.ix k hlt
      obtain ⟨va, vc, VA, hva, hVR⟩ := ownI_rd (HRV.out k hlt)
      rw [hls] at hva hVR
      obtain ⟨a, ha⟩ : ∃ a, l.getD k 0 = a := ⟨_, rfl⟩
      obtain ⟨s, hs⟩ : ∃ s, clsN n f (l.getD k 0) = s := ⟨_, rfl⟩
      have hs0 : 0 < s := by rw [← hs, ← hls, htt]; simp
      rw [hs] at hva hVR HSn
      rw [ha] at HSn htt hVR
      have hSB : ∀ W, Below w2.heap.size w2 W → W.cell? (CA k) = some (.slice va s vc) ∧ W.cell? (VA 0) = some (.int .i64 (a : Nat)) := fun W hW => by
        have q0 := (HCR.out.below hW).cell k hlt 0 (by omega)
        rw [add_zero, hva] at q0
        have q1 := (hVR.below hW).cell 0 hs0 0 (by omega)
        rw [add_zero] at q1
        unfold nums at q1
        rw [intsN_nth, htt] at q1
        exact ⟨q0, q1⟩
      have i0 : ∀ w', (Instr.indexAt 37 (.slice va s vc) (.int .i64 0)).run Tryz.prog w' = .ok (.pointer (some (VA 0))) w' := hVR.ix 0 hs0
      have hs4 : s ≤ 4096 := by have := clsN_le n f (l.getD k 0); omega
      have hsz : w2.heap.size ≤ wr.drew.heap.size := BW.out.size
      have owd : wr.drew.ownsRow w2.heap.size 33 2 u6 k (flat (gpC n f l) k 2) := HO.out
      have HS : wr.drew.cell? (CA k) = some (.slice va s vc) ∧ wr.drew.cell? (VA 0) = some (.int .i64 (a : Nat)) := hSB _ BW.out.drew
      have HS1 : (wr.alloc (.cells #[.int .i64 (a : Nat), .int .i64 (s : Nat)] 33)).drew.cell? (CA k) = some (.slice va s vc) ∧ (wr.alloc (.cells #[.int .i64 (a : Nat), .int .i64 (s : Nat)] 33)).drew.cell? (VA 0) = some (.int .i64 (a : Nat)) := hSB _ (BW.out.alloc hsz _).drew
      have FIN := Lib.hid (fun (w5 : World) (h2 : wr.drew.grownBy w5 u6.ownBlock) => have hb5 : Below w2.heap.size w2 w5 := (BW.out.drew).grown h2 hsz (fun j e => (owd.lt j e).1); show (w5.cell? (CA k) = some (.slice va s vc) ∧ w5.cell? (VA 0) = some (.int .i64 (a : Nat))) ∧ Below w2.heap.size w2 w5 from ⟨hSB _ hb5, hb5⟩)
      clear hSB hls htt hva hVR ha hs ha1 ha2 HO
      go_wp2_with fail
      refine region_plain (fun w' => w'.cell? (CA k) = some (.slice va s vc) ∧ w'.cell? (VA 0) = some (.int .i64 (a : Nat))) (by kernel_rfl) ?_
      refine take_at (i := 0) (d := 24) (v := ?_) rfl rfl (by kernel_rfl) (by kernel_rfl) (by kernel_rfl) (fun _ _ _ _ => NormalOnly.any) rfl ?hy1 HS ?rest1
      case hy1 => intro w' hSw; (try dsimp only at hSw); go_simp; try (with_reducible rfl)
      try simp only [List.setIfInBounds_toArray, List.set_cons_zero, List.set_cons_succ]
      refine take_at (i := 1) (d := 25) (v := ?_) rfl rfl (by kernel_rfl) (by kernel_rfl) (by kernel_rfl) (fun _ _ _ _ => NormalOnly.any) rfl ?hy2 HS ?rest2
      case hy2 => intro w' hSw; (try dsimp only at hSw); go_simp; try (with_reducible rfl)
      try simp only [List.setIfInBounds_toArray, List.set_cons_zero, List.set_cons_succ]
      refine take_at (i := 2) (d := 26) (v := ?_) rfl rfl (by kernel_rfl) (by kernel_rfl) (by kernel_rfl) (fun _ _ _ _ => NormalOnly.any) rfl ?hy3 HS ?rest3
      case hy3 => intro w' hSw; (try dsimp only at hSw); go_simp; try (with_reducible rfl)
      try simp only [List.setIfInBounds_toArray, List.set_cons_zero, List.set_cons_succ]
      refine take_at (i := 3) (d := 27) (v := ?_) rfl rfl (by kernel_rfl) (by kernel_rfl) (by kernel_rfl) (fun _ _ _ _ => NormalOnly.any) rfl ?hy4 HS ?rest4
      case hy4 => intro w' hSw; (try dsimp only at hSw); go_simp; try (with_reducible rfl)
      try simp only [List.setIfInBounds_toArray, List.set_cons_zero, List.set_cons_succ]
      refine take_at (i := 4) (d := 28) (v := ?_) rfl rfl (by kernel_rfl) (by kernel_rfl) (by kernel_rfl) (fun _ _ _ _ => NormalOnly.any) rfl ?hy5 HS ?rest5
      case hy5 => intro w' hSw; (try dsimp only at hSw); go_simp; try (with_reducible rfl)
      try simp only [List.setIfInBounds_toArray, List.set_cons_zero, List.set_cons_succ]
      refine take_at (i := 5) (d := 29) (v := ?_) rfl rfl (by kernel_rfl) (by kernel_rfl) (by kernel_rfl) (fun _ _ _ _ => NormalOnly.any) rfl ?hy6 HS ?rest6
      case hy6 => intro w' hSw; (try dsimp only at hSw); go_simp; try (with_reducible rfl)
      try simp only [List.setIfInBounds_toArray, List.set_cons_zero, List.set_cons_succ]
      refine take_at (i := 6) (d := 30) (v := ?_) rfl rfl (by kernel_rfl) (by kernel_rfl) (by kernel_rfl) (fun _ _ _ _ => NormalOnly.any) rfl ?hy7 HS ?rest7
      case hy7 => intro w' hSw; (try dsimp only at hSw); go_simp; try (with_reducible rfl)
      try simp only [List.setIfInBounds_toArray, List.set_cons_zero, List.set_cons_succ]
      refine take_at (i := 7) (d := 31) (v := ?_) rfl rfl (by kernel_rfl) (by kernel_rfl) (by kernel_rfl) (fun _ _ _ _ => NormalOnly.any) rfl ?hy8 HS ?rest8
      case hy8 => intro w' hSw; (try dsimp only at hSw); go_simp; try (with_reducible rfl)
      try simp only [List.setIfInBounds_toArray, List.set_cons_zero, List.set_cons_succ]
      refine take_at (i := 8) (d := 32) (v := ?_) rfl rfl (by kernel_rfl) (by kernel_rfl) (by kernel_rfl) (fun _ _ _ _ => NormalOnly.any) rfl ?hy9 HS ?rest9
      case hy9 => intro w' hSw; (try dsimp only at hSw); go_simp; try (with_reducible rfl)
      try simp only [List.setIfInBounds_toArray, List.set_cons_zero, List.set_cons_succ]
      refine take_at (i := 9) (d := 33) (v := ?_) rfl rfl (by kernel_rfl) (by kernel_rfl) (by kernel_rfl) (fun _ _ _ _ => NormalOnly.any) rfl ?hy10 HS ?rest10
      case hy10 => intro w' hSw; (try dsimp only at hSw); go_simp; try (with_reducible rfl)
      try simp only [List.setIfInBounds_toArray, List.set_cons_zero, List.set_cons_succ]
      refine take_at (i := 10) (d := 34) (v := ?_) rfl rfl (by kernel_rfl) (by kernel_rfl) (by kernel_rfl) (fun _ _ _ _ => NormalOnly.any) rfl ?hy11 HS ?rest11
      case hy11 => intro w' hSw; (try dsimp only at hSw); go_simp; try (with_reducible rfl)
      try simp only [List.setIfInBounds_toArray, List.set_cons_zero, List.set_cons_succ]
      refine take_at (i := 11) (d := 35) (v := ?_) rfl rfl (by kernel_rfl) (by kernel_rfl) (by kernel_rfl) (fun _ _ _ _ => NormalOnly.any) rfl ?hy12 HS ?rest12
      case hy12 => intro w' hSw; (try dsimp only at hSw); go_simp; try (with_reducible rfl)
      try simp only [List.setIfInBounds_toArray, List.set_cons_zero, List.set_cons_succ]
      refine take_at (i := 12) (d := 36) (v := ?_) rfl rfl (by kernel_rfl) (by kernel_rfl) (by kernel_rfl) (fun _ _ _ _ => NormalOnly.any) rfl ?hy13 HS ?rest13
      case hy13 => intro w' hSw; (try dsimp only at hSw); go_simp; try (with_reducible rfl)
      try simp only [List.setIfInBounds_toArray, List.set_cons_zero, List.set_cons_succ]
      refine wpAnyH_ready (rs := [13]) (by kernel_rfl) (by simp) ?_
      refine AllReadyH.cons rfl (fun K hK => ?_) AllReadyH.nil
      go_simp
      refine hK.out _ _ HS1 (fun _ => ?_)
      clear hK
      refine wpAnyH_ready (rs := [14]) (by kernel_rfl) (by simp) ?_
      refine AllReadyH.cons rfl (fun K hK => ?_) AllReadyH.nil
      refine step_pushM (w0 := wr.drew) rfl etG rfl _ _ rfl w2.heap.size u6 k _ owd rfl #[.int .i64 (a : Nat), .int .i64 (s : Nat)] _ rfl rfl rfl (by simp [Value.oneCell']) (by omega) (by omega) hsz ?_
      intro ga cpa w5 hown hgr hmv
      obtain ⟨HS, hb5⟩ := FIN.out w5 hgr
      have HO5 := Lib.hid hown
      have HB5 := Lib.hid hb5
      clear hown hgr hmv FIN HS1 owd hb5
      simp only [Act.put, List.setIfInBounds_toArray]
      refine hK.out _ _ HS (fun HS => ?_)
      clear hK
      refine take_at (i := 15) (d := 6) (v := ?_) rfl rfl (by kernel_rfl) (by kernel_rfl) (by kernel_rfl) (fun _ _ _ _ => NormalOnly.any) rfl ?hy14 HS ?rest14
      case hy14 => intro w' hSw; (try dsimp only at hSw); go_simp; try (with_reducible rfl)
      try simp only [List.setIfInBounds_toArray, List.set_cons_zero, List.set_cons_succ]
      refine wpAnyH_done (by kernel_rfl) ⟨rfl, ?_⟩ _
      clear HS
      go_wp2_with fail
      go_roundw
      case rel =>
        refine ⟨k + 1, by omega, by go_num, ?_, HB5⟩
        rw [HSn.out]; exact HO5
      case measure => simp only [intOf]; omega
    · have hkm : k = m := by omega
      subst hkm
      go_wp2_with fail
      go_ret
      refine ⟨_, rfl, ?_, B2.out.trans (BW.out.mono B2.out.size)⟩
      rw [HF.out, HL.out, Hm.out]
      exact own_lower HO.out B2.out.size
set_option maxRecDepth 100000 in
set_option maxHeartbeats 1000000 in
theorem rwall_no (θ : Int) : Calls Tryz.prog 19 #[.pointer none, .int .i64 θ] w fun e w' => e = .returned (.slice none 0 0) ∧ w = w' := by
  have HV := Lib.hid (rwvalid_no w)
  go_enter Tryz.func19, Tryz.ntmps19
  go_wp2_with fail
  refine HV.out.mono ?_
  rintro e w' ⟨rfl, rfl⟩
  go_wp2_with fail
  go_ret
  exact ⟨rfl, rfl⟩
set_option maxRecDepth 100000 in
set_option maxHeartbeats 1000000 in
theorem rwcount_any (v : Value) (n : Nat) (f : Nat → Nat) (θ : Int) (hA : Calls Tryz.prog 19 #[v, .int .i64 θ] w (AllRes n f w)) :
    Calls Tryz.prog 21 #[v, .int .i64 θ] w fun e w' => e = .returned (.int .i64 (cntN n f : Nat)) ∧ Below w.heap.size w w' := by
  have HA := Lib.hid hA
  clear hA
  go_enter Tryz.func21, Tryz.ntmps21
  go_wp2_with fail
  refine HA.out.mono ?_
  rintro e w1 h
  obtain ⟨a, cap, A, rfl, _, hb⟩ := h.rd
  rw [lbL_len]
  have HB := Lib.hid hb
  clear h hb
  go_wp2_with fail
  go_ret
  exact ⟨rfl, HB.out⟩
end
end Go.Proofs.YtibdggbejogciaaGreat
