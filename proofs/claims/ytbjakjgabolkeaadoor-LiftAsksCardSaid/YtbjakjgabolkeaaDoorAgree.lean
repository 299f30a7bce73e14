/- The walk of agree: all that is asked of both tables is the same. Conditions: both tables were made of the same forest, or neither was made; at most 300 keys; the library's table of de Bruijn is as its initialiser lays it. -/
import Derived.Test.YtbjakjgabolkeaaDoorRefNew
import Derived.Deep.RegionHeld3
namespace Go.Proofs.YtbjakjgabolkeaaDoor
open Go.RowKit Go.Shelf

/-- where agree stands: what is asked lies in block s -/
structure AgSt (s : Nat) (qa qb qk qm : Int) (a : Option Addr) (n cap : Nat) (L : List Int) (A : Nat → Addr) (o : Option (List Int)) (vt vr : Value) (w0 W : World) : Prop where
  c0 : W.cell? ⟨s, 0, none⟩ = some (.int .i64 qa)
  c1 : W.cell? ⟨s, 1, none⟩ = some (.int .i64 qb)
  c2 : W.cell? ⟨s, 2, none⟩ = some (.int .i64 qk)
  c3 : W.cell? ⟨s, 3, none⟩ = some (.slice a n cap)
  c4 : W.cell? ⟨s, 4, none⟩ = some (.int .i64 qm)
  both : Both W s o vt vr
  key : Sl 40 .i64 W s (.slice a n cap) L A
  size : s + 1 ≤ W.heap.size
  le : s ≤ W.heap.size
  deb : DeB W
  bel : Below s w0 W
theorem AgSt.step {s : Nat} {qa qb qk qm : Int} {a : Option Addr} {n cap : Nat} {L : List Int} {A : Nat → Addr} {o : Option (List Int)} {vt vr : Value} {w0 W W' : World} (N : AgSt s qa qb qk qm a n cap L A o vt vr w0 W) (hb : Below W.heap.size W W') : AgSt s qa qb qk qm a n cap L A o vt vr w0 W' := by
  have hs := N.size
  have hc : ∀ (j : Nat), W'.cell? ⟨s, j, none⟩ = W.cell? ⟨s, j, none⟩ := fun j => hb.cell (by show s < W.heap.size; omega)
  exact ⟨by rw [hc]; exact N.c0, by rw [hc]; exact N.c1, by rw [hc]; exact N.c2, by rw [hc]; exact N.c3, by rw [hc]; exact N.c4, N.both.below (hb.mono N.le), N.key.below (hb.mono N.le), Nat.le_trans hs hb.size, Nat.le_trans N.le hb.size, N.deb.below hb N.deb.lt, N.bel.trans (hb.mono N.le)⟩
theorem AgSt.all {s : Nat} {qa qb qk qm : Int} {a : Option Addr} {n cap : Nat} {L : List Int} {A : Nat → Addr} {o : Option (List Int)} {vt vr : Value} {w0 W : World} (N : AgSt s qa qb qk qm a n cap L A o vt vr w0 W) : W.cell? ⟨s, 0, none⟩ = some (.int .i64 qa) ∧ W.cell? ⟨s, 1, none⟩ = some (.int .i64 qb) ∧ AgSt s qa qb qk qm a n cap L A o vt vr w0 W := ⟨N.c0, N.c1, N⟩
theorem AgSt.drew {s : Nat} {qa qb qk qm : Int} {a : Option Addr} {n cap : Nat} {L : List Int} {A : Nat → Addr} {o : Option (List Int)} {vt vr : Value} {w0 W : World} (N : AgSt s qa qb qk qm a n cap L A o vt vr w0 W) : AgSt s qa qb qk qm a n cap L A o vt vr w0 W.drew := N.step (Below.refl _ _).drew
theorem AgSt.drewN {s : Nat} {qa qb qk qm : Int} {a : Option Addr} {n cap : Nat} {L : List Int} {A : Nat → Addr} {o : Option (List Int)} {vt vr : Value} {w0 W : World} (N : AgSt s qa qb qk qm a n cap L A o vt vr w0 W) (k : Nat) : AgSt s qa qb qk qm a n cap L A o vt vr w0 (W.drewN k) := N.step (below_drewN (Below.refl _ _) k)

set_option maxRecDepth 100000 in
set_option maxHeartbeats 16000000 in
theorem agree_walk (B : Nat) (qa qb qk qm : Int) (a : Option Addr) (n cap : Nat) (L : List Int) (A : Nat → Addr) (o : Option (List Int)) (vt vr : Value) (w0 : World) (hBo : Both w0 B o vt vr) (hK0 : Sl 40 .i64 w0 B (.slice a n cap) L A) (hB : B ≤ w0.heap.size) (hL : L.length = n) (hn : n ≤ 300) (hT : DeB w0) :
    Calls Tryd.prog 22 #[vt, vr, .agg #[.int .i64 qa, .int .i64 qb, .int .i64 qk, .slice a n cap, .int .i64 qm]] w0 fun e w' => e = .returned (.bool true) ∧ Below w0.heap.size w0 w' := by
  obtain ⟨s, hs⟩ : ∃ s, w0.heap.size = s := ⟨_, rfl⟩
  have h1 := hT.lt
  have hBel : Below w0.heap.size w0 (w0.alloc (.cells #[.int .i64 qa, .int .i64 qb, .int .i64 qk, .slice a n cap, .int .i64 qm] 42)) := (Below.refl _ _).alloc (Nat.le_refl _) _
  have hsB : Below B w0 (w0.alloc (.cells #[.int .i64 qa, .int .i64 qb, .int .i64 qk, .slice a n cap, .int .i64 qm] 42)) := hBel.mono hB
  have N0 : AgSt s qa qb qk qm a n cap L A o vt vr w0 (w0.alloc (.cells #[.int .i64 qa, .int .i64 qb, .int .i64 qk, .slice a n cap, .int .i64 qm] 42)) := by
    subst hs
    refine ⟨by go_simp, by go_simp, by go_simp, by go_simp, by go_simp, ?_, (hK0.below hsB).mono hB, by simp, by simp, hT.below hBel h1, hBel⟩
    cases o with
    | none =>
      refine ⟨?_, hBo.2⟩
      rcases hBo.1 with h | ⟨b, hb, h2, h3⟩
      · exact .inl h
      · exact .inr ⟨b, by omega, h2, by rw [hsB.cell hb]; exact h3⟩
    | some p =>
      obtain ⟨⟨b, h2, h3⟩, c, h4, h5⟩ := hBo
      refine ⟨⟨b, h2, (h3.below hsB).mono hB⟩, c, h4, ?_⟩
      have h6 := h5.below hsB
      obtain ⟨x1, x2, x3, x4, x5⟩ := h6.par
      exact ⟨h6.tree, h6.range, h6.small, by have := h6.lt; omega, h6.made, x1, x2, x3, x4, x5.mono hB⟩
  clear hBo hK0 hBel hsB hT
  have hs2 := Lib.hid hs
  have hsle : w0.heap.size ≤ s := by omega
  go_enter Tryd.func22, Tryd.ntmps22
  go_wp2_with fail
  rw [hs2.out] at *
  generalize (w0.alloc (.cells #[.int .i64 qa, .int .i64 qb, .int .i64 qk, .slice a n cap, .int .i64 qm] 42)) = W0 at *
  have c0 := N0.c0; have c1 := N0.c1; have c2 := N0.c2; have c3 := N0.c3; have c4 := N0.c4
  refine (N0.both.root N0.le N0.deb).mono ?_
  rintro e w1 ⟨rfl, hb1⟩
  have N1 := N0.step hb1
  have c0 := N1.c0; have c1 := N1.c1; have c2 := N1.c2; have c3 := N1.c3; have c4 := N1.c4
  clear N0 hb1
  go_wp2_with fail
  refine (N1.both.rootR N1.le).mono ?_
  rintro e w2 ⟨rfl, hb2⟩
  have N2 := N1.step hb2
  have c0 := N2.c0; have c1 := N2.c1; have c2 := N2.c2; have c3 := N2.c3; have c4 := N2.c4
  clear N1 hb2
  go_wp2_with fail
  go_region_held3 (fun W => W.cell? ⟨s, 0, none⟩ = some (.int .i64 qa) ∧ W.cell? ⟨s, 1, none⟩ = some (.int .i64 qb) ∧ AgSt s qa qb qk qm a n cap L A o vt vr w0 W) (first | exact (AgSt.drew N2).all | exact AgSt.all (by assumption)) (first | (go_at_call 25; obtain ⟨_, _, N⟩ := (by assumption : _ ∧ _ ∧ AgSt s qa qb qk qm a n cap L A o vt vr w0 _); refine (N.both.len).mono ?_; rintro e w' ⟨rfl, rfl⟩) | (go_at_call 30; obtain ⟨_, _, N⟩ := (by assumption : _ ∧ _ ∧ AgSt s qa qb qk qm a n cap L A o vt vr w0 _); refine (N.both.lenR).mono ?_; rintro e w' ⟨rfl, rfl⟩) | (go_at_call 16; obtain ⟨_, _, N⟩ := (by assumption : _ ∧ _ ∧ AgSt s qa qb qk qm a n cap L A o vt vr w0 _); refine (N.both.depth).mono ?_; rintro e w' ⟨rfl, rfl⟩) | (go_at_call 31; obtain ⟨_, _, N⟩ := (by assumption : _ ∧ _ ∧ AgSt s qa qb qk qm a n cap L A o vt vr w0 _); refine (N.both.depthR N.le).mono ?_; rintro e w' ⟨rfl, hb⟩; have N9 := N.step hb; clear N hb) | (go_at_call 18; obtain ⟨_, _, N⟩ := (by assumption : _ ∧ _ ∧ AgSt s qa qb qk qm a n cap L A o vt vr w0 _); refine (N.both.above N.le N.deb).mono ?_; rintro e w' ⟨rfl, hb⟩; have N9 := N.step hb; clear N hb) | (go_at_call 32; obtain ⟨_, _, N⟩ := (by assumption : _ ∧ _ ∧ AgSt s qa qb qk qm a n cap L A o vt vr w0 _); refine (N.both.aboveR N.le).mono ?_; rintro e w' ⟨rfl, hb⟩; have N9 := N.step hb; clear N hb))
  obtain ⟨_, _, N3⟩ := (by assumption : _ ∧ _ ∧ AgSt s qa qb qk qm a n cap L A o vt vr w0 w')
  clear N2 N9
  generalize w' = w3 at *
  have c0 := N3.c0; have c1 := N3.c1; have c2 := N3.c2; have c3 := N3.c3; have c4 := N3.c4
  go_wp2_with fail
  refine (N3.both.up N3.le N3.deb).mono ?_
  rintro e w4 ⟨rfl, hb4⟩
  have N4 := N3.step hb4
  have c0 := N4.c0; have c1 := N4.c1; have c2 := N4.c2; have c3 := N4.c3; have c4 := N4.c4
  clear N3 hb4
  go_wp2_with fail
  refine (N4.both.upR N4.le).mono ?_
  rintro e w5 ⟨rfl, hb5⟩
  have N5 := N4.step hb5
  have c0 := N5.c0; have c1 := N5.c1; have c2 := N5.c2; have c3 := N5.c3; have c4 := N5.c4
  clear N4 hb5
  go_wp2_with fail
  refine (N5.both.common N5.le N5.deb).mono ?_
  rintro e w6 ⟨rfl, hb6⟩
  have N6 := N5.step hb6
  have c0 := N6.c0; have c1 := N6.c1; have c2 := N6.c2; have c3 := N6.c3; have c4 := N6.c4
  clear N5 hb6
  go_wp2_with fail
  refine (N6.both.commonR N6.le).mono ?_
  rintro e w7 ⟨rfl, hb7⟩
  have N7 := N6.step hb7
  have c0 := N7.c0; have c1 := N7.c1; have c2 := N7.c2; have c3 := N7.c3; have c4 := N7.c4
  clear N6 hb7
  go_wp2_with fail
  refine (N7.both.dist N7.le N7.deb).mono ?_
  rintro e w8 ⟨rfl, hb8⟩
  have N8 := N7.step hb8
  have c0 := N8.c0; have c1 := N8.c1; have c2 := N8.c2; have c3 := N8.c3; have c4 := N8.c4
  clear N7 hb8
  go_wp2_with fail
  refine (N8.both.distR N8.le).mono ?_
  rintro e w9 ⟨rfl, hb9⟩
  have N9 := N8.step hb9
  have c0 := N9.c0; have c1 := N9.c1; have c2 := N9.c2; have c3 := N9.c3; have c4 := N9.c4
  clear N8 hb9
  have c3a : (w9.alloc (.cells #[] 2)).cell? ⟨s, 3, none⟩ = some (.slice a n cap) := (World.cell?_of_block (Below.heap_alloc w9 _ _ (by have := N9.size; show s < w9.heap.size; omega))).trans N9.c3
  go_wp2_with (at_builtin; refine copiedAny et40 rfl _ _ rfl N9.key N9.le hL _ rfl rfl rfl (by omega) (by omega) ?_; intro g cp w10 hg R10 D10; have N10 := N9.step D10; have c0 := N10.c0; have c1 := N10.c1; have c2 := N10.c2; have c3 := N10.c3; have c4 := N10.c4)
  obtain ⟨_, a2, cap2, A2, e2, K10⟩ := Sl.own et40 R10
  cases e2
  clear N9 D10
  refine (N10.both.climb N10.le hL K10 (Nat.le_refl _)).mono ?_
  rintro e w11 ⟨rfl, hb11⟩
  have N11 := N10.step hb11
  have R11 := ownsRow_below R10 hb11
  have c0 := N11.c0; have c1 := N11.c1; have c2 := N11.c2; have c3 := N11.c3; have c4 := N11.c4
  clear N10 K10 R10 hb11
  go_wp2_with fail
  refine (N11.both.climbR hL N11.key).mono ?_
  rintro e w12 ⟨rfl, hb12⟩
  have N12 := N11.step hb12
  have R12 := ownsRow_below R11 hb12
  have hgl := (R12.lt g rfl).2
  clear N11 R11 hb12 c0 c1 c2 c3 c4
  go_wp2_with fail
  go_loopw [16] (fun i wr => ∃ (k q : Nat), k ≤ n ∧ i = .int .i64 k ∧ wr = w12.drewN q) (fun i _ => n - (intOf i).toNat)
  case atStart => exact ⟨0, 0, Nat.zero_le _, rfl, rfl⟩
  case round =>
    obtain ⟨k, q, hk, rfl, rfl⟩ := hrel
    by_cases hlt : k < n
    · have hki : (0 : Int) ≤ k ∧ (k : Int) < n := by omega
      have ce1 : ∀ q, (w12.drewN q).cell? ⟨g, k, none⟩ = some (.int .i64 (nth L k)) := fun q => ((below_drewN (Below.refl _ w12) q).cell (by exact hgl)).trans ((R12.cellAt k (by omega)).trans (by simp [nth, show k < L.length by omega]))
      have ix2 := N12.key.ix k (by omega)
      have ce2 := fun q => (N12.drewN q).key.cell k (by omega)
      have c3 := fun q => (N12.drewN q).c3
      go_wp2_with fail
      go_quiet (fail)
      go_wp2_with fail
      go_roundw
      case rel => exact ⟨k + 1, _, by omega, by go_num, rfl⟩
      case measure => simp [intOf]; omega
    · obtain rfl : k = n := by omega
      go_wp2_with fail
      go_ret
      exact ⟨rfl, (N12.drewN q).bel.mono (Nat.le_of_eq hs)⟩
end Go.Proofs.YtbjakjgabolkeaaDoor
