/- The walk of the document's Matrix. Conditions: the graph was made by the document's New, or it is nil. -/
import Derived.Test.YtjdpkjjlcbgnbaaMat
namespace Go.Proofs.Ytjdpkjjlcbgnbaa
open Go.RowKit Go.Shelf

theorem rowsV_flat (n : Nat) (rb : Nat → Nat) (k : Nat) : rowsV n rb k = flat (fun i _ => .slice (some ⟨rb i, 0, none⟩) n n) k 1 := by rw [flat_one]; rfl
theorem es_set {w : World} {B b n : Nat} {x : Value} {E : List Ed} {A : Nat → Addr} {f : Nat → Bool} (h : ES w B x E A) (hr : w.rowIs b 4 n (fun j => .bool (f j))) (j : Nat) (v : Value) : ES (w.setCell ⟨b, j, none⟩ v) B x E A := by
  refine ⟨h.ix, h.lt, fun i hi q hq => ?_⟩
  have hc := h.cell i hi q hq
  have hne : ((A i).add q).block ≠ b := by
    intro e
    obtain ⟨c, hb, hn, hcs⟩ := hr
    generalize (A i).add q = p at *
    obtain ⟨p1, p2, p3⟩ := p
    simp only at e
    subst e
    cases p3 with
    | some z => simp [World.cell?, hb] at hc
    | none =>
      simp only [World.cell?, hb, Option.isSome_none, Bool.false_eq_true, if_false] at hc
      have hlt : p2 < n := by rw [← hn]; exact (Array.getElem?_eq_some_iff.1 hc).1
      rw [hcs p2 hlt] at hc
      unfold edC at hc
      split at hc <;> cases hc
  rw [World.cell?_of_block (Below.heap_setCell _ _ _ _ hne)]
  exact hc

theorem GoG.nats {o : Option (Nat × List Ed)} (h : GoG o) {k : Nat} (hk : k < (gE o).length) : ∃ u v : Nat, (eAt (gE o) k).u = u ∧ (eAt (gE o) k).v = v ∧ u < gN o ∧ v < gN o ∧ u ≠ v := by
  cases o with
  | none => exact absurd hk (Nat.not_lt_zero _)
  | some x => exact GOk.nats h hk
theorem MatR.outer {w : World} {base n k lc : Nat} {la : Option Addr} {rb : Nat → Nat} {f : Nat → Nat → Bool} (h : MatR w base (.slice la k lc) n k rb f) {i : Nat} (hi : i < k) :
    ∃ p : Addr, (∀ w' : World, (Instr.indexAt 86 (.slice la k lc) (.int .i64 i)).run Try.prog w' = .ok (.pointer (some p)) w') ∧ w.cell? p = some (.slice (some ⟨rb i, 0, none⟩) n n) ∧ (rb i ≠ p.block) := by
  obtain ⟨_, _, LA, _, hR⟩ := Rd.own etSB (by have := h.own; rw [rowsV_flat] at this; exact this)
  have hc := hR.cell i hi 0 (by omega)
  rw [add_zero] at hc
  refine ⟨LA i, hR.ix i hi, hc, fun e => ?_⟩
  obtain ⟨c, hb, hn, hcs⟩ := h.row i hi
  generalize LA i = p at *
  obtain ⟨p1, p2, p3⟩ := p
  simp only at e
  subst e
  cases p3 with
  | some z => simp [World.cell?, hb] at hc
  | none =>
    simp only [World.cell?, hb, Option.isSome_none, Bool.false_eq_true, if_false] at hc
    have hlt : p2 < n := by rw [← hn]; exact (Array.getElem?_eq_some_iff.1 hc).1
    rw [hcs p2 hlt] at hc
    cases hc

def RMat (o : Option (Nat × List Ed)) (w : World) (e : Ending) (w' : World) : Prop :=
  ∃ v rb, e = .returned v ∧ MatR w' w.heap.size v (gN o) (gN o) rb (fun i j => nearB (gE o) (i : Int) (j : Int)) ∧ Below w.heap.size w w'
set_option maxRecDepth 100000 in
set_option maxHeartbeats 2000000 in
theorem rmatrix_any (B : Nat) (x : Value) (o : Option (Nat × List Ed)) (w : World) (h : RG w B x o) (hB : B ≤ w.heap.size) :
    Calls Try.prog 47 #[x] w (RMat o w) := by
  have hg := h.good
  have hn := hg.n_le
  have hml : (gE o).length ≤ 16384 := by
    cases o with
    | none => exact Nat.zero_le _
    | some y => exact GOk.m_le hg
  have H := Lib.hid h
  clear h
  go_enter Try.func47, Try.ntmps47
  go_wp2_with fail
  go_loopw [3, 4] (fun t i wr => ∃ (k : Nat) (rb : Nat → Nat), k ≤ gN o ∧ i = .int .i64 k ∧ MatR wr w.heap.size t (gN o) k rb (fun _ _ => false) ∧ Below w.heap.size w wr) (fun _ i _ => gN o - (intOf i).toNat)
  case atStart => exact ⟨0, fun _ => 0, Nat.zero_le _, rfl, MatR.start _ _ _ _ _, Below.refl _ _⟩
  case round =>
    obtain ⟨k, rb, hk, rfl, hM, bel⟩ := hrel
    have hsr := bel.size
    have HC := Lib.hid (rcount_any B x o wr (H.out.below (bel.mono hB)))
    have HM := Lib.hid hM
    clear hM
    by_cases hlt : k < gN o
    · have hmk := run_make_row' (P := Try.prog) 88 4 (.bool false) 1 Try.underlying88 Try.infoB rfl .i64 .i64 (gN o) (by omega) (by omega) wr
      go_wp2_with fail
      refine HC.out.mono ?_
      rintro e w3 ⟨rfl, rfl⟩
      go_wp2_with fail
      refine HC.out.mono ?_
      rintro e w4 ⟨rfl, rfl⟩
      have hrow : (w4.alloc (.cells (madeCells #[.bool false] (gN o)) 4)).rowIs w4.heap.size 4 (gN o) (fun _ => .bool false) := World.rowIs_made _ _ _ _
      have hb5 : Below w4.heap.size w4 (w4.alloc (.cells (madeCells #[.bool false] (gN o)) 4)) := (Below.refl _ _).alloc (Nat.le_refl _) _
      have hs5 : (w4.alloc (.cells (madeCells #[.bool false] (gN o)) 4)).heap.size = w4.heap.size + 1 := by simp
      have hown := HM.out.own.alloc (.cells (madeCells #[.bool false] (gN o)) 4)
      go_wp2_with (at_builtin; refine push etSB rfl _ _ rfl w.heap.size _ _ _ hown rfl #[.slice (some ⟨w4.heap.size, 0, none⟩) (gN o) (gN o)] _ rfl (by simp) rfl (by simp [Value.oneCell']) (by omega) (by omega) (by omega) ?_; intro g cp w6 hown6 hg6 hv6)
      have bel6 : Below w.heap.size w w6 := (stepB0 bel hb5).grown hg6 (by omega) (fun j e => (hown.lt j e).1)
      have hM6 := HM.out.push hsr hrow hb5 hg6 hown6
      go_roundw
      case rel => exact ⟨k + 1, _, by omega, by go_num, hM6.congr fun i _ j _ => by simp, bel6⟩
      case measure => simp only [intOf]; omega
    · obtain rfl : k = gN o := by omega
      go_wp2_with fail
      refine HC.out.mono ?_
      rintro e w3 ⟨rfl, rfl⟩
      go_wp2_with fail
      refine (redges_any B x o w3 (H.out.below (bel.mono hB)) (by omega)).mono ?_
      rintro e w4 ⟨a, cap, A, rfl, hS, hb4⟩
      have hM4 := HM.out.below hb4
      have bel4 := stepB0 bel hb4
      have hs4 := bel4.size
      have HS := Lib.hid hS
      have hM0 : MatR w4 w.heap.size u3 (gN o) (gN o) rb (fun i j => nearTo (gE o) (i : Int) (j : Int) 0) := hM4.congr fun i _ j _ => rfl
      obtain ⟨la, lc, LA, rfl, hRO⟩ := Rd.own etSB (by have := hM4.own; rw [rowsV_flat] at this; exact this)
      clear hS HM HC hM4
      go_wp2_with fail
      go_loopw [6] (fun i wr => ∃ j : Nat, j ≤ (gE o).length ∧ i = .int .i64 j ∧ Hid (MatR wr w.heap.size (.slice la (gN o) lc) (gN o) (gN o) rb (fun x y => nearTo (gE o) (x : Int) (y : Int) j)) ∧ Hid (ES wr w4.heap.size (.slice a (gE o).length cap) (gE o) A) ∧ Below w.heap.size w wr) (fun i _ => (gE o).length - (intOf i).toNat)
      case atStart => exact ⟨0, Nat.zero_le _, rfl, Lib.hid hM0, HS, bel4⟩
      case round =>
        obtain ⟨j, hj, rfl, hM, hE, belr⟩ := hrel
        by_cases hlt2 : j < (gE o).length
        · obtain ⟨u, v, hu, hv, hun, hvn, huv⟩ := hg.nats hlt2
          have h1 := hE.out
          have hixe := h1.ix j hlt2
          have eu := ES.u h1 hlt2
          have ev := ES.v h1 hlt2
          rw [hu] at eu; rw [hv] at ev
          obtain ⟨p, hp1, hp2, hp3⟩ := hM.out.outer hun
          obtain ⟨q, hq1, hq2, hq3⟩ := hM.out.outer hvn
          have rc := (hM.out.row u hun).cell hvn
          have rz := (hM.out.row u hun).frozen v
          have rc2 := (hM.out.row v hvn).cell hun
          have rz2 := (hM.out.row v hvn).frozen u
          have hruv : rb u ≠ rb v := fun e => huv (hM.out.inj u v hun hvn e)
          clear h1
          go_upto_region 10 with fail
          go_region
          have M1 := Lib.hid ((hM.out.set hun v true).below (Below.refl _ _).drew)
          have E1 := Lib.hid ((es_set hE.out (hM.out.row u hun) v (.bool true)).below ((Below.refl _ _).drew))
          have b1 : Below w.heap.size w (wr.setCell ⟨rb u, v, none⟩ (.bool true)).drew := (belr.setCell (hM.out.lo u hun) _).drew
          clear hixe eu ev hp1 hp2 hp3 hq1 hq2 hq3 rc rz rc2 rz2 hM hE belr
          generalize (wr.setCell ⟨rb u, v, none⟩ (.bool true)).drew = W1 at *
          have h1 := E1.out
          have hixe := h1.ix j hlt2
          have eu := ES.u h1 hlt2
          have ev := ES.v h1 hlt2
          rw [hu] at eu; rw [hv] at ev
          obtain ⟨q, hq1, hq2, hq3⟩ := M1.out.outer hvn
          have rc2 := (M1.out.row v hvn).cell hun
          have rz2 := (M1.out.row v hvn).frozen u
          clear h1
          go_upto_region 11 with fail
          go_region
          have M2 := Lib.hid ((M1.out.set hvn u true).below (Below.refl _ _).drew)
          have E2 := Lib.hid ((es_set E1.out (M1.out.row v hvn) u (.bool true)).below ((Below.refl _ _).drew))
          have b2 : Below w.heap.size w (W1.setCell ⟨rb v, u, none⟩ (.bool true)).drew := (b1.setCell (M1.out.lo v hvn) _).drew
          clear hixe eu ev hq1 hq2 hq3 rc2 rz2 M1 E1 b1
          generalize (W1.setCell ⟨rb v, u, none⟩ (.bool true)).drew = W2 at *
          have M3 := Lib.hid (M2.out.congr (g := fun x y => nearTo (gE o) (x : Int) (y : Int) (j + 1)) fun i _ k _ => by
            rw [nearTo_b _ _ hlt2, hu, hv]
            by_cases c1 : i = v ∧ k = u
            · obtain ⟨rfl, rfl⟩ := c1; simp
            · rw [if_neg c1]
              by_cases c2 : i = u ∧ k = v
              · obtain ⟨rfl, rfl⟩ := c2; simp
              · rw [if_neg c2]
                have d1 : ((u : Int) == (i : Int) && (v : Int) == (k : Int)) = false := by simp; omega
                have d2 : ((u : Int) == (k : Int) && (v : Int) == (i : Int)) = false := by simp; omega
                rw [d1, d2]; simp)
          clear M2
          go_wp2_with fail
          go_roundw
          case rel => exact ⟨j + 1, by omega, by go_num, M3, E2, b2⟩
          case measure => simp only [intOf]; omega
        · obtain rfl : j = (gE o).length := by omega
          go_wp2_with fail
          go_ret
          exact ⟨_, rb, rfl, hM.out.congr fun i _ j _ => nearTo_end _ _ _, belr⟩
end Go.Proofs.Ytjdpkjjlcbgnbaa
