/- The document's graph in memory: New. No conditions. -/
import Derived.Test.YtcpikabhcjkkmaaMe
import Derived.Test.YtcpikabhcjkkmaaGraph
namespace Go.Proofs.Ytcpikabhcjkkmaa
open Go.RowKit

/-- the document's graph at an address -/
structure RAt (w : World) (B b n : Nat) (E : List Ed) : Prop where
  ok : GOk n E
  lt : b < B
  made : w.cell? ⟨b, 0, none⟩ = some (.bool true)
  num : w.cell? ⟨b, 1, none⟩ = some (.int .i64 n)
  edges : ∃ a cap A, w.cell? ⟨b, 2, none⟩ = some (.slice a E.length cap) ∧ ES w B (.slice a E.length cap) E A
section
variable {w w' : World} {B B' b n : Nat} {E : List Ed} {v : Value}
theorem RAt.below (h : RAt w B b n E) (hb : Below B w w') : RAt w' B b n E := by
  obtain ⟨a, cap, A, h1, h2⟩ := h.edges
  exact ⟨h.ok, h.lt, (hb.cell h.lt).trans h.made, (hb.cell h.lt).trans h.num, a, cap, A, (hb.cell h.lt).trans h1, h2.below hb⟩
theorem RAt.mono (h : RAt w B b n E) (hB : B ≤ B') : RAt w B' b n E := by
  obtain ⟨a, cap, A, h1, h2⟩ := h.edges
  exact ⟨h.ok, Nat.lt_of_lt_of_le h.lt hB, h.made, h.num, a, cap, A, h1, h2.mono hB⟩
end
/-- the document's graph as a value -/
def RG (w : World) (B : Nat) (v : Value) : Option (Nat × List Ed) → Prop
  | some (n, E) => ∃ b, v = .pointer (some ⟨b, 0, none⟩) ∧ RAt w B b n E
  | none => v = .pointer none
section
variable {w w' : World} {B B' : Nat} {v : Value}
theorem RG.below {o : Option (Nat × List Ed)} (h : RG w B v o) (hb : Below B w w') : RG w' B v o := by
  cases o with
  | none => exact h
  | some x => obtain ⟨b, rfl, h1⟩ := h; exact ⟨b, rfl, h1.below hb⟩
theorem RG.mono {o : Option (Nat × List Ed)} (h : RG w B v o) (hB : B ≤ B') : RG w B' v o := by
  cases o with
  | none => exact h
  | some x => obtain ⟨b, rfl, h1⟩ := h; exact ⟨b, rfl, h1.mono hB⟩
end
/-- the graph of a number and edges, if it is accepted -/
def gO (n : Int) (E : List Ed) : Option (Nat × List Ed) := if gErr n E = 0 then some (n.toNat, E) else none
theorem gO_some {n : Nat} {E : List Ed} (G : GOk n E) : gO n E = some (n, E) := by rw [gO, if_pos (gErr_ok G), Int.toNat_natCast]
theorem gO_none {n : Int} {E : List Ed} (h : gErr n E ≠ 0) : gO n E = none := by rw [gO, if_neg h]
def RNew (n : Int) (E : List Ed) (w : World) (e : Ending) (w' : World) : Prop :=
  ∃ v, e = .returned (.tuple #[v, .int .i64 (gErr n E)]) ∧ RG w' w'.heap.size v (gO n E) ∧ Below w.heap.size w w'
theorem RNew.bad {n : Int} {E : List Ed} {w w' : World} {x : Int} (h : gErr n E = x) (hx : x ≠ 0) (hb : Below w.heap.size w w') : RNew n E w (.returned (.tuple #[.pointer none, .int .i64 x])) w' :=
  ⟨_, by rw [h], by rw [gO_none (by rw [h]; exact hx)]; rfl, hb⟩

set_option maxRecDepth 100000 in
set_option maxHeartbeats 2000000 in
theorem rnew_any (B : Nat) (a : Option Addr) (cap : Nat) (A : Nat → Addr) (n : Int) (E : List Ed) (w : World) (hS : ES w B (.slice a E.length cap) E A) (hB : B ≤ w.heap.size) (hm : E.length ≤ 9223372036854775807) :
    Calls Try.prog 34 #[.int .i64 n, .slice a E.length cap] w (RNew n E w) := by
  by_cases h1 : n < 0
  · have he := Lib.hid (gErr_two (n := n) (E := E) (.inl h1))
    go_enter Try.func34, Try.ntmps34
    go_wp2_with fail
    go_ret2
    exact RNew.bad he.out (by decide) (Below.refl _ _)
  by_cases h2 : 4096 < n
  · have he := Lib.hid (gErr_two (n := n) (E := E) (.inr (.inl h2)))
    go_enter Try.func34, Try.ntmps34
    go_wp2_with fail
    go_ret2
    exact RNew.bad he.out (by decide) (Below.refl _ _)
  by_cases h3 : 16384 < E.length
  · have he := Lib.hid (gErr_two (n := n) (E := E) (.inr (.inr h3)))
    go_enter Try.func34, Try.ntmps34
    go_wp2_with fail
    go_ret2
    exact RNew.bad he.out (by decide) (Below.refl _ _)
  have he := Lib.hid (show gErr n E = scanE n E by rw [gErr, if_neg (by omega)])
  go_enter Try.func34, Try.ntmps34
  go_wp2_with fail
  go_loopw [6] (fun i wr => ∃ k : Nat, k ≤ E.length ∧ i = .int .i64 k ∧ Hid (scanE n E = scanE n (E.drop k)) ∧ Below w.heap.size w wr) (fun i _ => E.length - (intOf i).toNat)
  case atStart => exact ⟨0, Nat.zero_le _, rfl, Lib.hid rfl, Below.refl _ _⟩
  case round =>
    obtain ⟨k, hk, rfl, hs, bel⟩ := hrel
    by_cases hlt : k < E.length
    · have hEr := hS.below (bel.mono hB)
      have e0 := ES.u hEr hlt
      have e1 := ES.v hEr hlt
      have ix := hEr.ix k hlt
      clear hEr
      by_cases c1 : (eAt E k).u < 0
      · have hf := Lib.hid (hs.out.trans (scanE_bad hlt (badE_true (.inl c1))))
        go_wp2_with fail
        go_ret2
        exact RNew.bad (he.out.trans hf.out) (by decide) bel
      by_cases c2 : n ≤ (eAt E k).u
      · have hf := Lib.hid (hs.out.trans (scanE_bad hlt (badE_true (.inr (.inl c2)))))
        go_wp2_with fail
        go_ret2
        exact RNew.bad (he.out.trans hf.out) (by decide) bel
      by_cases c3 : (eAt E k).v < 0
      · have hf := Lib.hid (hs.out.trans (scanE_bad hlt (badE_true (.inr (.inr (.inl c3))))))
        go_wp2_with fail
        go_ret2
        exact RNew.bad (he.out.trans hf.out) (by decide) bel
      by_cases c4 : n ≤ (eAt E k).v
      · have hf := Lib.hid (hs.out.trans (scanE_bad hlt (badE_true (.inr (.inr (.inr c4))))))
        go_wp2_with fail
        go_ret2
        exact RNew.bad (he.out.trans hf.out) (by decide) bel
      have hb : badE n (eAt E k) = false := badE_iff.2 ⟨by omega, by omega, by omega, by omega⟩
      by_cases c5 : (eAt E k).u = (eAt E k).v
      · have hf := Lib.hid (hs.out.trans (scanE_loop hlt hb c5))
        have hq : ((eAt E k).u == (eAt E k).v) = true := beq_iff_eq.2 c5
        clear c5 hb
        go_wp2_with fail
        go_quiet (fail)
        go_wp2_with fail
        go_ret2
        exact RNew.bad (he.out.trans hf.out) (by decide) (below_drewN bel _)
      · have hf := Lib.hid (hs.out.trans (scanE_next hlt hb c5))
        have hq : ((eAt E k).u == (eAt E k).v) = false := beq_eq_false_iff_ne.2 c5
        clear c5 hb
        go_wp2_with fail
        go_quiet (fail)
        go_wp2_with fail
        go_roundw
        case rel => exact ⟨k + 1, by omega, by go_num, hf, below_drewN bel _⟩
        case measure => simp only [intOf]; omega
    · obtain rfl : k = E.length := by omega
      have hz : gErr n E = 0 := he.out.trans (hs.out.trans scanE_end)
      obtain ⟨m, rfl, G⟩ := gErr_zero hz
      have HS := Lib.hid (hS.below (bel.mono hB))
      have hsz := bel.size
      clear hS hz he hs
      go_wp2_with (at_builtin; refine copiedAny etE rfl _ _ rfl HS.out (by omega) (fun i _ j _ => edC_one E i j) _ rfl (by simp) rfl (by omega) (by omega) ?_; intro g cp w2 hg2 R2 D2)
      go_ret2
      obtain ⟨a', c', A', e1, e2⟩ := Rd.own etE R2
      cases e1
      have hb3 : Below w2.heap.size w2 (w2.alloc (.cells #[.bool true, .int .i64 m, .slice (some ⟨g, 0, none⟩) E.length cp] 73)) := (Below.refl _ _).alloc (Nat.le_refl _) _
      refine ⟨_, by rw [gErr_ok G]; rfl, ?_, bel.trans ((D2.trans (hb3.mono D2.size)).mono hsz)⟩
      rw [gO_some G]
      exact ⟨_, rfl, G, by simp, by go_simp, by go_simp, _, _, A', by go_simp, (e2.below hb3).mono (by simp)⟩

end Go.Proofs.Ytcpikabhcjkkmaa
