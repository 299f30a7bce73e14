/- The document's graph: Around, Degree. No conditions. -/
import Derived.Test.YtemcilmefknbbaaModRf
namespace Go.Proofs.Ytemcilmefknbbaa
open Go.RowKit Go.Shelf

theorem Try.infoPr : (Try.prog.info? 81).map (fun i => (i.zero, i.size, i.bytes)) = some (some (.agg #[.int .i64 0, .int .i64 0]), 2, 16) := by kernel_rfl
theorem etPr : ET 79 81 2 16 := ET.of Try.underlying79 Try.infoPr rfl (by decide)
/-- a pair: an edge and its other end -/
def prP (E : List Ed) (v : Int) (i : Nat) : List Value := [.int .i64 (i : Nat), .int .i64 (oth E v i)]
def prF (E : List Ed) (v : Int) (A : List Nat) (q j : Nat) : Value := if j = 0 then .int .i64 (A.getD q 0 : Nat) else .int .i64 (oth E v (A.getD q 0))
theorem range_getD (A : List Nat) : (List.range A.length).map (fun i => A.getD i 0) = A := by
  apply List.ext_getElem
  · simp
  · intro i h1 h2
    simp [h2]
theorem prF_flat (E : List Ed) (v : Int) (A : List Nat) : flat (prF E v A) A.length 2 = A.flatMap (prP E v) := by
  conv => rhs; rw [← range_getD A]
  rw [List.flatMap_map]
  rfl
/-- what Around of the document hands back -/
def RAr (o : Option (Nat × List Ed)) (u : Int) (w : World) (e : Ending) (w' : World) : Prop :=
  ∃ a cap A, e = .returned (.slice a (gAdj o u).length cap) ∧ Rd 79 2 w' w'.heap.size (.slice a (gAdj o u).length cap) (gAdj o u).length (prF (gE o) u (gAdj o u)) A ∧ Below w.heap.size w w'
theorem adjTo_len (E : List Ed) (k x : Nat) : (adjTo E k x).length ≤ k := Nat.le_trans (List.length_filter_le _ _) (by simp)

set_option maxRecDepth 100000 in
set_option maxHeartbeats 2000000 in
theorem raround_any (B : Nat) (v : Value) (o : Option (Nat × List Ed)) (u : Int) (w : World) (h : RG w B v o) (hB : B ≤ w.heap.size) :
    Calls Try.prog 41 #[v, .int .i64 u] w (RAr o u w) := by
  cases hh : gHas o u with
  | false =>
    have HH := Lib.hid (rhas_is hh h)
    have HA := Lib.hid (show gAdj o u = [] by rw [gAdj, hh]; rfl)
    clear hh h
    go_enter Try.func41, Try.ntmps41
    go_wp2_with fail
    refine HH.out.mono ?_
    rintro e w' ⟨rfl, rfl⟩
    go_wp2_with fail
    go_ret
    unfold RAr
    rw [HA.out]
    exact ⟨none, 0, fun _ => ⟨0, 0, none⟩, rfl, Rd.nil _, Below.refl _ _⟩
  | true =>
    have HH := Lib.hid (rhas_is hh h)
    obtain ⟨x, rfl, hx⟩ := gHas_iff.1 hh
    cases o with
    | none => exact absurd hx (Nat.not_lt_zero _)
    | some p =>
      obtain ⟨n, E⟩ := p
      have HA := Lib.hid (show gAdj (some (n, E)) (x : Int) = adjTo E E.length x by rw [gAdj, hh]; rfl)
      obtain ⟨b, rfl, h1⟩ := h
      have G := h1.ok
      have hml := G.m_le
      obtain ⟨ea, ec, EA, h2, h3⟩ := h1.edges
      have hblt := h1.lt
      have H2 := Lib.hid h2; have H3 := Lib.hid h3
      clear h1 hh h2 h3
      go_enter Try.func41, Try.ntmps41
      go_wp2_with fail
      refine HH.out.mono ?_
      rintro e w' ⟨rfl, rfl⟩
      go_wp2_with fail
      go_loopw [5, 6] (fun l i wr => ∃ k : Nat, k ≤ E.length ∧ i = .int .i64 (k : Nat) ∧ wr.ownsRow w'.heap.size 81 2 l (adjTo E k x).length ((adjTo E k x).flatMap (prP E x)) ∧ Below w'.heap.size w' wr) (fun _ i _ => E.length - (intOf i).toNat)
      case atStart => exact ⟨0, Nat.zero_le _, rfl, World.ownsRow_nil _ _ _ _, Below.refl _ _⟩
      case round =>
        obtain ⟨k, hk, rfl, hown, bel⟩ := hrel
        have c2 : wr.cell? ⟨b, 2, none⟩ = some (.slice ea E.length ec) := ((bel.mono hB).cell hblt).trans H2.out
        have hlk := adjTo_len E k x
        by_cases hlt : k < E.length
        · obtain ⟨y, z, hy, hz, hyn, hzn, hyz⟩ := G.nats hlt
          have hE := H3.out.below (bel.mono hB)
          have ix := hE.ix k hlt
          have e0 := ES.u hE hlt
          have e1 := ES.v hE hlt
          rw [hy] at e0; rw [hz] at e1
          have hsuc := adjTo_succ E k x
          clear hE
          by_cases hyx : y = x
          · have HS := Lib.hid (show adjTo E (k + 1) x = adjTo E k x ++ [k] by rw [hsuc, if_pos (by simp [inc, hy, hyx])])
            have HP := Lib.hid (show prP E x k = [.int .i64 (k : Nat), .int .i64 (z : Nat)] by
              unfold prP oth
              rw [hz, if_neg (by omega)])
            have q0 : ((y : Int) == (x : Int)) = true := by simp; omega
            have q1 : ((z : Int) == (x : Int)) = false := by simp; omega
            clear hsuc
            go_wp2_with (at_builtin; refine Hid.out ?_)
            refine Lib.hid ?_
            refine push etPr rfl _ _ rfl w'.heap.size _ _ _ hown rfl #[.int .i64 (k : Nat), .int .i64 (z : Nat)] _ rfl rfl rfl (by simp [Value.oneCell']) (by omega) (by omega) bel.size ?_
            intro g cp w5 hown5 hg5 hv5
            have hb5 : Below w'.heap.size wr w5 := (Below.refl _ wr).grown hg5 bel.size (fun j e => (hown.lt j e).1)
            have bel5 := bel.trans hb5
            have d2 : w5.cell? ⟨b, 2, none⟩ = some (.slice ea E.length ec) := ((bel5.mono hB).cell hblt).trans H2.out
            have hE := H3.out.below (bel5.mono hB)
            have f1 := ES.v hE hlt
            rw [hz] at f1
            clear hE c2 e0 e1 hown hg5 hv5 hb5 bel hy hz
            go_wp2_with fail
            go_roundw
            case rel => exact ⟨k + 1, by omega, by go_num, by rw [HS.out, List.length_append, List.flatMap_append, List.flatMap_singleton, HP.out]; exact hown5, bel5⟩
            case measure => simp only [intOf]; omega
          · have q0 : ((y : Int) == (x : Int)) = false := by simp; omega
            by_cases hzx : z = x
            · have HS := Lib.hid (show adjTo E (k + 1) x = adjTo E k x ++ [k] by rw [hsuc, if_pos (by simp [inc, hz, hzx])])
              have HP := Lib.hid (show prP E x k = [.int .i64 (k : Nat), .int .i64 (y : Nat)] by
                unfold prP oth
                rw [hz, hy, if_pos (by omega)])
              have q1 : ((z : Int) == (x : Int)) = true := by simp; omega
              clear hsuc
              go_wp2_with (at_builtin; refine Hid.out ?_)
              refine Lib.hid ?_
              refine push etPr rfl _ _ rfl w'.heap.size _ _ _ hown rfl #[.int .i64 (k : Nat), .int .i64 (y : Nat)] _ rfl rfl rfl (by simp [Value.oneCell']) (by omega) (by omega) bel.size ?_
              intro g cp w5 hown5 hg5 hv5
              have hb5 : Below w'.heap.size wr w5 := (Below.refl _ wr).grown hg5 bel.size (fun j e => (hown.lt j e).1)
              have bel5 := bel.trans hb5
              clear c2 e0 e1 hown hg5 hv5 hb5 bel hy hz
              go_wp2_with fail
              go_roundw
              case rel => exact ⟨k + 1, by omega, by go_num, by rw [HS.out, List.length_append, List.flatMap_append, List.flatMap_singleton, HP.out]; exact hown5, bel5⟩
              case measure => simp only [intOf]; omega
            · have HS := Lib.hid (show adjTo E (k + 1) x = adjTo E k x by rw [hsuc, if_neg (by simp [inc, hy, hz]; omega)])
              have q1 : ((z : Int) == (x : Int)) = false := by simp; omega
              clear hsuc
              go_wp2_with fail
              go_roundw
              case rel => exact ⟨k + 1, by omega, by go_num, by rw [HS.out]; exact hown, bel⟩
              case measure => simp only [intOf]; omega
        · obtain rfl : k = E.length := by omega
          rw [← prF_flat] at hown
          obtain ⟨ar, cr, AR, rfl, hR⟩ := Rd.own etPr hown
          have HR := Lib.hid hR
          clear hR hown
          go_wp2_with fail
          go_ret
          unfold RAr
          rw [HA.out]
          exact ⟨ar, cr, AR, rfl, HR.out, bel⟩
set_option maxHeartbeats 1000000 in
theorem rdegree_any (B : Nat) (v : Value) (o : Option (Nat × List Ed)) (u : Int) (w : World) (h : RG w B v o) (hB : B ≤ w.heap.size) :
    Calls Try.prog 57 #[v, .int .i64 u] w fun e w' => e = .returned (.int .i64 ((gAdj o u).length : Nat)) ∧ Below w.heap.size w w' := by
  have HA := Lib.hid (raround_any B v o u w h hB)
  clear h
  go_enter Try.func57, Try.ntmps57
  go_wp2_with fail
  refine HA.out.mono ?_
  rintro e w' ⟨a, cap, A, rfl, -, hb⟩
  go_wp2_with fail
  go_ret
  exact ⟨rfl, hb⟩
end Go.Proofs.Ytemcilmefknbbaa
