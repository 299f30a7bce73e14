/- The walks of made, has and without of the statements about bridge. Conditions: the pairs are in range. -/
import Derived.Test.YtcpikabhcjkkmaaCyc
import Derived.Test.YtcpikabhcjkkmaaGraph
import Derived.Test.YtcpikabhcjkkmaaMe
import Derived.Test.YtcpikabhcjkkmaaQRd
import Derived.BigQuiet
import Derived.IntWalk
namespace Go.Proofs.Ytcpikabhcjkkmaa
open Go.RowKit

def pAt (L : List (Int × Int)) (i : Nat) : Int × Int := L.getD i (0, 0)
theorem pAt_eq {L : List (Int × Int)} {i : Nat} (h : i < L.length) : pAt L i = L[i] := by simp [pAt, List.getD, h]
/-- the cells of the i-th pair -/
def prC (L : List (Int × Int)) (i : Nat) : Nat → Value
  | 0 => .int .u8 (pAt L i).1
  | _ => .int .u8 (pAt L i).2
/-- pairs in memory -/
abbrev PS (w : World) (B : Nat) (v : Value) (L : List (Int × Int)) (A : Nat → Addr) : Prop := Rd 43 2 w B v L.length (prC L) A
/-- pairs in range -/
def PrR (L : List (Int × Int)) : Prop := ∀ i, i < L.length → (0 ≤ (pAt L i).1 ∧ (pAt L i).1 ≤ 255) ∧ (0 ≤ (pAt L i).2 ∧ (pAt L i).2 ≤ 255)
/-- what made answers: a graph, its edges, its number of vertices -/
def MdRes (w : World) (e : Ending) (w' : World) : Prop := ∃ (b n : Nat) (E : List Ed) (a : Option Addr) (cap : Nat) (A : Nat → Addr), e = .returned (.tuple #[.pointer (some ⟨b, 0, none⟩), .slice a E.length cap, .int .i64 (n : Nat)]) ∧
  GraphAt w' w'.heap.size b n E ∧ ES w' w'.heap.size (.slice a E.length cap) E A ∧ OwnE w.heap.size (.slice a E.length cap) E w' ∧ 0 < n ∧ n ≤ 60 ∧ E.length ≤ 150 ∧ Below w.heap.size w w'
theorem gok_snoc {n : Nat} {E : List Ed} {u v x : Int} (G : GOk n E) (hl : E.length < 16384) (hu : 0 ≤ u ∧ u < n) (hv : 0 ≤ v ∧ v < n) (h : u ≠ v) : GOk n (E ++ [⟨u, v, x⟩]) := by
  refine ⟨G.n_le, by simp; omega, fun i hi => ?_⟩
  rw [List.length_append, List.length_singleton] at hi
  by_cases c : i < E.length
  · have : eAt (E ++ [⟨u, v, x⟩]) i = eAt E i := by rw [eAt_eq (by simp; omega), eAt_eq c, List.getElem_append_left c]
    rw [this]; exact G.ends i c
  · have : eAt (E ++ [⟨u, v, x⟩]) i = ⟨u, v, x⟩ := by
      obtain rfl : i = E.length := by omega
      rw [eAt_eq (by simp)]; simp
    rw [this]
    exact ⟨hu.1, hu.2, hv.1, hv.2, h⟩
set_option maxRecDepth 100000 in
set_option maxHeartbeats 2000000 in
theorem made_any (B : Nat) (a : Option Addr) (cap : Nat) (A : Nat → Addr) (L : List (Int × Int)) (z : Int) (w : World) (hS : PS w B (.slice a L.length cap) L A) (hB : B ≤ w.heap.size) (hr : PrR L) (hz : 0 ≤ z ∧ z ≤ 255) (hl : L.length ≤ 9223372036854775807) :
    Calls Try.prog 26 #[.int .u8 z, .slice a L.length cap] w (MdRes w) := by
  have HS := Lib.hid hS; have HR := Lib.hid hr
  obtain ⟨n, hn, hn0, hn1⟩ : ∃ n : Nat, 1 + z % 60 = (n : Int) ∧ 0 < n ∧ n ≤ 60 := ⟨(1 + z % 60).toNat, by omega, by omega, by omega⟩
  have c0 : IntKind.i64.wrap z = z := IntWalk.i64_in _ (by omega)
  have c1 : IntKind.i64.wrap (z % 60) = z % 60 := IntWalk.i64_in _ (by omega)
  have c2 : IntKind.i64.wrap (1 + z % 60) = 1 + z % 60 := IntWalk.i64_in _ (by omega)
  have e : z.tmod 60 = z % 60 := Int.tmod_eq_emod_of_nonneg hz.1
  have n1 : ((n : Int) == 0) = false := by simp; omega
  have hni : (0 : Int) < n ∧ (n : Int) ≤ 60 := by omega
  clear hS hr
  go_enter Try.func26, Try.ntmps26
  go_wp2_with fail
  try rw [hn]
  clear c0 c1 c2 e hn hz
  generalize z % 60 = z1 at *
  go_loopw [8, 9] (fun v iv wr => ∃ (q : Nat) (E : List Ed), q ≤ L.length ∧ iv = .int .i64 (q : Nat) ∧ Hid (OwnE w.heap.size v E wr) ∧ Hid (GOk n E) ∧ E.length ≤ 150 ∧ Below w.heap.size w wr) (fun _ iv _ => L.length - (intOf iv).toNat)
  case atStart => exact ⟨0, [], Nat.zero_le _, rfl, Lib.hid (OwnE.nil _ _), Lib.hid ⟨by omega, by decide, fun i hi => absurd hi (by simp)⟩, by decide, Below.refl _ _⟩
  case round =>
    obtain ⟨q, E, hq, rfl, HO, HG, hEl, bel⟩ := hrel
    have HO0 := HO
    obtain ⟨ea, ec, EA, rfl, hES⟩ := HO.out.rd
    have hmore : q < L.length → ∀ (_ : E.length < 150), True := fun _ _ => trivial
    by_cases hlt : q < L.length ∧ E.length < 150
    · obtain ⟨hlt, hlE⟩ := hlt
      have hLr := HS.out.below (bel.mono hB)
      have ix := hLr.ix q hlt
      have e0 := hLr.cell q hlt 0 (by omega)
      have e1 : wr.cell? ⟨(A q).block, (A q).off + 1, none⟩ = some (prC L q 1) := hLr.cell q hlt 1 (by omega)
      rw [add_zero] at e0
      unfold prC at e0 e1
      obtain ⟨hu, hv⟩ := HR.out q hlt
      obtain ⟨u, hue⟩ : ∃ z, (pAt L q).1 = z := ⟨_, rfl⟩
      obtain ⟨v, hve⟩ : ∃ z, (pAt L q).2 = z := ⟨_, rfl⟩
      rw [hue] at e0 hu; rw [hve] at e1 hv
      have hm1 : (0 : Int) ≤ u % (n : Int) ∧ u % (n : Int) < n := ⟨Int.emod_nonneg _ (by omega), Int.emod_lt_of_pos _ (by omega)⟩
      have hm2 : (0 : Int) ≤ v % (n : Int) ∧ v % (n : Int) < n := ⟨Int.emod_nonneg _ (by omega), Int.emod_lt_of_pos _ (by omega)⟩
      have t1 : u.tmod (n : Int) = u % (n : Int) := Int.tmod_eq_emod_of_nonneg (by omega)
      have t2 : v.tmod (n : Int) = v % (n : Int) := Int.tmod_eq_emod_of_nonneg (by omega)
      have c3 : IntKind.i64.wrap u = u := IntWalk.i64_in _ (by omega)
      have c4 : IntKind.i64.wrap v = v := IntWalk.i64_in _ (by omega)
      have hqv : (0 : Int) ≤ q ∧ (q : Int) < L.length := by omega
      have hsz := bel.size
      have d1 : decide ((q : Int) < (L.length : Nat)) = true := decide_eq_true (by omega)
      have d2 : decide (((E.length : Nat) : Int) < 150) = true := decide_eq_true (by omega)
      have d3 : decide (q < L.length) = true := decide_eq_true hlt
      have d4 : decide (E.length < 150) = true := decide_eq_true hlE
      clear hLr hue hve hES hmore
      by_cases hc : u % (n : Int) = v % (n : Int)
      · have k1 : ((u % (n : Int)) != (v % (n : Int))) = false := by simp [hc]
        clear hc HO0
        go_wp2_with fail
        go_quiet (fail)
        go_wp2_with fail
        go_roundw
        case rel => exact ⟨q + 1, E, by omega, by go_num, Lib.hid (HO.out.below (below_drewN (Below.refl _ _) _)), HG, hEl, below_drewN bel _⟩
        case measure => simp only [intOf]; omega
      · have k1 : ((u % (n : Int)) != (v % (n : Int))) = true := by simpa using hc
        have HG2 : Hid (GOk n (E ++ [⟨u % (n : Int), v % (n : Int), 0⟩])) := Lib.hid (gok_snoc HG.out (by omega) hm1 hm2 hc)
        have hown : ∀ m, (wr.drewN m).ownsRow w.heap.size 48 3 (.slice ea E.length ec) E.length (flat (edC E) E.length 3) := fun m => HO0.out.below (below_drewN (Below.refl _ _) m)
        have HOW := Lib.hid hown
        have HSz := Lib.hid (show ∀ m, w.heap.size ≤ (wr.drewN m).heap.size from fun m => hsz)
        clear hc hown HO HO0
        go_wp2_with fail
        go_quiet (fail)
        go_wp2_with (at_builtin; refine push etE rfl _ _ rfl w.heap.size _ _ _ (HOW.out _) rfl #[.int .i64 (u % (n : Int)), .int .i64 (v % (n : Int)), .int .i64 0] _ rfl rfl rfl (by simp [Value.oneCell']) (by omega) (by omega) (HSz.out _) ?_; intro g cp w5 hown5 hg5 hv5)
        have hb5 : Below w.heap.size w w5 := (below_drewN bel _).grown hg5 hsz (fun j e => ((HOW.out 0).lt j e).1)
        go_roundw
        case rel => exact ⟨q + 1, _, by omega, by go_num, Lib.hid (OwnE.snoc (x := ⟨u % (n : Int), v % (n : Int), 0⟩) hown5), HG2, by simp; omega, hb5⟩
        case measure => simp only [intOf]; omega
    · have HES := Lib.hid hES
      have HGn := Lib.hid (gnew_any wr.heap.size ea ec EA n E wr hES (Nat.le_refl _) (by omega))
      have hst : decide ((q : Int) < (L.length : Nat)) = false ∨ decide ((q : Int) < (L.length : Nat)) = true ∧ decide (((E.length : Nat) : Int) < 150) = false := by
        by_cases c : q < L.length
        · exact .inr ⟨decide_eq_true (by omega), decide_eq_false (by omega)⟩
        · exact .inl (decide_eq_false (by omega))
      have HFin : ∀ (e : Ending) (w6 : World), GNew n E wr e w6 → ∃ b, e = .returned (.tuple #[.pointer (some ⟨b, 0, none⟩), .int .i64 0]) ∧ MdRes w (.returned (.tuple #[.pointer (some ⟨b, 0, none⟩), .slice ea E.length ec, .int .i64 (n : Nat)])) w6 := by
        rintro e w6 ⟨hb6, ⟨h0, _⟩ | ⟨b, k6, hk6, -, rfl, hGr⟩⟩
        · exact absurd (gErr_ok HG.out) h0
        have hk6 : k6 = n := by omega
        rw [hk6] at hGr
        exact ⟨b, rfl, b, n, E, ea, ec, EA, rfl, hGr, (hES.below hb6).mono hb6.size, HO0.out.below hb6, hn0, hn1, hEl, bel.trans (hb6.mono bel.size)⟩
      have HFin := Lib.hid HFin
      clear hES HO HO0 hmore hlt
      rcases hst with d1 | ⟨d1, d2⟩
      · have d3 : decide (q < L.length) = false := by simpa using d1
        go_wp2_with fail
        refine HGn.out.mono ?_
        intro e w6 h6
        obtain ⟨b, rfl, hM⟩ := HFin.out e w6 h6
        have HM := Lib.hid hM
        clear hM h6
        go_wp2_with fail
        go_ret3
        exact HM.out
      · have d3 : decide (q < L.length) = true := by simpa using d1
        have d4 : decide (E.length < 150) = false := by simp at d2 ⊢; omega
        go_wp2_with fail
        refine HGn.out.mono ?_
        intro e w6 h6
        obtain ⟨b, rfl, hM⟩ := HFin.out e w6 h6
        have HM := Lib.hid hM
        clear hM h6
        go_wp2_with fail
        go_ret3
        exact HM.out
end Go.Proofs.Ytcpikabhcjkkmaa
