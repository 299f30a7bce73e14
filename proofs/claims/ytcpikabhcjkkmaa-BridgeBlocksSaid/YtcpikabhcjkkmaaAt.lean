/- The walks of the small methods of package graph: valid, has, at, N, Strength where there is no such vertex. Conditions: the graph was made by New, or it is nil or zero. -/
import Derived.Test.YtcpikabhcjkkmaaGraph
import Derived.Sort.BigQuietIn
import Derived.LaidEqlPtr
namespace Go.Proofs.Ytcpikabhcjkkmaa
open Go.RowKit

/-- a graph value: made by New (of n vertices and the edges E), or nil, or zero -/
def GV (w : World) (B : Nat) (v : Value) : Option (Nat × List Ed) → Prop
  | some x => ∃ b, v = .pointer (some ⟨b, 0, none⟩) ∧ GraphAt w B b x.1 x.2
  | none => v = .pointer none ∨ ∃ b, v = .pointer (some ⟨b, 0, none⟩) ∧ b < B ∧ w.cell? ⟨b, 0, none⟩ = some (.pointer none)
section
variable {w w' : World} {B B' : Nat} {v : Value} {o : Option (Nat × List Ed)}
theorem GV.below (h : GV w B v o) (hb : Below B w w') : GV w' B v o := by
  cases o with
  | some x => obtain ⟨b, h1, h2⟩ := h; exact ⟨b, h1, h2.below hb⟩
  | none =>
    rcases h with h | ⟨b, h1, h2, h3⟩
    · exact .inl h
    · exact .inr ⟨b, h1, h2, by rw [hb.cell h2]; exact h3⟩
theorem GV.mono (h : GV w B v o) (hB : B ≤ B') : GV w B' v o := by
  cases o with
  | some x => obtain ⟨b, h1, h2⟩ := h; exact ⟨b, h1, h2.mono hB⟩
  | none =>
    rcases h with h | ⟨b, h1, h2, h3⟩
    · exact .inl h
    · exact .inr ⟨b, h1, by omega, h3⟩
theorem GV.drewN (h : GV w B v o) (q : Nat) : GV (w.drewN q) B v o := h.below (below_drewN (Below.refl _ w) q)
end
/-- a graph's vertices, edges, and the edges of a vertex -/
def gN : Option (Nat × List Ed) → Nat
  | some x => x.1
  | none => 0
def gE : Option (Nat × List Ed) → List Ed
  | some x => x.2
  | none => []
def gHas (o : Option (Nat × List Ed)) (v : Int) : Bool := decide (0 ≤ v ∧ v < gN o)
def gAdj (o : Option (Nat × List Ed)) (v : Int) : List Nat := if gHas o v then adj (gE o) v.toNat else []
theorem gHas_no {o : Option (Nat × List Ed)} {v : Int} (h : ¬ (0 ≤ v ∧ v < gN o)) : gHas o v = false := decide_eq_false h
theorem gHas_yes {o : Option (Nat × List Ed)} {v : Int} (h : 0 ≤ v ∧ v < gN o) : gHas o v = true := decide_eq_true h
theorem gHas_iff {o : Option (Nat × List Ed)} {v : Int} : gHas o v = true ↔ ∃ x : Nat, v = x ∧ x < gN o := by
  simp only [gHas, decide_eq_true_eq]
  constructor
  · intro h; exact ⟨v.toNat, by omega, by omega⟩
  · rintro ⟨x, rfl, h⟩; omega

theorem Try.infoG : (Try.prog.info? 40).isSome = true := by kernel_rfl
theorem graph_same (a : Addr) (w : World) : (binOp .eql 23 (.pointer (some a)) (.pointer (some a))).run Try.prog w = .ok (.bool true) w := by
  obtain ⟨j, hj⟩ := Option.isSome_iff_exists.1 Try.infoG
  exact run_eql_ptr_same w a Try.underlying23 hj
theorem graph_zero (a : Addr) (w : World) : (binOp .eql 23 (.pointer none) (.pointer (some a))).run Try.prog w = .ok (.bool false) w := by
  obtain ⟨j, hj⟩ := Option.isSome_iff_exists.1 Try.infoG
  have h : ∀ d : Nat, (Op.equalIn (d + 1) 23 (.pointer none) (.pointer (some a))).run Try.prog w = .ok false w := fun d => by
    simp [Op.equalIn, run_underlying Try.underlying23]
  simp only [binOp]
  simp [Op.equal, Op.maxDepth, h 9999]

set_option maxHeartbeats 400000 in
theorem valid_any (B : Nat) (v : Value) (o : Option (Nat × List Ed)) (w : World) (h : GV w B v o) :
    Calls Try.prog 71 #[v] w fun e w' => e = .returned (.bool o.isSome) ∧ w = w' := by
  cases o with
  | some x =>
    obtain ⟨b, rfl, h2⟩ := h
    obtain ⟨sb, lb, a, cap, f, A, -, -, h3, -⟩ := h2.mem
    have c0 : w.cell? ⟨b, 0, none⟩ = some (.pointer (some ⟨b, 0, none⟩)) := h3.cell (by omega)
    have eq := graph_same ⟨b, 0, none⟩
    go_enter Try.func71, Try.ntmps71
    go_wp2
    go_ret
    exact ⟨rfl, rfl⟩
  | none =>
    rcases h with rfl | ⟨b, rfl, h2, h3⟩
    · go_enter Try.func71, Try.ntmps71
      go_wp2
      go_ret
      exact ⟨rfl, rfl⟩
    · have eq := graph_zero ⟨b, 0, none⟩
      go_enter Try.func71, Try.ntmps71
      go_wp2
      go_ret
      exact ⟨rfl, rfl⟩
theorem valid_is {B : Nat} {v : Value} {o : Option (Nat × List Ed)} {w : World} {x : Bool} (hx : o.isSome = x) (h : GV w B v o) :
    Calls Try.prog 71 #[v] w fun e w' => e = .returned (.bool x) ∧ w = w' := by
  subst hx; exact valid_any B v o w h

set_option maxHeartbeats 400000 in
theorem n_any (B : Nat) (v : Value) (o : Option (Nat × List Ed)) (w : World) (h : GV w B v o) :
    Calls Try.prog 42 #[v] w fun e w' => e = .returned (.int .i64 (gN o)) ∧ w = w' := by
  cases o with
  | some x =>
    have hv := valid_is (x := true) rfl h
    obtain ⟨b, rfl, h2⟩ := h
    obtain ⟨sb, lb, a, cap, f, A, -, -, h3, -⟩ := h2.mem
    have c2 : w.cell? ⟨b, 2, none⟩ = some (.slice (some ⟨sb, 0, none⟩) (x.1 + 1) (x.1 + 1)) := h3.cell (by omega)
    have hn := h2.ok.n_le
    clear h2 h3
    go_enter Try.func42, Try.ntmps42
    go_wp2_with fail
    refine hv.mono ?_
    rintro e w' ⟨rfl, rfl⟩
    go_wp2_with fail
    go_ret
    exact ⟨by simp [gN], rfl⟩
  | none =>
    have hv := valid_is (x := false) rfl h
    clear h
    go_enter Try.func42, Try.ntmps42
    go_wp2_with fail
    refine hv.mono ?_
    rintro e w' ⟨rfl, rfl⟩
    go_wp2_with fail
    go_ret
    exact ⟨by simp [gN], rfl⟩

set_option maxHeartbeats 400000 in
theorem has_any (B : Nat) (v : Value) (o : Option (Nat × List Ed)) (u : Int) (w : World) (h : GV w B v o) :
    Calls Try.prog 64 #[v, .int .i64 u] w fun e w' => e = .returned (.bool (gHas o u)) ∧ w = w' := by
  cases o with
  | some x =>
    have hv := valid_is (x := true) rfl h
    obtain ⟨b, rfl, h2⟩ := h
    obtain ⟨sb, lb, a, cap, f, A, -, -, h3, -⟩ := h2.mem
    have c2 : w.cell? ⟨b, 2, none⟩ = some (.slice (some ⟨sb, 0, none⟩) (x.1 + 1) (x.1 + 1)) := h3.cell (by omega)
    have hn := h2.ok.n_le
    clear h2 h3
    by_cases h0 : 0 ≤ u
    · by_cases h1 : u < x.1
      · have H := Lib.hid (gHas_yes (o := some x) (v := u) ⟨h0, h1⟩)
        go_enter Try.func64, Try.ntmps64
        go_wp2_with fail
        refine hv.mono ?_
        rintro e w' ⟨rfl, rfl⟩
        go_wp2_with fail
        go_ret
        exact ⟨by rw [H.out]; rfl, rfl⟩
      · have H := Lib.hid (gHas_no (o := some x) (v := u) (show ¬ (0 ≤ u ∧ u < (x.1 : Int)) by omega))
        go_enter Try.func64, Try.ntmps64
        go_wp2_with fail
        refine hv.mono ?_
        rintro e w' ⟨rfl, rfl⟩
        go_wp2_with fail
        go_ret
        exact ⟨by rw [H.out]; simp; omega, rfl⟩
    · have H := Lib.hid (gHas_no (o := some x) (v := u) (show ¬ (0 ≤ u ∧ u < (x.1 : Int)) by omega))
      go_enter Try.func64, Try.ntmps64
      go_wp2_with fail
      refine hv.mono ?_
      rintro e w' ⟨rfl, rfl⟩
      go_wp2_with fail
      go_ret
      exact ⟨by rw [H.out]; rfl, rfl⟩
  | none =>
    have hv := valid_is (x := false) rfl h
    clear h
    have hg : gHas none u = false := gHas_no (show ¬ (0 ≤ u ∧ u < ((0 : Nat) : Int)) by omega)
    have H := Lib.hid hg
    clear hg
    go_enter Try.func64, Try.ntmps64
    go_wp2_with fail
    refine hv.mono ?_
    rintro e w' ⟨rfl, rfl⟩
    go_wp2_with fail
    go_ret
    exact ⟨by rw [H.out]; rfl, rfl⟩
theorem has_is {B : Nat} {v : Value} {o : Option (Nat × List Ed)} {u : Int} {w : World} {x : Bool} (hx : gHas o u = x) (h : GV w B v o) :
    Calls Try.prog 64 #[v, .int .i64 u] w fun e w' => e = .returned (.bool x) ∧ w = w' := by
  subst hx; exact has_any B v o u w h

/-- a cut of a slice -/
theorem run_cut {t e : TypeId} {bytes : Nat} (E : ET t e 1 bytes) (b M lo hi : Nat) (h1 : lo ≤ hi) (h2 : hi ≤ M) :
    ∃ ad : Addr, (lo < hi → ad = ⟨b, lo, none⟩) ∧ ∀ w : World, (Instr.slice t (.slice (some ⟨b, 0, none⟩) M M) (some (.int .i64 (lo : Int))) (some (.int .i64 (hi : Int))) none).run Try.prog w = .ok (.slice (some ad) (hi - lo : Nat) (M - lo : Nat)) w := by
  refine ⟨if lo = M then ⟨b, 0, none⟩ else ⟨b, lo, none⟩, fun h => if_neg (by omega), fun w => ?_⟩
  simp [Instr.slice, run_underlying E.ht, Instr.sliceBounds, Instr.sliceBound, asIntOf, E.size, go_sem]
  rw [if_pos h2, if_pos h1]
  congr 2
  split <;> split <;> first | rfl | omega

def slI (m : Nat) (l : List Int) (w : World) (B : Nat) (v : Value) : Prop := ∃ a cap A, v = .slice a m cap ∧ Sl 29 .i64 w B v l A
/-- numbers as Go's -/
def ints (l : List Nat) : List Int := l.map fun (x : Nat) => (x : Int)
theorem ints_len (l : List Nat) : (ints l).length = l.length := by simp [ints]
theorem ints_at {l : List Nat} {i : Nat} (h : i < l.length) : nth (ints l) i = (l.getD i 0 : Nat) := by simp [ints, nth, h]

set_option maxHeartbeats 1000000 in
theorem at_any (B : Nat) (v : Value) (o : Option (Nat × List Ed)) (u : Int) (w : World) (h : GV w B v o) :
    Calls Try.prog 66 #[v, .int .i64 u] w fun e w' => ∃ a cap A, e = .returned (.slice a (gAdj o u).length cap) ∧ Rd 29 1 w' B (.slice a (gAdj o u).length cap) (gAdj o u).length (nums .i64 (ints (gAdj o u))) A ∧ ∃ q, w' = w.drewN q := by
  by_cases hh : gHas o u = true
  · have hv := has_is hh h
    have hadj : gAdj o u = adj (gE o) u.toNat := by rw [gAdj, if_pos hh]
    obtain ⟨x, rfl, hx⟩ := gHas_iff.1 hh
    rw [Int.toNat_natCast] at hadj
    cases o with
    | none => exact absurd hx (Nat.not_lt_zero _)
    | some y =>
      obtain ⟨b, rfl, h2⟩ := h
      obtain ⟨sb, lb, a, cap, f, A, hsb, hlb, h3, h4, h5, h6, -⟩ := h2.mem
      have G := h2.ok
      have hm := G.m_le
      have hn := G.n_le
      replace hx : x < y.1 := hx
      have hp := G.pre_n
      have hq := pre_mono y.2 (show x + 1 ≤ y.1 from hx)
      have hps : pre y.2 (x + 1) = pre y.2 x + deg y.2 x := rfl
      obtain ⟨ad, had, hcut⟩ := run_cut etI lb (2 * y.2.length) (pre y.2 x) (pre y.2 (x + 1)) (by omega) (by omega)
      have hdl : pre y.2 (x + 1) - pre y.2 x = (gAdj (some y) (x : Int)).length := by rw [hadj, hps]; show _ = deg y.2 x; omega
      rw [hdl] at hcut
      have hdeg : (gAdj (some y) (x : Int)).length = deg y.2 x := by rw [hadj]; rfl
      have c2 : w.cell? ⟨b, 2, none⟩ = some (.slice (some ⟨sb, 0, none⟩) (y.1 + 1) (y.1 + 1)) := h3.cell (by omega)
      have c3 : w.cell? ⟨b, 3, none⟩ = some (.slice (some ⟨lb, 0, none⟩) (2 * y.2.length) (2 * y.2.length)) := h3.cell (by omega)
      have s1 : w.cell? ⟨sb, x, none⟩ = some (.int .i64 (pre y.2 x : Nat)) := h4.cell (by omega)
      have s2 : w.cell? ⟨sb, x + 1, none⟩ = some (.int .i64 (pre y.2 (x + 1) : Nat)) := h4.cell (by omega)
      have hi : (0 : Int) ≤ x ∧ (x : Int) < y.1 + 1 := by omega
      have hi2 : (0 : Int) ≤ (x : Int) + 1 ∧ (x : Int) + 1 < y.1 + 1 := by omega
      have hfin : ∀ q, Rd 29 1 (w.drewN q) B (.slice (some ad) (gAdj (some y) (x : Int)).length (2 * y.2.length - pre y.2 x)) (gAdj (some y) (x : Int)).length (nums .i64 (ints (gAdj (some y) (x : Int)))) (fun i => ad.add (i * 1)) := fun q => by
        refine Rd.addr etI (fun h => ?_) fun i hi j hj => ?_
        · rw [had (Nat.lt_add_of_pos_right (show 0 < deg y.2 x by rw [← hdeg]; exact h))]; exact hlb
        · obtain rfl : j = 0 := by omega
          have h8 : i < deg y.2 x := by rw [← hdeg]; exact hi
          rw [had (Nat.lt_add_of_pos_right (show 0 < deg y.2 x by omega)), add_mk, Nat.mul_one, Nat.add_zero]
          have h9 := h6.at hx h8
          have h10 : w.cell? ⟨lb, pre y.2 x + i, none⟩ = _ := h5.cell (by have := hps; omega)
          rw [i64I, h9] at h10
          simp only [nums]
          rw [ints_at hi, hadj]
          exact h10
      clear h2 h3 h4 h5 h6 had hdeg hadj hdl hps G hh hp hq
      go_enter Try.func66, Try.ntmps66
      go_wp2_with fail
      refine hv.mono ?_
      rintro e w' ⟨rfl, rfl⟩
      go_wp2_with fail
      go_quiet (fail)
      go_wp2_with fail
      go_ret
      exact ⟨_, _, _, rfl, hfin _, _, rfl⟩
  · have hh : gHas o u = false := by simpa using hh
    have hv := has_is hh h
    have hadj : gAdj o u = [] := by rw [gAdj, hh]; rfl
    have H := Lib.hid hadj
    clear hadj hh
    go_enter Try.func66, Try.ntmps66
    go_wp2_with fail
    refine hv.mono ?_
    rintro e w' ⟨rfl, rfl⟩
    go_wp2_with fail
    go_ret
    exact ⟨none, 0, fun _ => ⟨0, 0, none⟩, by rw [H.out]; rfl, by rw [H.out]; exact Rd.nil _, 0, rfl⟩
end Go.Proofs.Ytcpikabhcjkkmaa
