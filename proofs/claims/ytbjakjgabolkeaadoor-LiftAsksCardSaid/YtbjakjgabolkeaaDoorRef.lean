/- The walks of the document's table of package seepageref19: what its methods answer at every argument. Conditions: the table was made by the document's New. -/
import Derived.Test.YtbjakjgabolkeaaDoorLoops
namespace Go.Proofs.YtbjakjgabolkeaaDoor
open Go.RowKit Go.Shelf

/-- the document's table of a forest at c, all of it in blocks before B -/
structure RefAt (w : World) (B c : Nat) (p : List Int) : Prop where
  tree : Tree p
  range : InRange p
  small : p.length ≤ 8192
  lt : c < B
  made : w.cell? ⟨c, 0, none⟩ = some (.bool true)
  par : ∃ a cap A, w.cell? ⟨c, 1, none⟩ = some (.slice a p.length cap) ∧ Sl 25 .i64 w B (.slice a p.length cap) p A
theorem RefAt.below {w w' : World} {B c : Nat} {p : List Int} (h : RefAt w B c p) (hb : Below B w w') : RefAt w' B c p where
  tree := h.tree
  range := h.range
  small := h.small
  lt := h.lt
  made := by rw [hb.cell h.lt]; exact h.made
  par := by
    obtain ⟨a, cap, A, h1, h2⟩ := h.par
    exact ⟨a, cap, A, by rw [hb.cell h.lt]; exact h1, h2.below hb⟩

theorem node_ref (c B : Nat) (p : List Int) (v : Int) (w : World) (h : RefAt w B c p) :
    Calls Tryd.prog 40 #[.pointer (some ⟨c, 0, none⟩), .int .i64 v] w fun e w' => e = .returned (.bool (inB p v)) ∧ w = w' := by
  have h1 := h.made
  obtain ⟨a, cap, A, h2, _⟩ := h.par
  clear h
  by_cases h0 : 0 ≤ v
  · go_enter Tryd.func40, Tryd.ntmps40
    go_wp2
    go_ret
    exact ⟨by simp [inB, h0], rfl⟩
  · go_enter Tryd.func40, Tryd.ntmps40
    go_wp2
    go_ret
    exact ⟨by simp [inB]; omega, rfl⟩
theorem node_is {c B : Nat} {p : List Int} {v : Int} {w : World} {x : Bool} (hx : inB p v = x) (h : RefAt w B c p) :
    Calls Tryd.prog 40 #[.pointer (some ⟨c, 0, none⟩), .int .i64 v] w fun e w' => e = .returned (.bool x) ∧ w = w' := by
  subst hx; exact node_ref _ _ _ _ _ h
theorem len_ref (c B : Nat) (p : List Int) (w : World) (h : RefAt w B c p) :
    Calls Tryd.prog 30 #[.pointer (some ⟨c, 0, none⟩)] w fun e w' => e = .returned (.int .i64 p.length) ∧ w = w' := by
  have h1 := h.made
  obtain ⟨a, cap, A, h2, _⟩ := h.par
  clear h
  go_enter Tryd.func30, Tryd.ntmps30
  go_wp2
  go_ret
  exact ⟨rfl, rfl⟩

/-- a node, its parent, and so on -/
def lineTo (p : List Int) (v k : Nat) : List Nat := (List.range k).map fun i => (anc p i v).getD 0
def lineI (p : List Int) (v : Int) : List Int := if inB p v then (lineTo p v.toNat (dp p v.toNat + 1)).map Nat.cast else []
theorem lineTo_succ (p : List Int) (v k : Nat) : lineTo p v (k + 1) = lineTo p v k ++ [(anc p k v).getD 0] := by simp [lineTo, List.range_succ]
theorem lineI_len {p : List Int} {v : Nat} (hv : v < p.length) : (lineI p v).length = dp p v + 1 := by
  have hi : inB p v = true := inB_iff.2 ⟨v, rfl, hv⟩
  simp [lineI, hi, lineTo]
theorem lineI_out {p : List Int} {v : Int} (hv : inB p v = false) : lineI p v = [] := by simp [lineI, hv]
theorem lineI_nth {p : List Int} {v k u : Nat} (hv : v < p.length) (hk : k ≤ dp p v) (hu : anc p k v = some u) : nth (lineI p v) k = u := by
  have hi : inB p v = true := inB_iff.2 ⟨v, rfl, hv⟩
  have : k < dp p v + 1 := by omega
  simp [lineI, hi, lineTo, nth, this, hu]
def lenOf : Value → Nat
  | .slice _ n _ => n
  | _ => 0
theorem ownsRow_lenOf {w : World} {base : Nat} {e : TypeId} {size n : Nat} {v : Value} {xs : List Value} (h : w.ownsRow base e size v n xs) : lenOf v = n := by
  rcases h.2 with ⟨rfl, h0⟩ | ⟨g, cap, cur, rfl, _⟩
  · exact h0.symm
  · rfl

set_option maxHeartbeats 1000000 in
theorem line_in (c B : Nat) (p : List Int) (v : Nat) (w : World) (h : RefAt w B c p) (hB : B ≤ w.heap.size) (hv : v < p.length) :
    Calls Tryd.prog 41 #[.pointer (some ⟨c, 0, none⟩), .int .i64 v] w (OwnPost w.heap.size (lineI p v) w) := by
  have hi : inB p v = true := inB_iff.2 ⟨v, rfl, hv⟩
  have H := Lib.hid hi
  have F := h.tree
  have hlI : (lineI p v).length = dp p v + 1 := lineI_len hv
  have hmI : (lineI p v).map (Value.int .i64) = (lineTo p v (dp p v + 1)).map nat64 := by
    rw [lineI, if_pos hi, List.map_map]; rfl
  have HL := Lib.hid hlI; have HM := Lib.hid hmI
  have hs := h.small
  have hd := dep_lt F hv
  clear hi hlI hmI
  go_enter Tryd.func41, Tryd.ntmps41
  go_wp2_with fail
  refine (node_is H.out h).mono ?_
  rintro e w' ⟨rfl, rfl⟩
  go_wp2_with fail
  go_loopw [1, 5] (fun u s wr => ∃ k : Nat, k ≤ dp p v + 1 ∧ u = .int .i64 (oi (anc p k v)) ∧ wr.ownsRow w.heap.size 3 1 s k ((lineTo p v k).map nat64) ∧ Below w.heap.size w wr) (fun _ s _ => dp p v + 1 - lenOf s)
  case atStart => exact ⟨0, Nat.zero_le _, rfl, World.ownsRow_nil _ _ _ _, Below.refl _ _⟩
  case round =>
    obtain ⟨k, hk, rfl, hown, hBr⟩ := hrel
    have hlen := ownsRow_lenOf hown
    by_cases hle : k ≤ dp p v
    · obtain ⟨x, hx⟩ := anc_some F k v hv hle
      have hxl := anc_lt F hv hx
      have hnx := nth_pa hxl h.range
      have hst : anc p (k + 1) v = pa p x := by rw [anc_succ, hx]; rfl
      have hls : lineTo p v (k + 1) = lineTo p v k ++ [x] := by rw [lineTo_succ, hx]; rfl
      rw [hx, show oi (some x) = (x : Int) from rfl]
      have HS := Lib.hid hst; have HLS := Lib.hid hls
      obtain ⟨a, cap, A, h1, h2⟩ := (h.below (hBr.mono hB)).par
      have hB2 := hBr.mono hB
      have ix := h2.ix x hxl
      have ce := h2.cell x hxl
      have hcl := h.lt
      have hAl := h2.lt x hxl
      rw [hnx, ← hst] at ce
      clear hnx hst hls hx h2
      have hc1 : (wr.alloc (.cells #[nat64 x] 3)).cell? ⟨c, 1, none⟩ = some (.slice a p.length cap) := by
        rw [World.cell?_of_block (Below.heap_alloc wr _ _ (by have := hBr.size; show c < wr.heap.size; omega))]; exact h1
      go_wp2_with (at_builtin; refine push et25 rfl _ _ rfl w.heap.size _ _ _ hown rfl #[nat64 x] _ rfl rfl rfl (by simp [nat64, Value.oneCell']) (by omega) (by omega) (by have := hBr.size; omega) ?_; intro g cp w1 hown1 hg1 hv1; have hb1 := hBr.grown hg1 hBr.size (fun j e => (hown.lt j e).1); have hd1 : w1.cell? ⟨c, 1, none⟩ = some (.slice a p.length cap) := (((hb1.mono hB).cell hcl).trans ((hB2.cell hcl).symm)).trans h1; have hd2 : w1.cell? (A x) = some (.int .i64 (oi (anc p (k + 1) v))) := (((hb1.mono hB).cell hAl).trans ((hB2.cell hAl).symm)).trans ce)
      go_roundw
      case rel => exact ⟨k + 1, by omega, rfl, by rw [HLS.out, List.map_append]; exact hown1, hb1⟩
      case measure => rw [hlen]; simp [lenOf]; omega
    · obtain rfl : k = dp p v + 1 := by omega
      have hx : anc p (dp p v + 1) v = none := (anc_none F hv).2 (by omega)
      rw [hx, show oi none = (-1 : Int) from rfl]
      clear hx
      go_wp2
      go_ret
      exact ⟨_, rfl, by rw [HL.out, HM.out]; exact hown, hBr⟩
end Go.Proofs.YtbjakjgabolkeaaDoor
