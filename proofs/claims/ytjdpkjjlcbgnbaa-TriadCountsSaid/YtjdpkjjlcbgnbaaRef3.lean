/- The document's Common, and the law TriadCommon's walk. Conditions: as each says. -/
import Derived.Test.YtjdpkjjlcbgnbaaRef2
namespace Go.Proofs.Ytjdpkjjlcbgnbaa
open Go.RowKit Go.Shelf

/-- the common neighbours below k -/
def cmL (o : Option (Nat × List Ed)) (u v : Int) (k : Nat) : List Int := ((List.range k).filter fun (y : Nat) => nearB (gE o) u (y : Int) && nearB (gE o) v (y : Int)).map fun (y : Nat) => (y : Int)
theorem cmL_succ (o : Option (Nat × List Ed)) (u v : Int) (k : Nat) : cmL o u v (k + 1) = if nearB (gE o) u (k : Int) && nearB (gE o) v (k : Int) then cmL o u v k ++ [(k : Int)] else cmL o u v k := by
  unfold cmL
  rw [List.range_succ, List.filter_append, List.map_append]
  by_cases h : (nearB (gE o) u (k : Int) && nearB (gE o) v (k : Int)) = true
  · rw [if_pos h]; simp [h]
  · rw [if_neg h]; simp [h]
theorem cmL_len (o : Option (Nat × List Ed)) (u v : Int) (k : Nat) : (cmL o u v k).length ≤ k := by
  unfold cmL; rw [List.length_map]
  exact Nat.le_trans (List.length_filter_le _ _) (by simp)
theorem cmL_inter (o : Option (Nat × List Ed)) (u v : Int) : cmL o u v (gN o) = inter (nbr o u) (nbr o v) := by
  refine sorted_ext ?_ (inter_sorted (nbr_sorted o u)) fun x => ?_
  · unfold cmL
    rw [List.pairwise_map]
    exact ((range_lt (gN o)).filter _).imp fun h => by omega
  · rw [mem_inter, mem_nbr, mem_nbr]
    unfold cmL
    simp only [List.mem_map, List.mem_filter, List.mem_range, Bool.and_eq_true]
    constructor
    · rintro ⟨y, ⟨h1, h2, h3⟩, rfl⟩
      exact ⟨⟨by omega, by omega, h2⟩, by omega, by omega, h3⟩
    · rintro ⟨⟨h1, h2, h3⟩, _, _, h6⟩
      obtain ⟨y, rfl⟩ : ∃ y : Nat, x = y := ⟨x.toNat, by omega⟩
      exact ⟨y, ⟨by omega, h3, h6⟩, rfl⟩
theorem inter_none {o : Option (Nat × List Ed)} (h : GoG o) {u v : Int} (hh : gHas o u = false ∨ gHas o v = false) : inter (nbr o u) (nbr o v) = [] := by
  refine List.eq_nil_iff_forall_not_mem.2 fun x hx => ?_
  rw [mem_inter, mem_nbr, mem_nbr] at hx
  have h1 := h.near hx.1.2.2
  have h2 := h.near hx.2.2.2
  rcases hh with hh | hh
  · rw [gHas_yes ⟨h1.1, h1.2.1⟩] at hh; cases hh
  · rw [gHas_yes ⟨h2.1, h2.2.1⟩] at hh; cases hh
theorem RG.good {w : World} {B : Nat} {v : Value} {o : Option (Nat × List Ed)} (h : RG w B v o) : GoG o := by
  cases o with
  | none => trivial
  | some x => obtain ⟨b, _, h1⟩ := h; exact h1.ok
theorem rnear_is {B : Nat} {x : Value} {o : Option (Nat × List Ed)} {u v : Int} {w : World} {r : Bool} (hr : nearB (gE o) u v = r) (h : RG w B x o) (hB : B ≤ w.heap.size) :
    Calls Try.prog 44 #[x, .int .i64 u, .int .i64 v] w fun e w' => e = .returned (.bool r) ∧ Below w.heap.size w w' := by
  subst hr; exact rnear_any B x o u v w h hB

set_option maxRecDepth 100000 in
set_option maxHeartbeats 2000000 in
theorem rcommon_any (B : Nat) (x : Value) (o : Option (Nat × List Ed)) (u v : Int) (w : World) (h : RG w B x o) (hB : B ≤ w.heap.size) :
    Calls Try.prog 26 #[x, .int .i64 u, .int .i64 v] w fun e w' => ∃ y, e = .returned y ∧ w'.ownsRow w.heap.size 3 1 y (inter (nbr o u) (nbr o v)).length ((inter (nbr o u) (nbr o v)).map (Value.int .i64)) ∧ Below w.heap.size w w' := by
  have hg := h.good
  have hn := hg.n_le
  have H := Lib.hid h
  cases hu : gHas o u with
  | false =>
    have HI := Lib.hid (inter_none hg (v := v) (.inl hu))
    have H1 := Lib.hid (rhas_is hu h)
    clear h hu
    go_enter Try.func26, Try.ntmps26
    go_wp2_with fail
    refine H1.out.mono ?_
    rintro e w' ⟨rfl, rfl⟩
    go_wp2_with fail
    go_ret
    exact ⟨_, rfl, by rw [HI.out]; exact World.ownsRow_nil _ _ _ _, Below.refl _ _⟩
  | true =>
    cases hv : gHas o v with
    | false =>
      have HI := Lib.hid (inter_none hg (u := u) (.inr hv))
      have H1 := Lib.hid (rhas_is hu h)
      have H2 := Lib.hid (rhas_is hv h)
      clear h hu hv
      go_enter Try.func26, Try.ntmps26
      go_wp2_with fail
      refine H1.out.mono ?_
      rintro e w' ⟨rfl, rfl⟩
      go_wp2_with fail
      refine H2.out.mono ?_
      rintro e w'' ⟨rfl, rfl⟩
      go_wp2_with fail
      go_ret
      exact ⟨_, rfl, by rw [HI.out]; exact World.ownsRow_nil _ _ _ _, Below.refl _ _⟩
    | true =>
      have H1 := Lib.hid (rhas_is hu h)
      have H2 := Lib.hid (rhas_is hv h)
      clear h hu hv
      go_enter Try.func26, Try.ntmps26
      go_wp2_with fail
      refine H1.out.mono ?_
      rintro e w' ⟨rfl, rfl⟩
      go_wp2_with fail
      refine H2.out.mono ?_
      rintro e w'' ⟨rfl, rfl⟩
      clear H1 H2
      go_wp2_with fail
      go_loopw [7, 8] (fun t i wr => ∃ k : Nat, k ≤ gN o ∧ i = .int .i64 k ∧ wr.ownsRow w''.heap.size 3 1 t (cmL o u v k).length ((cmL o u v k).map (Value.int .i64)) ∧ Below w''.heap.size w'' wr) (fun _ i _ => gN o - (intOf i).toNat)
      case atStart => exact ⟨0, Nat.zero_le _, rfl, World.ownsRow_nil _ _ _ _, Below.refl _ _⟩
      case round =>
        obtain ⟨k, hk, rfl, hown, bel⟩ := hrel
        have hsr := bel.size
        have HC := Lib.hid (rcount_any B x o wr (H.out.below (bel.mono hB)))
        by_cases hlt : k < gN o
        · have hlen := cmL_len o u v k
          have Hs := Lib.hid (cmL_succ o u v k)
          cases h1 : nearB (gE o) u (k : Int) with
          | false =>
            have HN := Lib.hid (rnear_is h1 (H.out.below (bel.mono hB)) (by omega))
            have HK := Lib.hid (show cmL o u v (k + 1) = cmL o u v k by rw [Hs.out, h1]; rfl)
            clear h1 Hs
            go_wp2_with fail
            refine HC.out.mono ?_
            rintro e w3 ⟨rfl, rfl⟩
            go_wp2_with fail
            refine HN.out.mono ?_
            rintro e w4 ⟨rfl, hb4⟩
            have hown4 := ownsRow_below hown hb4
            go_wp2_with fail
            go_roundw
            case rel => exact ⟨k + 1, by omega, by go_num, by rw [HK.out]; exact hown4, stepB0 bel hb4⟩
            case measure => simp only [intOf]; omega
          | true =>
            have HN := Lib.hid (rnear_is h1 (H.out.below (bel.mono hB)) (by omega))
            cases h2 : nearB (gE o) v (k : Int) with
            | false =>
              have HK := Lib.hid (show cmL o u v (k + 1) = cmL o u v k by rw [Hs.out, h1, h2]; rfl)
              have HM := Lib.hid h2
              clear h1 h2 Hs
              go_wp2_with fail
              refine HC.out.mono ?_
              rintro e w3 ⟨rfl, rfl⟩
              go_wp2_with fail
              refine HN.out.mono ?_
              rintro e w4 ⟨rfl, hb4⟩
              have bel4 := stepB0 bel hb4
              have hs4 := bel4.size
              go_wp2_with fail
              refine (rnear_is HM.out (H.out.below (bel4.mono hB)) (by omega)).mono ?_
              rintro e w5 ⟨rfl, hb5⟩
              have hown5 := ownsRow_below (ownsRow_below hown hb4) hb5
              go_wp2_with fail
              go_roundw
              case rel => exact ⟨k + 1, by omega, by go_num, by rw [HK.out]; exact hown5, stepB0 bel4 hb5⟩
              case measure => simp only [intOf]; omega
            | true =>
              have HK := Lib.hid (show cmL o u v (k + 1) = cmL o u v k ++ [(k : Int)] by rw [Hs.out, h1, h2]; rfl)
              have HM := Lib.hid h2
              clear h1 h2 Hs
              go_wp2_with fail
              refine HC.out.mono ?_
              rintro e w3 ⟨rfl, rfl⟩
              go_wp2_with fail
              refine HN.out.mono ?_
              rintro e w4 ⟨rfl, hb4⟩
              have bel4 := stepB0 bel hb4
              have hs4 := bel4.size
              go_wp2_with fail
              refine (rnear_is HM.out (H.out.below (bel4.mono hB)) (by omega)).mono ?_
              rintro e w5 ⟨rfl, hb5⟩
              have hown5 := ownsRow_below (ownsRow_below hown hb4) hb5
              have bel5 := stepB0 bel4 hb5
              clear hown
              go_wp2_with (at_builtin; refine push etI rfl _ _ rfl w''.heap.size _ _ _ hown5 rfl #[.int .i64 k] _ rfl rfl rfl (by simp [Value.oneCell']) (by omega) (by omega) bel5.size ?_; intro g cp w6 hown6 hg6 hv6)
              have bel6 : Below w''.heap.size w'' w6 := bel5.grown hg6 bel5.size (fun j e => (hown5.lt j e).1)
              go_roundw
              case rel => exact ⟨k + 1, by omega, by go_num, by rw [HK.out, List.length_append, List.map_append]; exact hown6, bel6⟩
              case measure => simp only [intOf]; omega
        · obtain rfl : k = gN o := by omega
          have HE := Lib.hid (cmL_inter o u v)
          go_wp2_with fail
          refine HC.out.mono ?_
          rintro e w3 ⟨rfl, rfl⟩
          go_wp2_with fail
          go_ret
          exact ⟨_, rfl, by rw [← HE.out]; exact hown, bel⟩
end Go.Proofs.Ytjdpkjjlcbgnbaa
