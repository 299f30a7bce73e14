/- Plain mathematics: a graph with every edge twice. Conditions: the graph is one that is accepted. -/
import Derived.Test.YtcpikabhcjkkmaaBpB
import Derived.Test.YtcpikabhcjkkmaaBlR
namespace Go.Proofs.Ytcpikabhcjkkmaa

section
variable {n : Nat} {E : List Ed} {a b i j v x y : Nat}
theorem dbl_len (E : List Ed) : (E ++ E).length = 2 * E.length := by rw [List.length_append]; omega
theorem dbl_mod (hi : i < (E ++ E).length) : i % E.length < E.length ∧ eAt (E ++ E) i = eAt E (i % E.length) := by
  rw [dbl_len] at hi
  have hm : 0 < E.length := by omega
  refine ⟨Nat.mod_lt _ hm, ?_⟩
  by_cases c : i < E.length
  · rw [Nat.mod_eq_of_lt c, eAt_eq (by rw [dbl_len]; omega), eAt_eq c, List.getElem_append_left c]
  · have e : i % E.length = i - E.length := by
      rw [Nat.mod_eq_sub_mod (by omega), Nat.mod_eq_of_lt (by omega)]
    rw [e, eAt_eq (by rw [dbl_len]; omega), eAt_eq (by omega), List.getElem_append_right (by omega)]
theorem dbl_edP (hi : i < (E ++ E).length) : edP (E ++ E) i = edP E (i % E.length) := by unfold edP; rw [(dbl_mod hi).2]
theorem dbl_lnk (hi : i < (E ++ E).length) : Lnk (E ++ E) i a b ↔ Lnk E (i % E.length) a b := by unfold Lnk; rw [dbl_edP hi]
theorem dbl_lt (hi : i < E.length) : i < (E ++ E).length ∧ i % E.length = i := ⟨by rw [dbl_len]; omega, Nat.mod_eq_of_lt hi⟩
theorem dbl_ok (G : GOk n E) (h : 2 * E.length ≤ 16384) : GOk n (E ++ E) :=
  ⟨G.n_le, by rw [dbl_len]; exact h, fun i hi => by rw [(dbl_mod hi).2]; exact G.ends _ (dbl_mod hi).1⟩
theorem dbl_ci {S T : Nat → Prop} (h1 : ∀ i, S i → i < (E ++ E).length ∧ T (i % E.length)) (h2 : ∀ i, T i → i < E.length ∧ S i) : CI (E ++ E) S a b ↔ CI E T a b := by
  constructor
  · intro h
    induction h with
    | refl => exact .refl _
    | step i _ hi hl ih => exact .step _ ih (h1 i hi).2 ((dbl_lnk (h1 i hi).1).1 hl)
  · intro h
    induction h with
    | refl => exact .refl _
    | step i _ hi hl ih =>
      have := dbl_lt (h2 i hi).1
      exact .step i ih (h2 i hi).2 ((dbl_lnk this.1).2 (by rw [this.2]; exact hl))
theorem dbl_noV : CI (E ++ E) (noV (E ++ E) v) a b ↔ CI E (noV E v) a b :=
  dbl_ci (fun i hi => by
    refine ⟨hi.1, (dbl_mod hi.1).1, ?_⟩
    rw [← dbl_edP hi.1]; exact hi.2) (fun i hi => by
    have := dbl_lt hi.1
    refine ⟨hi.1, this.1, ?_⟩
    rw [dbl_edP this.1, this.2]; exact hi.2)
theorem dbl_near : Near (E ++ E) i j ↔ i < (E ++ E).length ∧ j < (E ++ E).length ∧ Near E (i % E.length) (j % E.length) := by
  constructor
  · rintro ⟨h1, h2, v, x, y, l1, l2, h3⟩
    exact ⟨h1, h2, (dbl_mod h1).1, (dbl_mod h2).1, v, x, y, (dbl_lnk h1).1 l1, (dbl_lnk h2).1 l2, h3.imp id dbl_noV.1⟩
  · rintro ⟨h1, h2, _, _, v, x, y, l1, l2, h3⟩
    exact ⟨h1, h2, v, x, y, (dbl_lnk h1).2 l1, (dbl_lnk h2).2 l2, h3.imp id dbl_noV.2⟩
theorem near_refl (h : i < E.length) : Near E i i := ⟨h, h, _, _, _, .inl rfl, .inl rfl, .inl rfl⟩
theorem dbl_nearC (hi : i < (E ++ E).length) : NearC (E ++ E) i j ↔ j < (E ++ E).length ∧ NearC E (i % E.length) (j % E.length) := by
  constructor
  · intro h
    induction h with
    | refl => exact ⟨hi, .refl _⟩
    | step _ k ih => exact ⟨k.2.1, .step ih.2 (dbl_near.1 k).2.2⟩
  · rintro ⟨hj, h⟩
    have key : ∀ a b, NearC E a b → ∀ i j, i < (E ++ E).length → j < (E ++ E).length → i % E.length = a → j % E.length = b → NearC (E ++ E) i j := by
      intro a b h
      induction h with
      | refl => intro i j hi hj h1 h2; exact .one (dbl_near.2 ⟨hi, hj, by rw [h1, h2]; exact near_refl (by rw [← h1]; exact (dbl_mod hi).1)⟩)
      | @step b c _ k ih =>
        intro i j hi hj h1 h2
        have hb := dbl_lt k.1
        exact .step (ih i b hi hb.1 h1 hb.2) (dbl_near.2 ⟨hb.1, hj, by rw [hb.2, h2]; exact k⟩)
    exact key _ _ h i j hi hj rfl rfl
/-- there is no bridge -/
theorem dbl_bri : briL (E ++ E) = [] := by
  apply List.eq_nil_iff_forall_not_mem.2
  intro i hi
  have hb := mem_briL.1 hi
  have hl := hb.1
  have hm := (dbl_mod hl).1
  rw [dbl_len] at hl
  have key : ∀ j, j < (E ++ E).length → j % E.length = i % E.length → j = i := fun j hj e =>
    bri_near hb (dbl_near.2 ⟨hb.1, hj, by rw [e]; exact near_refl hm⟩)
  by_cases c : i < E.length
  · have := key (i + E.length) (by rw [dbl_len]; omega) (by simp)
    omega
  · have := key (i - E.length) (by rw [dbl_len]; omega) (by rw [← Nat.mod_eq_sub_mod (by omega)])
    omega
theorem dbl_cutP : CutP (E ++ E) v ↔ CutP E v := by
  constructor
  · rintro ⟨i, j, y, z, hi, hj, l1, l2, h⟩
    exact ⟨_, _, y, z, (dbl_mod hi).1, (dbl_mod hj).1, (dbl_lnk hi).1 l1, (dbl_lnk hj).1 l2, fun c => h (dbl_noV.2 c)⟩
  · rintro ⟨i, j, y, z, hi, hj, l1, l2, h⟩
    have ei := dbl_lt hi
    have ej := dbl_lt hj
    exact ⟨i, j, y, z, ei.1, ej.1, (dbl_lnk ei.1).2 (by rw [ei.2]; exact l1), (dbl_lnk ej.1).2 (by rw [ej.2]; exact l2), fun c => h (dbl_noV.1 c)⟩
theorem dbl_cut (G : GOk n E) (h : 2 * E.length ≤ 16384) : cutL n (E ++ E) = cutL n E := by
  unfold cutL
  refine List.filter_congr fun x _ => ?_
  rw [Bool.eq_iff_iff, cutB_iff (dbl_ok G h), cutB_iff G, dbl_cutP]
theorem dbl_lab : labO (E ++ E) (nbL (E ++ E)) = labO E (List.range E.length) := by
  have hb : ∀ i, i < (E ++ E).length → ¬ Bri (E ++ E) i := fun i _ hb => by
    have := mem_briL.2 hb
    rw [dbl_bri] at this
    exact absurd this (by simp)
  refine labO_eq fun a b => dbl_ci (fun i hi => ?_) fun i hi => ?_
  · have := (mem_nbL.1 hi).1
    exact ⟨this, List.mem_range.2 (dbl_mod this).1⟩
  · have hi := List.mem_range.1 hi
    exact ⟨hi, mem_nbL.2 ⟨(dbl_lt hi).1, hb i (dbl_lt hi).1⟩⟩
/-- a block twice -/
def dblB (m : Nat) (B : List Nat) : List Nat := B ++ B.map (· + m)
theorem mem_dblB {m f : Nat} {B : List Nat} (hB : ∀ i, i ∈ B → i < m) (hf : f < 2 * m) : f ∈ dblB m B ↔ f % m ∈ B := by
  have hm : 0 < m := by omega
  unfold dblB
  rw [List.mem_append, List.mem_map]
  by_cases c : f < m
  · rw [Nat.mod_eq_of_lt c]
    constructor
    · rintro (h | ⟨g, _, rfl⟩)
      · exact h
      · omega
    · exact .inl
  · have e : f % m = f - m := by rw [Nat.mod_eq_sub_mod (by omega), Nat.mod_eq_of_lt (by omega)]
    rw [e]
    constructor
    · rintro (h | ⟨g, h, rfl⟩)
      · exact absurd (hB f h) c
      · rw [Nat.add_sub_cancel]; exact h
    · intro h; exact .inr ⟨_, h, by omega⟩
theorem dblB_lt {m f : Nat} {B : List Nat} (hB : ∀ i, i ∈ B → i < m) (hf : f ∈ dblB m B) : f < 2 * m := by
  unfold dblB at hf
  rw [List.mem_append, List.mem_map] at hf
  rcases hf with h | ⟨g, h, rfl⟩
  · have := hB f h; omega
  · have := hB g h; omega
theorem dbl_blk (G : GOk n E) (h : 2 * E.length ≤ 16384) : bkL (E ++ E) = (bkL E).map (dblB E.length) := by
  symm
  have K := bkL_ok G
  refine blk_list (dbl_ok G h) ⟨fun B hB => ?_, ?_, fun i hi => ?_⟩
  · obtain ⟨C, hC, rfl⟩ := List.mem_map.1 hB
    obtain ⟨h1, e, he, hel, hf⟩ := K.cls C hC
    have hlt := fun i (hi : i ∈ C) => blk_lt G hC hi
    refine ⟨?_, e, by unfold dblB; exact List.mem_append_left _ he, (dbl_lt hel).1, fun f => ?_⟩
    · unfold dblB
      rw [List.pairwise_append]
      refine ⟨h1, ?_, fun a ha b hb => ?_⟩
      · rw [List.pairwise_map]; exact h1.imp fun h => by omega
      · obtain ⟨c, hc, rfl⟩ := List.mem_map.1 hb
        have := hlt a ha; omega
    · rw [dbl_nearC (dbl_lt hel).1, (dbl_lt hel).2, dbl_len]
      constructor
      · intro hm
        have hl := dblB_lt hlt hm
        exact ⟨hl, (hf _).1 ((mem_dblB hlt hl).1 hm)⟩
      · rintro ⟨hl, hn⟩
        exact (mem_dblB hlt hl).2 ((hf _).2 hn)
  · rw [List.pairwise_map]
    refine K.ord.imp_of_mem fun {B C} hB hC hlt => ?_
    have hd : ∀ B, B ∈ bkL E → (dblB E.length B).headD 0 = B.headD 0 := fun B hB => by
      have := blk_ne G hB
      cases B with
      | nil => simp at this
      | cons x r => rfl
    rw [hd B hB, hd C hC]; exact hlt
  · obtain ⟨hm, _⟩ := dbl_mod hi
    obtain ⟨B, hB, hiB⟩ := K.all _ hm
    rw [dbl_len] at hi
    exact ⟨_, List.mem_map_of_mem hB, (mem_dblB (fun i hi => blk_lt G hB hi) hi).2 hiB⟩
end
end Go.Proofs.Ytcpikabhcjkkmaa

/- The walk of the law BridgeCuts. Conditions: the pairs are in range. -/
namespace Go.Proofs.Ytcpikabhcjkkmaa
open Go.RowKit Go.Shelf

theorem deg_is (B : Nat) (b n : Nat) (E : List Ed) (x : Nat) (w : World) (h : GraphAt w B b n E) (hx : x < n) :
    Calls Try.prog 33 #[.pointer (some ⟨b, 0, none⟩), .int .i64 (x : Nat)] w fun e w' => e = .returned (.int .i64 (deg E x : Nat)) ∧ ∃ q, w' = w.drewN q := by
  have HA := at_any B (.pointer (some ⟨b, 0, none⟩)) (some (n, E)) (x : Int) w ⟨b, rfl, h⟩
  have hg : (gAdj (some (n, E)) (x : Int)).length = deg E x := by
    rw [gAdj, if_pos (gHas_yes (o := some (n, E)) (v := (x : Int)) ⟨by omega, by show (x : Int) < (n : Nat); omega⟩), Int.toNat_natCast]; rfl
  rw [hg] at HA
  have HA := Lib.hid HA
  clear h hg
  go_enter Try.func33, Try.ntmps33
  go_wp2_with fail
  refine HA.out.mono ?_
  rintro e w' ⟨a, cap, A, rfl, -, hq⟩
  have HQ := Lib.hid hq
  clear hq HA
  go_wp2_with fail
  go_ret
  exact ⟨rfl, HQ.out⟩
theorem cutL_len (n : Nat) (E : List Ed) : (cutL n E).length ≤ n := by
  have := List.length_filter_le (cutB E) (List.range n)
  simpa [cutL] using this
theorem cutL_sorted (n : Nat) (E : List Ed) : (cutL n E).Pairwise (· < ·) := List.pairwise_lt_range.filter _
theorem cutL_lt {n : Nat} {E : List Ed} {x : Nat} (h : x ∈ cutL n E) : x < n := List.mem_range.1 (List.mem_filter.1 h).1
/-- the edges before a number that leave a vertex alone -/
def ocTo (E : List Ed) (x k : Nat) : List Nat := (List.range k).filter fun j => decide ((edP E j).1 ≠ x ∧ (edP E j).2 ≠ x)
theorem ocTo_succ (E : List Ed) (x k : Nat) : ocTo E x (k + 1) = if (edP E k).1 ≠ x ∧ (edP E k).2 ≠ x then ocTo E x k ++ [k] else ocTo E x k := by
  unfold ocTo
  rw [List.range_succ, List.filter_append]
  by_cases c : (edP E k).1 ≠ x ∧ (edP E k).2 ≠ x
  · rw [if_pos c]; simp [c]
  · rw [if_neg c]
    have : decide ((edP E k).1 ≠ x ∧ (edP E k).2 ≠ x) = false := decide_eq_false c
    rw [List.filter_cons, this]; simp
theorem ocTo_len (E : List Ed) (x k : Nat) : (ocTo E x k).length ≤ k := by
  have := List.length_filter_le (fun j => decide ((edP E j).1 ≠ x ∧ (edP E j).2 ≠ x)) (List.range k)
  simpa [ocTo] using this
set_option maxRecDepth 100000 in
set_option maxHeartbeats 8000000 in
theorem cuts_walk (z : Int) (a : Option Addr) (cap : Nat) (A : Nat → Addr) (L : List (Int × Int)) (w : World) (hS : PS w w.heap.size (.slice a L.length cap) L A) (hr : PrR L) (hz : 0 ≤ z ∧ z ≤ 255) (hl : L.length ≤ 9223372036854775807) :
    Calls Try.prog 12 #[.int .u8 z, .slice a L.length cap] w fun e w' => e = .returned (.bool true) ∧ Below w.heap.size w w' := by
  have HM := Lib.hid (made_any w.heap.size a cap A L z w hS (Nat.le_refl _) hr hz hl)
  have hrc := row_count
  clear hS hr
  go_enter Try.func12, Try.ntmps12
  go_wp2_with fail
  refine HM.out.mono ?_
  clear HM
  rintro e w1 ⟨b, n, E, ea, ec, EA, rfl, hG, hES, hO, hn0, hn1, hm, hb1⟩
  have HGk := Lib.hid hG.ok
  have HGr := Lib.hid hG
  have HES := Lib.hid hES
  have B1 := Lib.hid hb1
  have HC := Lib.hid (cuts_out w1.heap.size (some ⟨b, 0, none⟩) n E (some (n, E)) (.inl rfl) w1 ⟨b, rfl, hG⟩ (Nat.le_refl _))
  clear hG hES hb1 hO
  go_wp2_with fail
  refine HC.out.mono ?_
  clear HC
  rintro e w2 ⟨bv, rfl, hbv, b2⟩
  have hs1 := b2.size
  have B2 := Lib.hid (B1.out.trans (b2.mono B1.out.size))
  have HES2 := Lib.hid ((HES.out.below b2).mono hs1)
  have HGr2 := Lib.hid (HGr.out.below b2)
  have HBv := Lib.hid hbv
  have HC := Lib.hid (grow_any w1.heap.size b n E w2 HGr2.out hs1)
  obtain ⟨q, hq⟩ : ∃ q, cntN n (labO E (List.range E.length)) = q := ⟨_, rfl⟩
  have hqn : q ≤ n := by rw [← hq]; exact cntN_le n _
  have HQ := Lib.hid hq
  unfold RowRes at HC
  rw [hq] at HC
  clear b2 hbv B1 HES HGr hq
  go_wp2_with fail
  refine HC.out.mono ?_
  clear HC
  rintro e w3 ⟨rfl, b3⟩
  have hs3 := b3.size
  have B3 := Lib.hid (B2.out.trans (b3.mono B2.out.size))
  have HES3 := Lib.hid ((HES2.out.below b3).mono hs3)
  have HBv3 := Lib.hid ((HBv.out.below b3).mono hs3)
  have HGr3 := Lib.hid ((HGr2.out.mono hs1).below b3 |>.mono hs3)
  clear b3 B2 HES2 HGr2 HBv hs1 hs3
  go_wp2_with fail
  go_loopw [10] (fun iv wr => ∃ x : Nat, x ≤ n ∧ iv = .int .i64 (x : Nat) ∧ Below w3.heap.size w3 wr) (fun iv _ => n - (intOf iv).toNat)
  case atStart => exact ⟨0, Nat.zero_le _, rfl, Below.refl _ _⟩
  case round =>
    obtain ⟨x, hx, rfl, bel⟩ := hrel
    by_cases hlt : x < n
    · have hxn : (0 : Int) ≤ x ∧ (x : Int) < n := by omega
      obtain ⟨w0, rfl⟩ : ∃ w0 : World, w0 = wr := ⟨_, rfl⟩
      have hs0 := bel.size
      have HB0 := Lib.hid bel
      clear bel
      go_wp2_with fail
      go_loopw [11, 12] (fun rv iv wr => ∃ k : Nat, k ≤ E.length ∧ iv = .int .i64 (k : Nat) ∧ Hid (OwnE w0.heap.size rv (someE E (ocTo E x k)) wr) ∧ Below w0.heap.size w0 wr) (fun _ iv _ => E.length - (intOf iv).toNat)
      case atStart => exact ⟨0, Nat.zero_le _, rfl, Lib.hid (OwnE.nil _ _), Below.refl _ _⟩
      case round =>
        obtain ⟨k, hk, rfl, HO, bel⟩ := hrel
        by_cases hlk : k < E.length
        · have hEr := HES3.out.below (HB0.out.trans (bel.mono hs0))
          have ix := hEr.ix k hlk
          have e0 := ES.u hEr hlk
          have e1 := ES.v hEr hlk
          have e2 := ES.w hEr hlk
          obtain ⟨u, v, hu, hv, h1, h2, -⟩ := HGk.out.nats hlk
          obtain ⟨y, hy⟩ : ∃ y, (eAt E k).w = y := ⟨_, rfl⟩
          have HEq := Lib.hid (show eAt E k = ⟨u, v, y⟩ by rw [← hu, ← hv, ← hy])
          have hep : edP E k = (u, v) := by unfold edP; rw [hu, hv]; rfl
          have hoc := ocTo_succ E x k
          rw [hep] at hoc
          have HOc := Lib.hid hoc
          rw [hu] at e0; rw [hv] at e1; rw [hy] at e2
          have hkn : (0 : Int) ≤ k ∧ (k : Int) < E.length := by omega
          clear hEr hu hv hy hep hoc
          by_cases hc : u ≠ x ∧ v ≠ x
          · have k1 : ((u : Int) != (x : Int)) = true := by simp; omega
            have k2 : ((v : Int) != (x : Int)) = true := by simp; omega
            have hT : someE E (ocTo E x (k + 1)) = someE E (ocTo E x k) ++ [⟨u, v, y⟩] := by rw [HOc.out, if_pos hc, someE_snoc, HEq.out]
            have HT := Lib.hid hT
            have hown : wr.ownsRow w0.heap.size 48 3 _ (someE E (ocTo E x k)).length (flat (edC (someE E (ocTo E x k))) (someE E (ocTo E x k)).length 3) := HO.out
            have HOW := Lib.hid hown
            have hsz := bel.size
            have hln : (someE E (ocTo E x k)).length ≤ 16384 := by rw [someE_len]; have := ocTo_len E x k; omega
            clear hT hown HO hc
            generalize someE E (ocTo E x k) = T at *
            go_wp2_with (at_builtin; refine push etE rfl _ _ rfl w0.heap.size _ _ _ HOW.out rfl #[.int .i64 (u : Nat), .int .i64 (v : Nat), .int .i64 y] _ rfl rfl rfl (by simp [Value.oneCell']) (by omega) (by omega) hsz ?_; intro g5 cp w5 hown5 hg5 hv5)
            have hb5 : Below w0.heap.size w0 w5 := bel.grown hg5 hsz (fun j e => (HOW.out.lt j e).1)
            go_roundw
            case rel => exact ⟨k + 1, by omega, by go_num, by rw [HT.out]; exact Lib.hid (OwnE.snoc (x := ⟨u, v, y⟩) hown5), hb5⟩
            case measure => simp only [intOf]; omega
          · have hT : someE E (ocTo E x (k + 1)) = someE E (ocTo E x k) := by rw [HOc.out, if_neg hc]
            have HT := Lib.hid hT
            clear hT
            by_cases hux : u = x
            · have k1 : ((u : Int) != (x : Int)) = false := by simp [hux]
              clear hc hux
              go_wp2_with fail
              go_roundw
              case rel => exact ⟨k + 1, by omega, by go_num, by rw [HT.out]; exact HO, bel⟩
              case measure => simp only [intOf]; omega
            · have k1 : ((u : Int) != (x : Int)) = true := by simp; omega
              have k2 : ((v : Int) != (x : Int)) = false := by simp; omega
              clear hc hux
              go_wp2_with fail
              go_roundw
              case rel => exact ⟨k + 1, by omega, by go_num, by rw [HT.out]; exact HO, bel⟩
              case measure => simp only [intOf]; omega
        · obtain rfl : k = E.length := by omega
          have hnb : ocTo E x E.length = ocV E x := rfl
          rw [hnb] at HO
          obtain ⟨ra, rc, RA, rfl, hR⟩ := HO.out.rd
          have hpl : (ocV E x).length ≤ 16384 := by have := ocTo_len E x E.length; rw [hnb] at this; omega
          have Gp : GOk n (someE E (ocV E x)) := gok_some HGk.out (fun i hi => (mem_ocV.1 hi).1) hpl
          have HNw := Lib.hid (gnew_any wr.heap.size ra rc RA n (someE E (ocV E x)) wr hR (Nat.le_refl _) (by rw [someE_len]; omega))
          have HGp := Lib.hid Gp
          clear hR Gp HO
          obtain ⟨kk, hk1, hk2, hk3⟩ := cnt_cuts HGk.out hlt
          rw [HQ.out] at hk1
          obtain ⟨q', hq'⟩ : ∃ q', cntN n (labO E (ocV E x)) = q' := ⟨_, rfl⟩
          have hqn' : q' ≤ n := by rw [← hq']; exact cntN_le n _
          rw [hq'] at hk1
          have HQ' := Lib.hid hq'
          obtain ⟨dg, hdg⟩ : ∃ d, deg E x = d := ⟨_, rfl⟩
          rw [hdg] at hk2
          have HDg := Lib.hid hdg
          have hdl : dg ≤ 150 := by rw [← hdg]; have := deg_le E x; omega
          have hsub : (q' : Int) - (q : Int) = (kk : Nat) := by omega
          have hkk : kk ≤ 60 := by omega
          clear hq' hdg
          go_wp2_with fail
          refine HNw.out.mono ?_
          clear HNw
          rintro e w6 ⟨hb6, ⟨h0, _⟩ | ⟨b6, k6, hk6, -, rfl, hGr⟩⟩
          · exact absurd (gErr_ok HGp.out) h0
          have hke : k6 = n := by omega
          rw [hke] at hGr
          clear hk6 hke
          have bel6 := Lib.hid (HB0.out.trans ((bel.trans (hb6.mono bel.size)).mono hs0))
          have hs6 := bel6.out.size
          have HR := grow_any w6.heap.size b6 n (someE E (ocV E x)) w6 hGr (Nat.le_refl _)
          unfold RowRes at HR
          rw [someE_lab, HQ'.out] at HR
          have HR := Lib.hid HR
          clear hGr hb6 bel
          go_wp2_with fail
          refine HR.out.mono ?_
          clear HR
          rintro e w7 ⟨rfl, b7⟩
          have bel7 := Lib.hid (bel6.out.trans (b7.mono hs6))
          have HD := deg_is w3.heap.size b n E x w7 (HGr3.out.below bel7.out) hlt
          rw [HDg.out] at HD
          have HD := Lib.hid HD
          clear b7 bel6 hs6
          go_wp2_with fail
          refine HD.out.mono ?_
          clear HD
          rintro e w8 ⟨rfl, m8, rfl⟩
          have bel8 := Lib.hid (below_drewN bel7.out m8)
          have HH := hasI_any w3.heap.size bv (cutL n E) x (w7.drewN m8) (HBv3.out.below bel8.out) (by have := cutL_len n E; omega)
          have HK3 := Lib.hid hk3
          have HK2 := Lib.hid hk2
          by_cases hd0 : dg = 0
          · have hkk0 : kk = 0 := hk2.2 hd0
            have hnm : decide (x ∈ cutL n E) = false := decide_eq_false fun c => by have := hk3.1 c; omega
            rw [hnm] at HH
            have HH := Lib.hid HH
            clear hk3 hk2 hnm
            have HHH := Lib.hid hk1
            subst hd0
            subst hkk0
            clear hk1
            go_wp2_with fail
            refine HH.out.mono ?_
            rintro e w9 ⟨rfl, rfl⟩
            go_wp2_with fail
            go_roundw
            case rel => exact ⟨x + 1, by omega, by go_num, bel8.out⟩
            case measure => simp only [intOf]; omega
          · have hkk1 : 1 ≤ kk := by
              rcases Nat.eq_zero_or_pos kk with c | c
              · exact absurd (hk2.1 c) hd0
              · exact c
            have hdp : (0 : Int) < dg := by omega
            have hsb2 : IntKind.i64.wrap ((kk : Int) - 1) = (kk : Int) - 1 := IntWalk.i64_in _ (by omega)
            by_cases hc : 1 < kk
            · have hnm : decide (x ∈ cutL n E) = true := decide_eq_true (hk3.2 hc)
              rw [hnm] at HH
              have HH := Lib.hid HH
              have hgt : (0 : Int) < (kk : Int) - 1 := by omega
              have hg1 : decide (1 < kk) = true := decide_eq_true hc
              have hg2 : decide ((0 : Int) < (kk : Int) - 1) = true := decide_eq_true (by omega)
              have hg3 : decide ((1 : Int) < (kk : Int)) = true := decide_eq_true (by omega)
              have hgb : (true != decide ((0 : Int) < (kk : Int) - 1)) = false := by rw [hg2]; rfl
              have HHH := Lib.hid hk1
              clear hk3 hk2 hnm hc hd0 hkk1 hk1
              go_wp2_with fail
              refine HH.out.mono ?_
              rintro e w9 ⟨rfl, rfl⟩
              go_wp2_with fail
              go_roundw
              case rel => exact ⟨x + 1, by omega, by go_num, bel8.out⟩
              case measure => simp only [intOf]; omega
            · have hnm : decide (x ∈ cutL n E) = false := decide_eq_false fun d => hc (hk3.1 d)
              rw [hnm] at HH
              have HH := Lib.hid HH
              have hgt : ¬ (0 : Int) < (kk : Int) - 1 := by omega
              have HHH := Lib.hid hk1
              clear hk3 hk2 hnm hc hd0 hk1
              go_wp2_with fail
              refine HH.out.mono ?_
              rintro e w9 ⟨rfl, rfl⟩
              go_wp2_with fail
              go_roundw
              case rel => exact ⟨x + 1, by omega, by go_num, bel8.out⟩
              case measure => simp only [intOf]; omega
    · obtain rfl : x = n := by omega
      obtain ⟨ba, bc, BA, hbv, hbr⟩ := HBv3.out.below bel
      subst hbv
      have HBw := Lib.hid (show RdI wr w3.heap.size (.slice ba (cutL x E).length bc) (cutL x E) from ⟨ba, bc, BA, rfl, hbr⟩)
      have hbln := cutL_len x E
      obtain ⟨w0, rfl⟩ : ∃ w0 : World, w0 = wr := ⟨_, rfl⟩
      have B4 := Lib.hid (B3.out.trans (bel.mono B3.out.size))
      have hs0 := bel.size
      clear hbr bel HBv3 B3 HGr3 HES3
      go_wp2_with fail
      go_loopw [16] (fun iv wr => ∃ k : Nat, k ≤ (cutL x E).length ∧ iv = .int .i64 (k : Nat) ∧ Below w0.heap.size w0 wr) (fun iv _ => (cutL x E).length - (intOf iv).toNat)
      case atStart => exact ⟨0, Nat.zero_le _, rfl, Below.refl _ _⟩
      case round =>
        obtain ⟨k, hk, rfl, bel⟩ := hrel
        by_cases hlt : k < (cutL x E).length
        · have HBx := Lib.hid (HBw.out.below (bel.mono hs0))
          obtain ⟨ak, ixk, ck⟩ := RdI.get HBx.out hlt
          have hx := cutL_lt (getD_mem' hlt)
          obtain ⟨c, hxe⟩ : ∃ c, (cutL x E).getD k 0 = c := ⟨_, rfl⟩
          rw [hxe] at ck hx
          have hkn : (0 : Int) ≤ k ∧ (k : Int) < (cutL x E).length := by omega
          by_cases hk0 : k = 0
          · have hd1 : decide (0 < k) = false := decide_eq_false (by omega)
            have hd2 : decide ((0 : Int) < (k : Int)) = false := decide_eq_false (by omega)
            have hx0 : decide ((c : Int) < 0) = false := decide_eq_false (by omega)
            have hx1 : decide (x ≤ c) = false := decide_eq_false (by omega)
            have hw1 : IntKind.i64.wrap ((k : Int) + 1) = (k : Int) + 1 := IntWalk.i64_in _ (by omega)
            have HK := Lib.hid hlt
            have HBel := Lib.hid bel
            clear hxe hk0 hx hlt bel hk hqn hn0 hn1 hm hs0 hbln hz hl
            go_wp2_with fail
            go_quiet (fail)
            go_wp2_with fail
            go_roundw
            case rel => exact ⟨k + 1, by have := HK.out; omega, by go_num, below_drewN HBel.out _⟩
            case measure => have := HK.out; simp only [intOf]; omega
          · obtain ⟨j, hj⟩ : ∃ j, k = j + 1 := ⟨k - 1, by omega⟩
            obtain ⟨aj, ixj, cj⟩ := RdI.get HBx.out (show j < (cutL x E).length by omega)
            have hso := sorted_at (cutL_sorted x E) (show j < k by omega) hlt
            obtain ⟨y, hye⟩ : ∃ y, (cutL x E).getD j 0 = y := ⟨_, rfl⟩
            rw [hye] at cj hso
            rw [hxe] at hso
            have hkj : (k : Int) - 1 = (j : Nat) := by omega
            have hkp : (0 : Int) < k := by omega
            have hd1 : decide (0 < k) = true := decide_eq_true (by omega)
            have hd2 : decide (c ≤ y) = false := decide_eq_false (by omega)
            have hjn : (0 : Int) ≤ j ∧ (j : Int) < (cutL x E).length := by omega
            have hwj : IntKind.i64.wrap (j : Int) = (j : Int) := IntWalk.i64_in _ (by omega)
            have hx0 : decide ((c : Int) < 0) = false := decide_eq_false (by omega)
            have hx1 : decide (x ≤ c) = false := decide_eq_false (by omega)
            have hw1 : IntKind.i64.wrap ((k : Int) + 1) = (k : Int) + 1 := IntWalk.i64_in _ (by omega)
            have HK := Lib.hid hlt
            have HBel := Lib.hid bel
            clear hxe hye hj hk0 hx hlt bel hk hqn hn0 hn1 hm hs0 hbln hz hl hso hkp hjn
            go_wp2_with fail
            go_quiet (fail)
            go_wp2_with fail
            go_roundw
            case rel => exact ⟨k + 1, by have := HK.out; omega, by go_num, below_drewN HBel.out _⟩
            case measure => have := HK.out; simp only [intOf]; omega
        · obtain rfl : k = (cutL x E).length := by omega
          go_wp2_with fail
          refine (works_any _).mono ?_
          rintro e w9 ⟨rfl, hb9⟩
          have B9 := Lib.hid (B4.out.trans ((bel.trans (hb9.mono bel.size)).mono B4.out.size))
          go_wp2_with fail
          go_ret
          exact ⟨rfl, B9.out⟩
end Go.Proofs.Ytcpikabhcjkkmaa

/- The walk of the law BridgeDoubles. Conditions: the pairs are in range. -/
namespace Go.Proofs.Ytcpikabhcjkkmaa
open Go.RowKit Go.Shelf

theorem dblB_len (m : Nat) (B : List Nat) : (dblB m B).length = 2 * B.length := by simp [dblB]; omega
theorem dblB_take (m : Nat) (B : List Nat) : (dblB m B).take B.length = B := by simp [dblB]
theorem bkL_len (E : List Ed) : (bkL E).length ≤ E.length := by
  have := List.length_filter_le (fun a => decide (bkK E a = a)) (List.range E.length)
  simpa [bkL] using this
theorem nodup_of_lt {l : List Nat} (h : l.Pairwise (· < ·)) : l.Nodup := h.imp fun h => by omega
theorem blk_len {n : Nat} {E : List Ed} (G : GOk n E) {B : List Nat} (hB : B ∈ bkL E) : B.length ≤ E.length :=
  nodup_lt (nodup_of_lt ((bkL_ok G).cls B hB).1) fun _ hi => blk_lt G hB hi
/-- the first indexes of a list -/
theorem run_uptoA {t e : TypeId} {size bytes : Nat} (E : ET t e size bytes) {ad : Addr} {n cap hi : Nat} (h : hi ≤ cap) (w' : World) : (Instr.slice t (.slice (some ad) n cap) none (some (.int .i64 (hi : Nat))) none).run Try.prog w' = .ok (.slice (some ad) hi cap) w' := by
  simp [Instr.slice, run_underlying E.ht, Instr.sliceBounds, Instr.sliceBound, asIntOf, E.size, go_sem]
  intro hh; omega
theorem RdI.upto {w : World} {B : Nat} {a : Option Addr} {c : Nat} {l : List Nat} (h : RdI w B (.slice a l.length c) l) (hl : 0 < l.length) (hc : l.length ≤ c) {m : Nat} (hm : m ≤ l.length) :
    (∀ w', (Instr.slice 29 (.slice a l.length c) none (some (.int .i64 (m : Nat))) none).run Try.prog w' = .ok (.slice a m c) w') ∧ RdI w B (.slice a m c) (l.take m) := by
  obtain ⟨a', c', A, e, hr⟩ := h
  cases e
  obtain ⟨ad, rfl, h1, h2, h3⟩ := hr.view etI hl
  have hm2 : (l.take m).length = m := by rw [List.length_take]; omega
  refine ⟨fun w' => run_uptoA etI (by omega) w', some ad, c, fun i => ad.add (i * 1), by rw [hm2], ?_⟩
  rw [hm2]
  refine Rd.addr etI (fun _ => h1) fun i hi j hj => ?_
  rw [h3 i (by omega) j hj]
  unfold nums
  rw [intsN_nth, intsN_nth]
  have : (l.take m).getD i 0 = l.getD i 0 := by
    rw [List.getD_eq_getElem?_getD, List.getD_eq_getElem?_getD, List.getElem?_take, if_pos hi]
  rw [this]
/-- a row of lists in memory, at one place -/
theorem BMem.get {w : World} {B : Nat} {v : Value} {X : List (List Nat)} (h : BMem w B v X) {i : Nat} (hi : i < X.length) :
    ∃ (ad : Addr) (a : Option Addr) (c : Nat), (∀ w', (Instr.indexAt 33 v (.int .i64 (i : Nat))).run Try.prog w' = .ok (.pointer (some ad)) w') ∧ w.cell? ad = some (.slice a (X.getD i []).length c) ∧ RdI w B (.slice a (X.getD i []).length c) (X.getD i []) ∧ (X.getD i []).length ≤ c ∧ ad.block < B := by
  obtain ⟨a, cap, A, RV, rfl, h1, h2⟩ := h
  obtain ⟨h3, a', c', h4, h5⟩ := h2 i hi
  have c0 := h1.cell i hi 0 (by omega)
  rw [add_zero, h4] at c0
  rw [h4] at h3
  exact ⟨A i, a', c', h1.ix i hi, c0, h3, h5, h1.lt i hi⟩
theorem BMem.view {w : World} {B : Nat} {v : Value} {X : List (List Nat)} (h : BMem w B v X) : ∃ a c, v = .slice a X.length c := by
  obtain ⟨a, cap, A, RV, rfl, _⟩ := h
  exact ⟨a, cap, rfl⟩
set_option maxRecDepth 1000000 in
set_option maxHeartbeats 8000000 in
theorem doubles_walk (z : Int) (a : Option Addr) (cap : Nat) (A : Nat → Addr) (L : List (Int × Int)) (w : World) (hS : PS w w.heap.size (.slice a L.length cap) L A) (hr : PrR L) (hz : 0 ≤ z ∧ z ≤ 255) (hl : L.length ≤ 9223372036854775807) :
    Calls Try.prog 10 #[.int .u8 z, .slice a L.length cap] w fun e w' => e = .returned (.bool true) ∧ Below w.heap.size w w' := by
  have HM := Lib.hid (made_any w.heap.size a cap A L z w hS (Nat.le_refl _) hr hz hl)
  clear hS hr
  go_enter Try.func10, Try.ntmps10
  go_wp2_with fail
  refine HM.out.mono ?_
  clear HM
  rintro e w1 ⟨b, n, E, ea, ec, EA, rfl, hG, hES, hO, hn0, hn1, hm, hb1⟩
  have HGk := Lib.hid hG.ok
  have HG := Lib.hid (show GV w1 w1.heap.size (.pointer (some ⟨b, 0, none⟩)) (some (n, E)) from ⟨b, rfl, hG⟩)
  have HGa := Lib.hid hG
  have HES := Lib.hid hES
  have HB := Lib.hid hb1
  clear hG hES hb1 hO
  go_wp2_with (at_builtin; refine Hid.out ?_)
  refine Lib.hid ?_
  have ba : Below w1.heap.size w1 (w1.alloc (.cells #[] 48)) := (Below.refl _ w1).alloc (Nat.le_refl _) _
  refine moreE rfl _ _ rfl w1.heap.size _ [] (OwnE.lit0 w1 w1.heap.size (Nat.le_refl _)) rfl E ea ec w1.heap.size EA (HES.out.below ba) rfl (by simp) (by simp only [List.length_nil]; omega) ?_
  intro v2 w2 hv2 hg2 hl2
  rw [List.nil_append] at hv2
  have b2 := ba.grown hg2 (by simp) (fun b hb => hl2 b hb)
  have HV2 := Lib.hid hv2
  have BB2 := Lib.hid b2
  have hs2 := b2.size
  clear hv2 hg2 hl2 ba b2
  go_wp2_with (at_builtin; refine Hid.out ?_)
  refine Lib.hid ?_
  refine moreE rfl _ _ rfl w1.heap.size _ E HV2.out rfl E ea ec w1.heap.size EA (HES.out.below BB2.out) rfl hs2 (by omega) ?_
  intro v3 w3 hv3 hg3 hl3
  have HDb := Lib.hid (show bkL (E ++ E) = (bkL E).map (dblB E.length) from dbl_blk HGk.out (by omega))
  have HDr := Lib.hid (show briL (E ++ E) = [] from dbl_bri)
  have HDc := Lib.hid (show cutL n (E ++ E) = cutL n E from dbl_cut HGk.out (by omega))
  have HDl := Lib.hid (show labO (E ++ E) (nbL (E ++ E)) = labO E (List.range E.length) from dbl_lab)
  have GD := dbl_ok HGk.out (by omega)
  have hlen : (E ++ E).length = 2 * E.length := dbl_len E
  obtain ⟨D, hD⟩ : ∃ D, E ++ E = D := ⟨_, rfl⟩
  rw [hD] at HDb HDr HDc HDl GD hlen hv3
  clear hD
  have b3 := BB2.out.grown hg3 hs2 (fun b hb => hl3 b hb)
  obtain ⟨a3, c3, A3, rfl, hES3⟩ := hv3.rd
  have HGd := Lib.hid GD
  have HN := Lib.hid (gnew_any w3.heap.size a3 c3 A3 n D w3 hES3 (Nat.le_refl _) (by omega))
  replace HG := Lib.hid ((HG.out.below b3).mono b3.size)
  replace HGa := Lib.hid ((HGa.out.below b3).mono b3.size)
  replace HB := Lib.hid (HB.out.trans (b3.mono HB.out.size))
  clear b3
  clear hv3 hg3 hl3 hES3 GD HV2 BB2 hs2 HES hlen
  go_wp2_with fail
  refine HN.out.mono ?_
  clear HN
  rintro e w4 ⟨b4, ⟨h0, _⟩ | ⟨p4, k4, hk4, -, rfl, hGr⟩⟩
  · exact absurd (gErr_ok HGd.out) h0
  have hk4 : k4 = n := by omega
  rw [hk4] at hGr
  replace HG := Lib.hid ((HG.out.below b4).mono b4.size)
  replace HGa := Lib.hid ((HGa.out.below b4).mono b4.size)
  replace HB := Lib.hid (HB.out.trans (b4.mono HB.out.size))
  clear b4
  have HH := Lib.hid (show GV w4 w4.heap.size (.pointer (some ⟨p4, 0, none⟩)) (some (n, D)) from ⟨p4, rfl, hGr⟩)
  have HC := Lib.hid (blocks_out w4.heap.size (some ⟨b, 0, none⟩) n E (some (n, E)) (.inl rfl) w4 HG.out (Nat.le_refl _))
  clear hGr hk4
  go_wp2_with fail
  refine HC.out.mono ?_
  clear HC
  rintro e w5 ⟨v5, rfl, hM5, b5⟩
  replace HG := Lib.hid ((HG.out.below b5).mono b5.size)
  replace HGa := Lib.hid ((HGa.out.below b5).mono b5.size)
  replace HH := Lib.hid ((HH.out.below b5).mono b5.size)
  replace HB := Lib.hid (HB.out.trans (b5.mono HB.out.size))
  clear b5
  have HM5 := Lib.hid hM5
  obtain ⟨a5, c5, hv5⟩ := hM5.view
  have HC := Lib.hid (blocks_out w5.heap.size (some ⟨p4, 0, none⟩) n D (some (n, D)) (.inl rfl) w5 HH.out (Nat.le_refl _))
  clear hM5
  subst hv5
  go_wp2_with fail
  refine HC.out.mono ?_
  clear HC
  rintro e w6 ⟨v6, rfl, hM6, b6⟩
  rw [HDb.out] at hM6
  replace HG := Lib.hid ((HG.out.below b6).mono b6.size)
  replace HGa := Lib.hid ((HGa.out.below b6).mono b6.size)
  replace HH := Lib.hid ((HH.out.below b6).mono b6.size)
  replace HM5 := Lib.hid ((HM5.out.below b6).mono b6.size)
  replace HB := Lib.hid (HB.out.trans (b6.mono HB.out.size))
  clear b6
  have HM6 := Lib.hid hM6
  obtain ⟨a6, c6, hv6⟩ := hM6.view
  rw [List.length_map] at hv6
  have HC := Lib.hid (bridges_out w6.heap.size (some ⟨p4, 0, none⟩) n D (some (n, D)) (.inl rfl) w6 HH.out (Nat.le_refl _))
  have hxx : (((bkL E).length : Int) != ((bkL E).length : Int)) = false := by simp
  clear hM6
  subst hv6
  go_wp2_with fail
  refine HC.out.mono ?_
  clear HC
  rintro e w7 ⟨v7, rfl, hv7, b7⟩
  rw [HDr.out] at hv7
  obtain ⟨a7, c7, A7, rfl, _⟩ := hv7
  simp only [List.length_nil]
  replace HG := Lib.hid ((HG.out.below b7).mono b7.size)
  replace HGa := Lib.hid ((HGa.out.below b7).mono b7.size)
  replace HH := Lib.hid ((HH.out.below b7).mono b7.size)
  replace HM5 := Lib.hid ((HM5.out.below b7).mono b7.size)
  replace HM6 := Lib.hid ((HM6.out.below b7).mono b7.size)
  replace HB := Lib.hid (HB.out.trans (b7.mono HB.out.size))
  clear b7
  have HC := Lib.hid (cuts_out w7.heap.size (some ⟨b, 0, none⟩) n E (some (n, E)) (.inl rfl) w7 HG.out (Nat.le_refl _))
  go_wp2_with fail
  refine HC.out.mono ?_
  clear HC
  rintro e w8 ⟨v8, rfl, hv8, b8⟩
  replace HG := Lib.hid ((HG.out.below b8).mono b8.size)
  replace HGa := Lib.hid ((HGa.out.below b8).mono b8.size)
  replace HH := Lib.hid ((HH.out.below b8).mono b8.size)
  replace HM5 := Lib.hid ((HM5.out.below b8).mono b8.size)
  replace HM6 := Lib.hid ((HM6.out.below b8).mono b8.size)
  replace HB := Lib.hid (HB.out.trans (b8.mono HB.out.size))
  clear b8
  have HV8 := Lib.hid hv8
  have HC := Lib.hid (cuts_out w8.heap.size (some ⟨p4, 0, none⟩) n D (some (n, D)) (.inl rfl) w8 HH.out (Nat.le_refl _))
  clear hv8
  go_wp2_with fail
  refine HC.out.mono ?_
  clear HC
  rintro e w9 ⟨v9, rfl, hv9, b9⟩
  rw [HDc.out] at hv9
  replace HG := Lib.hid ((HG.out.below b9).mono b9.size)
  replace HGa := Lib.hid ((HGa.out.below b9).mono b9.size)
  replace HH := Lib.hid ((HH.out.below b9).mono b9.size)
  replace HM5 := Lib.hid ((HM5.out.below b9).mono b9.size)
  replace HM6 := Lib.hid ((HM6.out.below b9).mono b9.size)
  replace HV8 := Lib.hid ((HV8.out.below b9).mono b9.size)
  replace HB := Lib.hid (HB.out.trans (b9.mono HB.out.size))
  clear b9
  have HSm := sameI_any w9.heap.size v8 v9 _ _ w9 HV8.out hv9 (by have := cutL_len n E; omega)
  rw [decide_eq_true rfl] at HSm
  have HSm := Lib.hid HSm
  clear hv9
  go_wp2_with fail
  refine HSm.out.mono ?_
  clear HSm
  rintro e w10 ⟨rfl, m10, rfl⟩
  have b10 := below_drewN (Below.refl w9.heap.size w9) m10
  replace HG := Lib.hid ((HG.out.below b10).mono b10.size)
  replace HGa := Lib.hid ((HGa.out.below b10).mono b10.size)
  replace HH := Lib.hid ((HH.out.below b10).mono b10.size)
  replace HM5 := Lib.hid ((HM5.out.below b10).mono b10.size)
  replace HM6 := Lib.hid ((HM6.out.below b10).mono b10.size)
  replace HB := Lib.hid (HB.out.trans (b10.mono HB.out.size))
  clear b10
  have HC := Lib.hid (labels_out _ (some ⟨p4, 0, none⟩) n D (some (n, D)) (.inl rfl) _ HH.out (Nat.le_refl _))
  generalize w9.drewN m10 = w10 at *
  go_wp2_with fail
  refine HC.out.mono ?_
  clear HC
  rintro e w11 ⟨v11, rfl, hv11, b11⟩
  rw [HDl.out] at hv11
  replace HG := Lib.hid ((HG.out.below b11).mono b11.size)
  replace HGa := Lib.hid ((HGa.out.below b11).mono b11.size)
  replace HH := Lib.hid ((HH.out.below b11).mono b11.size)
  replace HM5 := Lib.hid ((HM5.out.below b11).mono b11.size)
  replace HM6 := Lib.hid ((HM6.out.below b11).mono b11.size)
  replace HB := Lib.hid (HB.out.trans (b11.mono HB.out.size))
  clear b11
  have HV11 := Lib.hid hv11
  have HC := Lib.hid (glabels_any w11.heap.size b n E w11 HGa.out (Nat.le_refl _))
  clear hv11
  go_wp2_with fail
  refine HC.out.mono ?_
  clear HC
  rintro e w12 ⟨gl, rfl, hrw, -, b12⟩
  replace HG := Lib.hid ((HG.out.below b12).mono b12.size)
  replace HH := Lib.hid ((HH.out.below b12).mono b12.size)
  replace HM5 := Lib.hid ((HM5.out.below b12).mono b12.size)
  replace HM6 := Lib.hid ((HM6.out.below b12).mono b12.size)
  replace HV11 := Lib.hid ((HV11.out.below b12).mono b12.size)
  replace HB := Lib.hid (HB.out.trans (b12.mono HB.out.size))
  clear b12
  have HRd := row_rdI (cap := n) hrw
  have HSm := sameI_any w12.heap.size _ _ _ _ w12 HV11.out HRd (by simp; omega)
  rw [decide_eq_true rfl] at HSm
  have HSm := Lib.hid HSm
  clear HRd hrw HV8 HV11
  go_wp2_with fail
  refine HSm.out.mono ?_
  clear HSm
  rintro e w13 ⟨rfl, m13, rfl⟩
  have b13 := below_drewN (Below.refl w12.heap.size w12) m13
  replace HM5 := Lib.hid ((HM5.out.below b13).mono b13.size)
  replace HM6 := Lib.hid ((HM6.out.below b13).mono b13.size)
  replace HB := Lib.hid (HB.out.trans (b13.mono HB.out.size))
  clear b13
  clear HG HH
  generalize w12.drewN m13 = w13 at *
  go_wp2_with fail
  go_loopw [12] (fun iv wr => ∃ k : Nat, k ≤ (bkL E).length ∧ iv = .int .i64 (k : Nat) ∧ Below w13.heap.size w13 wr) (fun iv _ => (bkL E).length - (intOf iv).toNat)
  case atStart => exact ⟨0, Nat.zero_le _, rfl, Below.refl _ _⟩
  case round =>
    obtain ⟨k, hk, rfl, bel⟩ := hrel
    have hbkl := bkL_len E
    by_cases hlt : k < (bkL E).length
    · obtain ⟨ak, rk, ck, ix5, c5', r5, hc5, -⟩ := (HM5.out.below bel).get hlt
      obtain ⟨aj, rj, cj, ix6, c6', r6, hc6, -⟩ := (HM6.out.below bel).get (i := k) (by rw [List.length_map]; exact hlt)
      have hBm := getD_mem hlt
      have hg : ((bkL E).map (dblB E.length)).getD k [] = dblB E.length ((bkL E).getD k []) := by
        rw [List.getD_eq_getElem?_getD, List.getD_eq_getElem?_getD, List.getElem?_map, List.getElem?_eq_getElem hlt]; rfl
      have hbn := blk_ne HGk.out hBm
      have hble := blk_len HGk.out hBm
      rw [hg] at c6' r6 hc6
      have hl2 := dblB_len E.length ((bkL E).getD k [])
      obtain ⟨hsl, hr6⟩ := RdI.upto r6 (m := ((bkL E).getD k []).length) (by omega) hc6 (by omega)
      rw [dblB_take] at hr6
      rw [hl2] at hsl c6'
      have HSm := fun q => (sameI_any w13.heap.size _ _ _ _ (wr.drewN q) (hr6.below (below_drewN (Below.refl _ _) q)) (r5.below (below_drewN (Below.refl _ _) q)) (by omega))
      rw [decide_eq_true rfl] at HSm
      have HSm := Lib.hid HSm
      obtain ⟨m, hm1⟩ : ∃ m, ((bkL E).getD k []).length = m := ⟨_, rfl⟩
      rw [hm1] at hsl c6' c5' HSm hble
      have hkn : (0 : Int) ≤ k ∧ (k : Int) < (bkL E).length := by omega
      have hw2 : IntKind.i64.wrap (2 * (m : Int)) = 2 * (m : Int) := IntWalk.i64_in _ (by omega)
      have hne : ((2 * (m : Int)) != (2 * (m : Int))) = false := by simp
      have hcast : ((2 * m : Nat) : Int) = 2 * (m : Int) := by omega
      clear r5 r6 hr6 hc5 hc6 hBm hg hbn hl2 hm1
      go_wp2_with fail
      go_quiet ((go_at_call 15; exact Calls.quiet_of (HSm.out _)))
      go_wp2_with fail
      go_roundw
      case rel => exact ⟨k + 1, by omega, by go_num, below_drewN bel _⟩
      case measure => simp only [intOf]; omega
    · obtain rfl : k = (bkL E).length := by omega
      go_wp2_with fail
      refine (works_any _).mono ?_
      rintro e w14 ⟨rfl, b14⟩
      replace HB := Lib.hid (HB.out.trans ((bel.trans (b14.mono bel.size)).mono HB.out.size))
      go_wp2_with fail
      go_ret
      exact ⟨rfl, HB.out⟩
end Go.Proofs.Ytcpikabhcjkkmaa
