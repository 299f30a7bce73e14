/- The walk of Labels of package recon. Conditions: the tree was made by Build. -/
import Derived.Test.YtpbgophogneecaaGreatRcN
import Derived.Test.YtpbgophogneecaaGreatLba
namespace Go.Proofs.YtpbgophogneecaaGreat
open Go.RowKit Go.Shelf
attribute [local go_sem] Oper.semAt_some

/-- a copy of numbers that lie somewhere -/
theorem cloneS (B : Nat) (ad : Addr) (cap m : Nat) (A : Nat → Addr) (f : Nat → Nat → Value) (w : World) (hS : Rd 46 1 w B (.slice (some ad) m cap) m f A) (hB : B ≤ w.heap.size) (hf : ∀ i, i < m → ∀ j, j < 1 → (f i j).oneCell' = true) (hm : m ≤ 1000000) :
    Calls Tryz.prog 42 #[.slice (some ad) m cap] w fun e w' => ∃ g cp, e = .returned (.slice (some ⟨g, 0, none⟩) m cp) ∧ w.heap.size ≤ g ∧ w'.ownsRow w.heap.size 3 1 (.slice (some ⟨g, 0, none⟩) m cp) m (flat f m 1) ∧ Below w.heap.size w w' := by
  have he := fun w => Lib.run_eql_slice_nil (P := Tryz.prog) w 46 3 (some ad) m cap 0 0 Tryz.underlying46
  go_enter Tryz.func42, Tryz.ntmps42
  go_wp2_with (at_builtin; refine copiedAny etI rfl _ _ rfl hS hB hf _ rfl (by simp) rfl (by omega) (by omega) ?_; intro g cp w1 hg R1 D1)
  go_ret
  exact ⟨g, cp, rfl, hg, R1, D1⟩
theorem rowI_rd {w : World} {g m cap : Nat} {F : Nat → Int} (h : Row w g m (intF F)) : Rd 46 1 w w.heap.size (.slice (some ⟨g, 0, none⟩) m cap) m (fun i _ => .int .i64 (F i)) (fun i => (⟨g, 0, none⟩ : Addr).add (i * 1)) :=
  Rd.addr etI (fun _ => h.lt) (fun i hi j hj => by
    obtain rfl : j = 0 := by omega
    rw [add_mk, Nat.mul_one, Nat.zero_add, Nat.add_zero]; exact h.cell hi)
theorem rowI_own {w : World} {base g m cp : Nat} {F : Nat → Int} (h : w.ownsRow base 3 1 (.slice (some ⟨g, 0, none⟩) m cp) m (flat (fun i _ => .int .i64 (F i)) m 1)) : Row w g m (intF F) :=
  (Row.owned h).congr fun i hi => by
    rw [flat_one]; simp [List.getD, hi, intF]
theorem own_cap {w : World} {base g m cp : Nat} {e : TypeId} {xs : List Value} (h : w.ownsRow base e 1 (.slice (some ⟨g, 0, none⟩) m cp) m xs) : m ≤ cp := by
  rcases h.2 with ⟨h0, _⟩ | ⟨g', c', cur, e1, h1⟩
  · cases h0
  · cases e1; exact h1.2.2.1
theorem row_own {A B : World} {b n : Nat} {f : Nat → Value} {row : Option Nat} (h : Row A b n f) (hg : A.grownBy B row) (hr : ∀ r, row = some r → ∃ o : Obj, A.heap[r]? = some o ∧ o.isCells = false) : Row B b n f :=
  h.of_block (hg.block b h.lt fun e => by
    obtain ⟨o, ho, hc⟩ := hr b e.symm
    obtain ⟨c, t, h1, _⟩ := h
    rw [h1] at ho; cases ho; cases hc)
section
variable {P : Program} {md : Region.Mode} {ops : Array Oper}
/-- an operation that is not wanted is passed over -/
theorem skip_at {Q : Exit → Act → World → Prop} {S : World → Prop} {i d : Nat} {oi : Oper} {fuel : Nat} {listed : Array Bool} {tmps : Array Value} {ds : List Deferred} {w : World} (hi : ops[i]? = some oi) (hd : oi.dst = some d)
    (hs : Region.noSelect ops = true) (hf : Region.free md ops listed i = true) (hr : (Region.ready md ops listed).contains i = true)
    (hQ : ∀ c a a' w, Q (.panic c) a w → Q (.panic c) a' w) (hw : Region.wanted oi (yielded ops tmps) = false) (hS : S w)
    (h : wpAnyH P md ops Q S fuel (listed.setIfInBounds i true) { tmps := tmps.setIfInBounds d undef, defers := ds } w) : wpAnyH P md ops Q S (fuel + 1) listed { tmps := tmps, defers := ds } w :=
  wpAnyH_take hi hs hf hr (fun c a w => hQ c _ _ w) (.inr ⟨hw, rfl⟩) hS (by rw [hd]; exact h)
end
theorem Row.take {w : World} {g z n : Nat} {f : Nat → Value} (h : Row w g z f) (hn : n ≤ z) : Row w g n f := by
  obtain ⟨c, t, h1, h2⟩ := h
  exact ⟨c, t, h1, fun i hi => h2 i (by omega)⟩
theorem own_lower {w : World} {base base' n size : Nat} {e : TypeId} {v : Value} {xs : List Value} (h : w.ownsRow base e size v n xs) (hb : base' ≤ base) : w.ownsRow base' e size v n xs :=
  ⟨h.1, h.2.imp id fun ⟨g, c, cur, h1, h2, h3⟩ => ⟨g, c, cur, h1, Nat.le_trans hb h2, h3⟩⟩
theorem labO_of {w : World} {base n : Nat} {v : Value} {F : Nat → Int} {f : Nat → Nat} (h : w.ownsRow base 3 1 v n (flat (fun i _ => .int .i64 (F i)) n 1)) (e : ∀ i, i < n → F i = ((f i : Nat) : Int)) : LabO base v n f w := by
  have e2 : (intsN (labs n f)).map (Value.int .i64) = flat (fun i _ => .int .i64 (F i)) n 1 := by
    rw [flat_one]
    unfold intsN labs
    rw [List.map_map, List.map_map]
    exact List.map_congr_left fun i hi => by simp only [Function.comp]; rw [e i (List.mem_range.1 hi)]
  unfold LabO
  rw [e2]; exact h
/-- the labels when the nodes from c on have been treated -/
def lbD (E : List Ed) (f : List Nat) (n k c y : Nat) : Int := if c ≤ y then ((lbT E f n k y : Nat) : Int) else ((lst E f n y : Nat) : Int)
/-- what Labels answers -/
def RlRes (n : Nat) (E : List Ed) (θ : Int) (w : World) (e : Ending) (w' : World) : Prop := ∃ v, e = .returned (.tuple #[v, .int .i64 0]) ∧ LabO w.heap.size v n (lbW E θ) w' ∧ Below w.heap.size w w'
theorem lbD_zero {E : List Ed} {f : List Nat} {n k y : Nat} : lbD E f n k 0 y = ((lbT E f n k y : Nat) : Int) := if_pos (Nat.zero_le _)
theorem lbD_top {E : List Ed} {f : List Nat} {n k z y : Nat} (h : y < z) : lbD E f n k z y = ((lst E f n y : Nat) : Int) := if_neg (by omega)
theorem lbD_keep {E : List Ed} {f : List Nat} {n k x y : Nat} (h : lbT E f n k x = lst E f n x) : lbD E f n k (x + 1) y = lbD E f n k x y := by
  unfold lbD
  by_cases e : y = x
  · rw [if_neg (by omega), if_pos (by omega), e, h]
  · by_cases c : x ≤ y
    · rw [if_pos c, if_pos (by omega)]
    · rw [if_neg c, if_neg (by omega)]
theorem lbD_set {E : List Ed} {f : List Nat} {n k x y : Nat} {v : Int} (h : ((lbT E f n k x : Nat) : Int) = v) : updI (lbD E f n k (x + 1)) x v y = lbD E f n k x y := by
  unfold updI lbD
  by_cases e : y = x
  · rw [if_pos e, if_pos (by omega), e, h]
  · rw [if_neg e]
    by_cases c : x ≤ y
    · rw [if_pos c, if_pos (by omega)]
    · rw [if_neg c, if_neg (by omega)]
set_option maxRecDepth 100000 in
set_option maxHeartbeats 2000000 in
theorem rclabels_any (B n z : Nat) (b : Blk) (E : List Ed) (o : List Nat) (θ : Int) (w : World) (h : TrAt w B n z b E (frs E o)) (ho : OrdOf E o) (hB : B ≤ w.heap.size) :
    Calls Tryz.prog 75 #[.agg (trV n z b), .int .i64 θ] w (RlRes n E θ w) := by
  refine (callsIn_wide (n := 8)).1 ?_
  have hA : Below w.heap.size w ((w.alloc (.cells (trV n z b) 57)).alloc (.cells #[.int .i64 θ] 2)) := ((Below.refl _ _).alloc (Nat.le_refl _) _).alloc (by simp) _
  have hT : TrBox ((w.alloc (.cells (trV n z b) 57)).alloc (.cells #[.int .i64 θ] 2)) w.heap.size n z b := (tr_row w n z b _).alloc _
  have hTh : Boxed ((w.alloc (.cells (trV n z b) 57)).alloc (.cells #[.int .i64 θ] 2)) (w.heap.size + 1) 2 (.int .i64 θ) := by
    have := Boxed.new (w.alloc (.cells (trV n z b) 57)) 2 (.int .i64 θ)
    rwa [World.size_alloc] at this
  have HTw := Lib.hid (h.mono hB)
  have h1 := (h.mono hB).below hA
  have hz8 := h.z_le
  have hze := h.z_eq
  have hnz : n ≤ z := by omega
  have HL := Lib.hid (leasts_any w.heap.size n z b E o _ h1 ho hA.size)
  have HDc := Lib.hid (down_call n z b)
  unfold trV at HL HDc
  obtain ⟨tv, htv⟩ : ∃ x, trV n z b = x := ⟨_, rfl⟩
  rw [htv] at hA hT hTh h1 ⊢
  have htv2 := htv
  unfold trV at htv2
  rw [htv2] at HL HDc
  have Htv := Lib.hid htv2
  have HA := Lib.hid hA; have HT := Lib.hid hT; have HTh := Lib.hid hTh; have H1 := Lib.hid h1
  have HS := Lib.hid (show ((w.alloc (.cells tv 57)).alloc (.cells #[.int .i64 θ] 2)).heap.size = w.heap.size + 1 + 1 by simp)
  have c0 := hT.c0
  have c1 := hT.c1
  have c2 := hT.c2
  have c3 := hT.c3
  have c4 := hT.c4
  have c5 := hT.c5
  clear htv htv2 h h1 hA hT hTh hze
  refine callsIn_of_wp_marks Tryz.func75 rfl trivial ?_ rfl
  simp only [Tryz.ntmps75, List.size_toArray, List.length_cons, List.length_nil, Nat.reduceAdd, Nat.reduceSub, Array.replicate_succ, Array.replicate_zero, List.push_toArray, List.append_toArray, List.nil_append, List.cons_append]
  gi_wp2_with fail
  generalize (w.alloc (.cells tv 57)).alloc (.cells #[.int .i64 θ] 2) = wa at *
  refine ⟨trivial, ?_⟩
  rw [Htv.out]
  refine (callsIn_wide.2 HL.out).mono ?_
  clear HL c0 c1 c2 c3 c4 c5
  rintro e w1 ⟨g, rfl, hr, hg, hb1⟩
  have hs1 := hb1.size
  have HBa := Lib.hid (HA.out.trans (hb1.mono HA.out.size))
  have HT1 := Lib.hid (show TrBox w1 w.heap.size n z b from Row.below HT.out hb1 (by have := HS.out; omega))
  have HTh1 := Lib.hid (show Boxed w1 (w.heap.size + 1) 2 (.int .i64 θ) from (hb1.block _ (by have := HS.out; omega)).trans HTh.out)
  have H11 := Lib.hid (H1.out.below (hb1.mono (by have := HS.out; omega)))
  have HCl := Lib.hid (cloneS w1.heap.size ⟨g, 0, none⟩ z z _ _ w1 (rowI_rd (F := fun y => ((lst E (frs E o) n y : Nat) : Int)) hr) (Nat.le_refl _) (fun _ _ _ _ => rfl) (by omega))
  have HSa := Lib.hid (show w.heap.size + 1 < w1.heap.size by have := HS.out; omega)
  clear hr hg hb1 hs1 HT HTh H1 HA HS
  gi_wp2_with fail
  refine ⟨trivial, ?_⟩
  refine (callsIn_wide.2 HCl.out).mono ?_
  clear HCl
  rintro e w2 ⟨gl, cp, rfl, hgl, hown, hb2⟩
  have hcp := own_cap hown
  have HRow := Lib.hid (rowI_own (F := fun y => ((lst E (frs E o) n y : Nat) : Int)) hown)
  have hs2 := hb2.size
  have hglt := HRow.out.lt
  have HBb := Lib.hid (HBa.out.trans (hb2.mono HBa.out.size))
  have HT2 := Lib.hid (show TrBox w2 w.heap.size n z b from Row.below HT1.out hb2 (by have := HSa.out; omega))
  have HTh2 := Lib.hid (show Boxed w2 (w.heap.size + 1) 2 (.int .i64 θ) from (hb2.block _ (by have := HSa.out; omega)).trans HTh1.out)
  have H12 := Lib.hid (H11.out.below (hb2.mono (by have := HSa.out; omega)))
  have HSb := Lib.hid (show w.heap.size + 1 < w2.heap.size ∧ w.heap.size + 1 < gl by have := HSa.out; omega)
  have hbn : Below w2.heap.size w2 (w2.alloc (.cells #[.slice (some ⟨gl, 0, none⟩) z cp] 46)) := (Below.refl _ _).alloc (Nat.le_refl _) _
  have hTx : TrBox (w2.alloc (.cells #[.slice (some ⟨gl, 0, none⟩) z cp] 46)) w.heap.size n z b := Row.alloc HT2.out _
  have c0 := hTx.c0
  have c1 := hTx.c1
  have c2 := hTx.c2
  have c3 := hTx.c3
  have c4 := hTx.c4
  have c5 := hTx.c5
  clear hown hb2 hs2 hTx hbn HT1 HTh1 H11 HSa HBa hgl
  gi_wp2_with fail
  refine ⟨trivial, ?_⟩
  rw [Htv.out]
  refine (callsIn_wide.2 (HDc.out _)).mono ?_
  rintro e w3 ⟨rfl, rfl⟩
  clear HDc c0 c1 c2 c3 c4 c5
  gi_wp2_with fail
  obtain ⟨k, hk⟩ : ∃ k, kOf (frs E o) (leW E θ) = k := ⟨_, rfl⟩
  have Hk := Lib.hid hk
  have hkl : k ≤ (frs E o).length := by rw [← hk]; exact kOf_le _ _
  clear hk
  obtain ⟨W0, hW0⟩ : ∃ W0, (w2.alloc (.cells #[.slice (some ⟨gl, 0, none⟩) z cp] 46)).alloc (.cells tv 57) = W0 := ⟨_, rfl⟩
  have hb0 : Below w2.heap.size w2 W0 := by rw [← hW0]; exact ((Below.refl _ _).alloc (Nat.le_refl _) _).alloc (by simp) _
  have hs0 : W0.heap.size = w2.heap.size + 2 := by rw [← hW0]; simp
  have hb9 : Below w.heap.size w W0 := HBb.out.trans (hb0.mono HBb.out.size)
  have hv0 : Boxed W0 w2.heap.size 46 (.slice (some ⟨gl, 0, none⟩) z cp) := by rw [← hW0]; exact (Boxed.new w2 46 _).alloc _
  have hbx0 : TrBox W0 (w2.heap.size + 1) n z b := by
    rw [← hW0, ← Htv.out]
    have := tr_row (w2.alloc (.cells #[.slice (some ⟨gl, 0, none⟩) z cp] 46)) n z b 57
    rwa [World.size_alloc] at this
  have hT0 : TrBox W0 w.heap.size n z b := Row.below HT2.out hb0 (Row.lt HT2.out)
  have hTh0 : Boxed W0 (w.heap.size + 1) 2 (.int .i64 θ) := (hb0.block _ HTh2.out.lt).trans HTh2.out
  have hR0 : Row W0 gl z (intF (lbD E (frs E o) n k z)) := (HRow.out.below hb0 HRow.out.lt).congr fun y hy => by unfold intF; rw [lbD_top hy]
  have hTr0 : TrAt W0 w.heap.size n z b E (frs E o) := HTw.out.below hb9
  have hsw := HSb.out
  rw [hW0]
  clear hW0 HBb HT2 HTh2 H12 HRow
  refine rangeR (F := Fence.wide) rfl (by omega) (gf := 114) (lb := #[.pointer (some ⟨w2.heap.size + 1, 0, none⟩)]) rfl trivial (enters_of Tryz.func114 (by kernel_rfl) rfl)
    (down_stops 7 (by omega) (w2.heap.size + 1) w.heap.size n z b E (frs E o) W0 hbx0 hTr0 (by omega)) keepT_t (keepT_b (by omega) (by omega)) (Below.refl _ _) (fun _ => rfl)
    (fun pre W => (Row W gl z (intF (lbD E (frs E o) n k (z - pre.length))) ∧ Boxed W w2.heap.size 46 (.slice (some ⟨gl, 0, none⟩) z cp) ∧ TrBox W w.heap.size n z b ∧ Boxed W (w.heap.size + 1) 2 (.int .i64 θ)) ∧ Below w.heap.size w W)
    (fun _ _ _ => False)
    (OwnFrom.and (fun s A B row hs hg hr => ⟨row_own hs.1 hg (fun r e => (hr r e).2), boxed_own _ _ (fun _ : Unit => .slice (some ⟨gl, 0, none⟩) z cp) () A B row hs.2.1 hg (fun r e => (hr r e).2), row_own hs.2.2.1 hg (fun r e => (hr r e).2), boxed_own _ _ (fun _ : Unit => .int .i64 θ) () A B row hs.2.2.2 hg (fun r e => (hr r e).2)⟩) (ownFrom_below (Nat.le_refl _) (by omega)))
    (fun _ _ _ _ _ hs _ _ => hs)
    ⟨⟨hR0, hv0, hT0, hTh0⟩, hb9⟩
    (fun _ x a' _ => a' = { tmps := #[.agg tv, .int .i64 θ, .pointer (some ⟨w.heap.size, 0, none⟩), .pointer (some ⟨w.heap.size + 1, 0, none⟩), .slice none 0 0, .int .i64 0, .slice (some ⟨g, 0, none⟩) z z, .bool true, .pointer (some ⟨w2.heap.size, 0, none⟩), .int .i64 (x : Nat), .int .i64 (stP E (frs E o) n (frs E o).length x), .tuple #[.slice (some ⟨g, 0, none⟩) z z, .bool true], .agg tv, .tuple #[.slice (some ⟨g, 0, none⟩) z z, .bool true], .slice (some ⟨g, 0, none⟩) z z, .bool true, .bool true, .bool false, .slice (some ⟨g, 0, none⟩) z z, .slice (some ⟨gl, 0, none⟩) z cp, .agg tv, .func (.func 114) #[] #[.pointer (some ⟨w2.heap.size + 1, 0, none⟩)], .int .i64 (x : Nat), .int .i64 (stP E (frs E o) n (frs E o).length x), undef, undef, undef, undef, undef, undef, undef, undef, undef, undef, undef, undef, undef, undef, undef, undef, undef, undef, undef, undef, undef, undef, undef], defers := [] })
    (fun _ _ _ _ _ _ _ hs _ _ => hs) ?assign ?body ?done ?stop
  case assign =>
    intro l pre x W K hI hR hK
    unfold dnV
    gi_wp2
    exact hK _ _ (KeepsFrom.refl _ _) ⟨Below.refl _ _, rfl⟩ hI rfl
  case body =>
    rintro l pre x a' W hl - ⟨⟨hrow, hbv, hbt, hbth⟩, hB⟩ rfl hR
    clear hR0 hv0 hT0 hTh0 hTr0 hbx0 hb0 hb9
    have hxz : x < z := by omega
    have hc : z - pre.length = x + 1 := by omega
    have hc2 : z - (pre ++ [x]).length = x := by simp; omega
    rw [hc] at hrow
    have hTr := HTw.out.below hB
    have hrp := hTr.rp
    have hrh := hTr.rh
    have F := hTr.fo
    have hze := hTr.z_eq
    have hblo := hTr.lo
    have Hc2 := Lib.hid hc2
    have HSz := Lib.hid hs0
    clear hc hc2 hR hTr hs0
    cases hp : pk E (frs E o) n (frs E o).length x with
    | none =>
      have hpv : stP E (frs E o) n (frs E o).length x = -1 := by unfold stP; rw [hp]; rfl
      have hlt : lbT E (frs E o) n k x = lst E (frs E o) n x := lbT_top F hkl (fun i hi => by rw [hp] at hi; cases hi)
      have FIN := Lib.hid (show KeepsFrom W0.heap.size W W.drew ∧ KeepT w.heap.size (w2.heap.size + 1) W W.drew ∧ (Row W.drew gl z (intF (lbD E (frs E o) n k (z - (pre ++ [x]).length))) ∧ Boxed W.drew w2.heap.size 46 (.slice (some ⟨gl, 0, none⟩) z cp) ∧ TrBox W.drew w.heap.size n z b ∧ Boxed W.drew (w.heap.size + 1) 2 (.int .i64 θ)) ∧ Below w.heap.size w W.drew from
        ⟨(KeepsOthers.drew W).from _, ⟨(Below.refl _ W).drew, rfl⟩, ⟨by rw [Hc2.out]; exact hrow.congr fun y _ => by unfold intF; rw [lbD_keep hlt], hbv, hbt, hbth⟩, hB.drew⟩)
      rw [hpv]
      have HS : True := trivial
      clear hrow hbv hbt hbth hB hrp hrh F hze hblo hp hpv hlt
      gi_wp2
      refine region_round (fun _ => True) (by kernel_rfl) (by kernel_rfl) ?_
      generalize W.drew = v0 at *
      refine take_at (i := 0) (d := 24) (v := ?_) rfl rfl (by kernel_rfl) (by kernel_rfl) (by kernel_rfl) (fun _ _ _ _ => NormalOnly.any) rfl ?hy1 HS ?rest1
      case hy1 => intro w' hSw; (try dsimp only at hSw); go_simp; try (with_reducible rfl)
      try simp only [List.setIfInBounds_toArray, List.set_cons_zero, List.set_cons_succ]
      refine take_at (i := 1) (d := 25) (v := ?_) rfl rfl (by kernel_rfl) (by kernel_rfl) (by kernel_rfl) (fun _ _ _ _ => NormalOnly.any) rfl ?hy2 HS ?rest2
      case hy2 => intro w' hSw; (try dsimp only at hSw); go_simp; try (with_reducible rfl)
      try simp only [List.setIfInBounds_toArray, List.set_cons_zero, List.set_cons_succ]
      refine take_at (i := 2) (d := 26) (v := ?_) rfl rfl (by kernel_rfl) (by kernel_rfl) (by kernel_rfl) (fun _ _ _ _ => NormalOnly.any) rfl ?hy3 HS ?rest3
      case hy3 => intro w' hSw; (try dsimp only at hSw); go_simp; try (with_reducible rfl)
      try simp only [List.setIfInBounds_toArray, List.set_cons_zero, List.set_cons_succ]
      refine skip_at (i := 3) (d := 27) rfl rfl (by kernel_rfl) (by kernel_rfl) (by kernel_rfl) (fun _ _ _ _ => NormalOnly.any) rfl HS ?_
      try simp only [List.setIfInBounds_toArray, List.set_cons_zero, List.set_cons_succ]
      refine skip_at (i := 4) (d := 28) rfl rfl (by kernel_rfl) (by kernel_rfl) (by kernel_rfl) (fun _ _ _ _ => NormalOnly.any) rfl HS ?_
      try simp only [List.setIfInBounds_toArray, List.set_cons_zero, List.set_cons_succ]
      refine skip_at (i := 5) (d := 29) rfl rfl (by kernel_rfl) (by kernel_rfl) (by kernel_rfl) (fun _ _ _ _ => NormalOnly.any) rfl HS ?_
      try simp only [List.setIfInBounds_toArray, List.set_cons_zero, List.set_cons_succ]
      refine skip_at (i := 6) (d := 30) rfl rfl (by kernel_rfl) (by kernel_rfl) (by kernel_rfl) (fun _ _ _ _ => NormalOnly.any) rfl HS ?_
      try simp only [List.setIfInBounds_toArray, List.set_cons_zero, List.set_cons_succ]
      refine skip_at (i := 7) (d := 31) rfl rfl (by kernel_rfl) (by kernel_rfl) (by kernel_rfl) (fun _ _ _ _ => NormalOnly.any) rfl HS ?_
      try simp only [List.setIfInBounds_toArray, List.set_cons_zero, List.set_cons_succ]
      refine skip_at (i := 8) (d := 32) rfl rfl (by kernel_rfl) (by kernel_rfl) (by kernel_rfl) (fun _ _ _ _ => NormalOnly.any) rfl HS ?_
      try simp only [List.setIfInBounds_toArray, List.set_cons_zero, List.set_cons_succ]
      refine skip_at (i := 9) (d := 33) rfl rfl (by kernel_rfl) (by kernel_rfl) (by kernel_rfl) (fun _ _ _ _ => NormalOnly.any) rfl HS ?_
      try simp only [List.setIfInBounds_toArray, List.set_cons_zero, List.set_cons_succ]
      refine take_at (i := 10) (d := 34) (v := ?_) rfl rfl (by kernel_rfl) (by kernel_rfl) (by kernel_rfl) (fun _ _ _ _ => NormalOnly.any) rfl ?hy4 HS ?rest4
      case hy4 => intro w' hSw; (try dsimp only at hSw); go_simp; try (with_reducible rfl)
      try simp only [List.setIfInBounds_toArray, List.set_cons_zero, List.set_cons_succ]
      refine wpAnyH_done (by kernel_rfl) ⟨rfl, ?_⟩ _
      gi_wp2
      exact FIN.out
    | some i =>
      have hil := pk_lt hp
      have hbel := pk_below F (Nat.le_refl _) hp
      obtain ⟨y, hy⟩ : ∃ y, n + i = y := ⟨_, rfl⟩
      have hpv : stP E (frs E o) n (frs E o).length x = ((y : Nat) : Int) := by unfold stP; rw [hp, ← hy]; rfl
      have hyz : y < z := by omega
      have hxy : x < y := by omega
      have hkk := kOf_iff ho leW_down (S := leW E θ) hil
      rw [Hk.out, leW_iff] at hkk
      have ch : W.cell? ⟨b.h, y, none⟩ = some (.int .i64 (eAt E ((frs E o).getD i 0)).w) := by rw [hrh.cell hyz, ← hy]; unfold intF; rw [stH_at hil]
      generalize (eAt E ((frs E o).getD i 0)).w = hw at *
      have HS : W.drew.cell? ⟨w.heap.size, 4, none⟩ = some (.slice (some ⟨b.h, 0, none⟩) z z) ∧ W.drew.cell? ⟨b.h, y, none⟩ = some (.int .i64 hw) ∧ W.drew.cell? ⟨w.heap.size + 1, 0, none⟩ = some (.int .i64 θ) := ⟨hbt.c4, ch, hbth.cell⟩
      rw [hpv]
      have hyi : (0 : Int) ≤ y ∧ (y : Int) < z := by omega
      have g1 : decide ((0 : Int) ≤ y) = true := decide_eq_true (by omega)
      by_cases hik : i < k
      · have g2 : decide (hw ≤ θ) = true := decide_eq_true (hkk.2 hik)
        have hlt : lbT E (frs E o) n k x = lbT E (frs E o) n k y := by rw [lbT_up F hp hik, hy]
        have cy : W.cell? ⟨gl, y, none⟩ = some (.int .i64 (lbT E (frs E o) n k y : Nat)) := by rw [hrow.cell hyz]; unfold intF lbD; rw [if_pos (by omega)]
        generalize lbT E (frs E o) n k y = lb at *
        have cx := hrow.cell hxz
        have fx := hrow.frozen x
        have hglb : gl ≠ w2.heap.size := by omega
        have hxi : (0 : Int) ≤ x ∧ (x : Int) < z := by omega
        have FIN := Lib.hid (show KeepsFrom W0.heap.size W (W.drew.drew.setCell ⟨gl, x, none⟩ (.int .i64 (lb : Nat))) ∧ KeepT w.heap.size (w2.heap.size + 1) W (W.drew.drew.setCell ⟨gl, x, none⟩ (.int .i64 (lb : Nat))) ∧ (Row (W.drew.drew.setCell ⟨gl, x, none⟩ (.int .i64 (lb : Nat))) gl z (intF (lbD E (frs E o) n k (z - (pre ++ [x]).length))) ∧ Boxed (W.drew.drew.setCell ⟨gl, x, none⟩ (.int .i64 (lb : Nat))) w2.heap.size 46 (.slice (some ⟨gl, 0, none⟩) z cp) ∧ TrBox (W.drew.drew.setCell ⟨gl, x, none⟩ (.int .i64 (lb : Nat))) w.heap.size n z b ∧ Boxed (W.drew.drew.setCell ⟨gl, x, none⟩ (.int .i64 (lb : Nat))) (w.heap.size + 1) 2 (.int .i64 θ)) ∧ Below w.heap.size w (W.drew.drew.setCell ⟨gl, x, none⟩ (.int .i64 (lb : Nat))) from
          ⟨(((KeepsOthers.drew W).trans (KeepsOthers.drew _)).trans (KeepsOthers.setCell _ _ _)).from _, ⟨((Below.refl _ W).drew.drew).setCell (p := ⟨gl, x, none⟩) (by show w.heap.size ≤ gl; omega) _, Below.heap_setCell _ _ _ _ (by show w2.heap.size + 1 ≠ gl; omega)⟩,
           ⟨by rw [Hc2.out]; exact ((hrow.drew.drew).set x _).congr fun j _ => by rw [intF_set]; unfold intF; rw [lbD_set (by rw [hlt])],
            (Below.heap_setCell _ _ _ _ (by show w2.heap.size ≠ gl; omega)).trans hbv, Row.setOther (hbt : Row W.drew.drew w.heap.size 6 (trC n z b)) (a := ⟨gl, x, none⟩) (by show w.heap.size ≠ gl; omega) _, (Below.heap_setCell _ _ _ _ (by show w.heap.size + 1 ≠ gl; omega)).trans hbth⟩,
           (hB.drew.drew).setCell (p := ⟨gl, x, none⟩) (by show w.heap.size ≤ gl; omega) _⟩)
        have HS9 := Lib.hid (show W.drew.drew.cell? ⟨w2.heap.size, 0, none⟩ = some (.slice (some ⟨gl, 0, none⟩) z cp) ∧ W.drew.drew.cell? ⟨gl, y, none⟩ = some (.int .i64 (lb : Nat)) from ⟨hbv.cell, cy⟩)
        have HC9 := Lib.hid (show W.drew.drew.cell? ⟨gl, x, none⟩ = _ ∧ W.drew.drew.frozen? ⟨gl, x, none⟩ = false from ⟨cx, fx⟩)
        have HZ9 := Lib.hid hglb
        have hyx : y ≠ x := by omega
        clear hrow hbv hbt hbth hB hrp hrh F hze hblo hp hpv hlt hkk ch cy cx fx hglb hbel hil
        gi_wp2
        refine region_round (fun w' => w'.cell? ⟨w.heap.size, 4, none⟩ = some (.slice (some ⟨b.h, 0, none⟩) z z) ∧ w'.cell? ⟨b.h, y, none⟩ = some (.int .i64 hw) ∧ w'.cell? ⟨w.heap.size + 1, 0, none⟩ = some (.int .i64 θ)) (by kernel_rfl) (by kernel_rfl) ?_
        generalize W.drew = v0 at *
        refine take_at (i := 0) (d := 24) (v := ?_) rfl rfl (by kernel_rfl) (by kernel_rfl) (by kernel_rfl) (fun _ _ _ _ => NormalOnly.any) rfl ?hy5 HS ?rest5
        case hy5 => intro w' hSw; (try dsimp only at hSw); go_simp; try (with_reducible rfl)
        try simp only [List.setIfInBounds_toArray, List.set_cons_zero, List.set_cons_succ]
        refine take_at (i := 1) (d := 25) (v := ?_) rfl rfl (by kernel_rfl) (by kernel_rfl) (by kernel_rfl) (fun _ _ _ _ => NormalOnly.any) rfl ?hy6 HS ?rest6
        case hy6 => intro w' hSw; (try dsimp only at hSw); go_simp; try (with_reducible rfl)
        try simp only [List.setIfInBounds_toArray, List.set_cons_zero, List.set_cons_succ]
        refine take_at (i := 2) (d := 26) (v := ?_) rfl rfl (by kernel_rfl) (by kernel_rfl) (by kernel_rfl) (fun _ _ _ _ => NormalOnly.any) rfl ?hy7 HS ?rest7
        case hy7 => intro w' hSw; (try dsimp only at hSw); go_simp; try (with_reducible rfl)
        try simp only [List.setIfInBounds_toArray, List.set_cons_zero, List.set_cons_succ]
        refine take_at (i := 3) (d := 27) (v := ?_) rfl rfl (by kernel_rfl) (by kernel_rfl) (by kernel_rfl) (fun _ _ _ _ => NormalOnly.any) rfl ?hy8 HS ?rest8
        case hy8 => intro w' hSw; (try dsimp only at hSw); go_simp; try (with_reducible rfl)
        try simp only [List.setIfInBounds_toArray, List.set_cons_zero, List.set_cons_succ]
        refine take_at (i := 4) (d := 28) (v := ?_) rfl rfl (by kernel_rfl) (by kernel_rfl) (by kernel_rfl) (fun _ _ _ _ => NormalOnly.any) rfl ?hy9 HS ?rest9
        case hy9 => intro w' hSw; (try dsimp only at hSw); go_simp; try (with_reducible rfl)
        try simp only [List.setIfInBounds_toArray, List.set_cons_zero, List.set_cons_succ]
        refine take_at (i := 5) (d := 29) (v := ?_) rfl rfl (by kernel_rfl) (by kernel_rfl) (by kernel_rfl) (fun _ _ _ _ => NormalOnly.any) rfl ?hy10 HS ?rest10
        case hy10 => intro w' hSw; (try dsimp only at hSw); go_simp; try (with_reducible rfl)
        try simp only [List.setIfInBounds_toArray, List.set_cons_zero, List.set_cons_succ]
        refine take_at (i := 6) (d := 30) (v := ?_) rfl rfl (by kernel_rfl) (by kernel_rfl) (by kernel_rfl) (fun _ _ _ _ => NormalOnly.any) rfl ?hy11 HS ?rest11
        case hy11 => intro w' hSw; (try dsimp only at hSw); go_simp; try (with_reducible rfl)
        try simp only [List.setIfInBounds_toArray, List.set_cons_zero, List.set_cons_succ]
        refine take_at (i := 7) (d := 31) (v := ?_) rfl rfl (by kernel_rfl) (by kernel_rfl) (by kernel_rfl) (fun _ _ _ _ => NormalOnly.any) rfl ?hy12 HS ?rest12
        case hy12 => intro w' hSw; (try dsimp only at hSw); go_simp; try (with_reducible rfl)
        try simp only [List.setIfInBounds_toArray, List.set_cons_zero, List.set_cons_succ]
        refine take_at (i := 8) (d := 32) (v := ?_) rfl rfl (by kernel_rfl) (by kernel_rfl) (by kernel_rfl) (fun _ _ _ _ => NormalOnly.any) rfl ?hy13 HS ?rest13
        case hy13 => intro w' hSw; (try dsimp only at hSw); go_simp; try (with_reducible rfl)
        try simp only [List.setIfInBounds_toArray, List.set_cons_zero, List.set_cons_succ]
        refine take_at (i := 9) (d := 33) (v := ?_) rfl rfl (by kernel_rfl) (by kernel_rfl) (by kernel_rfl) (fun _ _ _ _ => NormalOnly.any) rfl ?hy14 HS ?rest14
        case hy14 => intro w' hSw; (try dsimp only at hSw); go_simp; try (with_reducible rfl)
        try simp only [List.setIfInBounds_toArray, List.set_cons_zero, List.set_cons_succ]
        refine take_at (i := 10) (d := 34) (v := ?_) rfl rfl (by kernel_rfl) (by kernel_rfl) (by kernel_rfl) (fun _ _ _ _ => NormalOnly.any) rfl ?hy15 HS ?rest15
        case hy15 => intro w' hSw; (try dsimp only at hSw); go_simp; try (with_reducible rfl)
        try simp only [List.setIfInBounds_toArray, List.set_cons_zero, List.set_cons_succ]
        refine wpAnyH_done (by kernel_rfl) ⟨rfl, ?_⟩ _
        clear HS
        gi_wp2
        have HS := HS9.out
        refine region_round (fun w' => w'.cell? ⟨w2.heap.size, 0, none⟩ = some (.slice (some ⟨gl, 0, none⟩) z cp) ∧ w'.cell? ⟨gl, y, none⟩ = some (.int .i64 (lb : Nat))) (by kernel_rfl) (by kernel_rfl) ?_
        clear HS9
        generalize v0.drew = v1 at *
        refine take_at (i := 0) (d := 35) (v := ?_) rfl rfl (by kernel_rfl) (by kernel_rfl) (by kernel_rfl) (fun _ _ _ _ => NormalOnly.any) rfl ?hy16 HS ?rest16
        case hy16 => intro w' hSw; (try dsimp only at hSw); go_simp; try (with_reducible rfl)
        try simp only [List.setIfInBounds_toArray, List.set_cons_zero, List.set_cons_succ]
        refine take_at (i := 1) (d := 36) (v := ?_) rfl rfl (by kernel_rfl) (by kernel_rfl) (by kernel_rfl) (fun _ _ _ _ => NormalOnly.any) rfl ?hy17 HS ?rest17
        case hy17 => intro w' hSw; (try dsimp only at hSw); go_simp; try (with_reducible rfl)
        try simp only [List.setIfInBounds_toArray, List.set_cons_zero, List.set_cons_succ]
        refine take_at (i := 2) (d := 37) (v := ?_) rfl rfl (by kernel_rfl) (by kernel_rfl) (by kernel_rfl) (fun _ _ _ _ => NormalOnly.any) rfl ?hy18 HS ?rest18
        case hy18 => intro w' hSw; (try dsimp only at hSw); go_simp; try (with_reducible rfl)
        try simp only [List.setIfInBounds_toArray, List.set_cons_zero, List.set_cons_succ]
        refine take_at (i := 3) (d := 38) (v := ?_) rfl rfl (by kernel_rfl) (by kernel_rfl) (by kernel_rfl) (fun _ _ _ _ => NormalOnly.any) rfl ?hy19 HS ?rest19
        case hy19 => intro w' hSw; (try dsimp only at hSw); go_simp; try (with_reducible rfl)
        try simp only [List.setIfInBounds_toArray, List.set_cons_zero, List.set_cons_succ]
        refine take_at (i := 4) (d := 39) (v := ?_) rfl rfl (by kernel_rfl) (by kernel_rfl) (by kernel_rfl) (fun _ _ _ _ => NormalOnly.any) rfl ?hy20 HS ?rest20
        case hy20 => intro w' hSw; (try dsimp only at hSw); go_simp; try (with_reducible rfl)
        try simp only [List.setIfInBounds_toArray, List.set_cons_zero, List.set_cons_succ]
        refine take_at (i := 5) (d := 40) (v := ?_) rfl rfl (by kernel_rfl) (by kernel_rfl) (by kernel_rfl) (fun _ _ _ _ => NormalOnly.any) rfl ?hy21 HS ?rest21
        case hy21 => intro w' hSw; (try dsimp only at hSw); go_simp; try (with_reducible rfl)
        try simp only [List.setIfInBounds_toArray, List.set_cons_zero, List.set_cons_succ]
        refine take_at (i := 6) (d := 41) (v := ?_) rfl rfl (by kernel_rfl) (by kernel_rfl) (by kernel_rfl) (fun _ _ _ _ => NormalOnly.any) rfl ?hy22 HS ?rest22
        case hy22 => intro w' hSw; (try dsimp only at hSw); go_simp; try (with_reducible rfl)
        try simp only [List.setIfInBounds_toArray, List.set_cons_zero, List.set_cons_succ]
        obtain ⟨cx, fx⟩ := HC9.out
        have Hne := Lib.hid (show (v1.setCell ⟨gl, x, none⟩ (.int .i64 (lb : Nat))).cell? ⟨w2.heap.size, 0, none⟩ = some (.slice (some ⟨gl, 0, none⟩) z cp) ∧ (v1.setCell ⟨gl, x, none⟩ (.int .i64 (lb : Nat))).cell? ⟨gl, y, none⟩ = some (.int .i64 (lb : Nat)) from
          ⟨(World.cell?_setCell_other _ _ _ _ (fun e => HZ9.out (Addr.mk.inj e).1)).trans HS.1, (World.cell?_setCell_other _ _ _ _ (fun e => hyx (Addr.mk.inj e).2.1.symm)).trans HS.2⟩)
        refine wpAnyH_ready (rs := [7]) (by kernel_rfl) (by simp) ?_
        refine AllReadyH.cons rfl (fun K hK => ?_) AllReadyH.nil
        go_simp
        refine hK.out _ _ Hne.out (fun _ => ?_)
        clear hK HS cx fx HC9 Hne
        refine wpAnyH_done (by kernel_rfl) ⟨rfl, ?_⟩ _
        gi_wp2
        exact FIN.out
      · have g2 : decide (hw ≤ θ) = false := decide_eq_false (fun c => hik (hkk.1 c))
        have hlt : lbT E (frs E o) n k x = lst E (frs E o) n x := lbT_top F hkl (fun j hj => by rw [hp] at hj; cases hj; omega)
        have FIN := Lib.hid (show KeepsFrom W0.heap.size W W.drew ∧ KeepT w.heap.size (w2.heap.size + 1) W W.drew ∧ (Row W.drew gl z (intF (lbD E (frs E o) n k (z - (pre ++ [x]).length))) ∧ Boxed W.drew w2.heap.size 46 (.slice (some ⟨gl, 0, none⟩) z cp) ∧ TrBox W.drew w.heap.size n z b ∧ Boxed W.drew (w.heap.size + 1) 2 (.int .i64 θ)) ∧ Below w.heap.size w W.drew from
          ⟨(KeepsOthers.drew W).from _, ⟨(Below.refl _ W).drew, rfl⟩, ⟨by rw [Hc2.out]; exact hrow.congr fun y _ => by unfold intF; rw [lbD_keep hlt], hbv, hbt, hbth⟩, hB.drew⟩)
        clear hrow hbv hbt hbth hB hrp hrh F hze hblo hp hpv hlt hkk ch hbel hil
        gi_wp2
        refine region_round (fun w' => w'.cell? ⟨w.heap.size, 4, none⟩ = some (.slice (some ⟨b.h, 0, none⟩) z z) ∧ w'.cell? ⟨b.h, y, none⟩ = some (.int .i64 hw) ∧ w'.cell? ⟨w.heap.size + 1, 0, none⟩ = some (.int .i64 θ)) (by kernel_rfl) (by kernel_rfl) ?_
        generalize W.drew = v0 at *
        refine take_at (i := 0) (d := 24) (v := ?_) rfl rfl (by kernel_rfl) (by kernel_rfl) (by kernel_rfl) (fun _ _ _ _ => NormalOnly.any) rfl ?hy23 HS ?rest23
        case hy23 => intro w' hSw; (try dsimp only at hSw); go_simp; try (with_reducible rfl)
        try simp only [List.setIfInBounds_toArray, List.set_cons_zero, List.set_cons_succ]
        refine take_at (i := 1) (d := 25) (v := ?_) rfl rfl (by kernel_rfl) (by kernel_rfl) (by kernel_rfl) (fun _ _ _ _ => NormalOnly.any) rfl ?hy24 HS ?rest24
        case hy24 => intro w' hSw; (try dsimp only at hSw); go_simp; try (with_reducible rfl)
        try simp only [List.setIfInBounds_toArray, List.set_cons_zero, List.set_cons_succ]
        refine take_at (i := 2) (d := 26) (v := ?_) rfl rfl (by kernel_rfl) (by kernel_rfl) (by kernel_rfl) (fun _ _ _ _ => NormalOnly.any) rfl ?hy25 HS ?rest25
        case hy25 => intro w' hSw; (try dsimp only at hSw); go_simp; try (with_reducible rfl)
        try simp only [List.setIfInBounds_toArray, List.set_cons_zero, List.set_cons_succ]
        refine take_at (i := 3) (d := 27) (v := ?_) rfl rfl (by kernel_rfl) (by kernel_rfl) (by kernel_rfl) (fun _ _ _ _ => NormalOnly.any) rfl ?hy26 HS ?rest26
        case hy26 => intro w' hSw; (try dsimp only at hSw); go_simp; try (with_reducible rfl)
        try simp only [List.setIfInBounds_toArray, List.set_cons_zero, List.set_cons_succ]
        refine take_at (i := 4) (d := 28) (v := ?_) rfl rfl (by kernel_rfl) (by kernel_rfl) (by kernel_rfl) (fun _ _ _ _ => NormalOnly.any) rfl ?hy27 HS ?rest27
        case hy27 => intro w' hSw; (try dsimp only at hSw); go_simp; try (with_reducible rfl)
        try simp only [List.setIfInBounds_toArray, List.set_cons_zero, List.set_cons_succ]
        refine take_at (i := 5) (d := 29) (v := ?_) rfl rfl (by kernel_rfl) (by kernel_rfl) (by kernel_rfl) (fun _ _ _ _ => NormalOnly.any) rfl ?hy28 HS ?rest28
        case hy28 => intro w' hSw; (try dsimp only at hSw); go_simp; try (with_reducible rfl)
        try simp only [List.setIfInBounds_toArray, List.set_cons_zero, List.set_cons_succ]
        refine take_at (i := 6) (d := 30) (v := ?_) rfl rfl (by kernel_rfl) (by kernel_rfl) (by kernel_rfl) (fun _ _ _ _ => NormalOnly.any) rfl ?hy29 HS ?rest29
        case hy29 => intro w' hSw; (try dsimp only at hSw); go_simp; try (with_reducible rfl)
        try simp only [List.setIfInBounds_toArray, List.set_cons_zero, List.set_cons_succ]
        refine take_at (i := 7) (d := 31) (v := ?_) rfl rfl (by kernel_rfl) (by kernel_rfl) (by kernel_rfl) (fun _ _ _ _ => NormalOnly.any) rfl ?hy30 HS ?rest30
        case hy30 => intro w' hSw; (try dsimp only at hSw); go_simp; try (with_reducible rfl)
        try simp only [List.setIfInBounds_toArray, List.set_cons_zero, List.set_cons_succ]
        refine take_at (i := 8) (d := 32) (v := ?_) rfl rfl (by kernel_rfl) (by kernel_rfl) (by kernel_rfl) (fun _ _ _ _ => NormalOnly.any) rfl ?hy31 HS ?rest31
        case hy31 => intro w' hSw; (try dsimp only at hSw); go_simp; try (with_reducible rfl)
        try simp only [List.setIfInBounds_toArray, List.set_cons_zero, List.set_cons_succ]
        refine take_at (i := 9) (d := 33) (v := ?_) rfl rfl (by kernel_rfl) (by kernel_rfl) (by kernel_rfl) (fun _ _ _ _ => NormalOnly.any) rfl ?hy32 HS ?rest32
        case hy32 => intro w' hSw; (try dsimp only at hSw); go_simp; try (with_reducible rfl)
        try simp only [List.setIfInBounds_toArray, List.set_cons_zero, List.set_cons_succ]
        refine take_at (i := 10) (d := 34) (v := ?_) rfl rfl (by kernel_rfl) (by kernel_rfl) (by kernel_rfl) (fun _ _ _ _ => NormalOnly.any) rfl ?hy33 HS ?rest33
        case hy33 => intro w' hSw; (try dsimp only at hSw); go_simp; try (with_reducible rfl)
        try simp only [List.setIfInBounds_toArray, List.set_cons_zero, List.set_cons_succ]
        refine wpAnyH_done (by kernel_rfl) ⟨rfl, ?_⟩ _
        clear HS
        gi_wp2
        exact FIN.out
  case done =>
    rintro D xs W hD hS ⟨⟨hrow, hbv, hbt, hbth⟩, hB⟩ hK
    rw [show z - xs.length = 0 by omega] at hrow
    have hRn : Row W gl n (intF fun y => ((lbT E (frs E o) n k y : Nat) : Int)) := (hrow.take hnz).congr fun y _ => by unfold intF; rw [lbD_zero]
    have HCl := Lib.hid (cloneS W.heap.size ⟨gl, 0, none⟩ cp n _ _ W (rowI_rd hRn) (Nat.le_refl _) (fun _ _ _ _ => rfl) (by omega))
    have cv := hbv.cell
    have c0 := hbt.c0
    have hnc : n ≤ cp := by omega
    have HBw := Lib.hid hB
    have hKl := (Array.getElem?_eq_some_iff.1 hK).1
    clear hrow hbv hbt hbth hB hRn hR0 hv0 hT0 hTh0 hTr0 hbx0 hb0 hb9
    gi_wp2_with fail
    refine ⟨trivial, ?_⟩
    refine (callsIn_wide.2 HCl.out).mono ?_
    rintro e w5 ⟨gr, cr, rfl, hgr, hown, hb5⟩
    gi_wp2_with fail
    have hK5 : w5.heap[D]? = some (.deferred (some [])) := (hb5.block D hKl).trans hK
    have hB5 := HBw.out.trans (hb5.mono HBw.out.size)
    have hwW := HBw.out.size
    refine ⟨by simp, .inl ⟨_, _, rfl, run_takeDeferred hK5, ?_⟩⟩
    exact ⟨_, results_tmp2 rfl _ _ _, _, rfl, labO_of (own_lower (ownsRow_putObj hown _ hK5 rfl) hwW) (fun y hy => by rw [lbT_leaf hy, ← Hk.out, lbI_W ho]), hB5.trans (belowK_b (w := w) (Nat.le_refl _) w5 D _ _ (by omega) hK5 rfl rfl)⟩
  case stop =>
    rintro D c pre W _ h _
    exact h.elim
end Go.Proofs.YtpbgophogneecaaGreat
