/- The walk of Steps of package cluster. Conditions: the view was made by New. -/
import Derived.Test.YtibdggbejogciaaGreatCm
import Derived.Test.YtibdggbejogciaaGreatRcS
import Derived.Test.YtibdggbejogciaaGreatShelfC
import Derived.Shelf.SlicesG.CompactI
namespace Go.Proofs.YtibdggbejogciaaGreat
open Go.RowKit Go.Shelf Go.Sort

/-- numbers of 64 bits that the call owns, as they are read -/
abbrev WR (w : World) (B : Nat) (v : Value) (n : Nat) (l : List Int) (A : Nat → Addr) : Prop := Rd 30 1 w B v n (nums .i64 l) A
/-- a copy of numbers that lie somewhere -/
theorem cloneW (B : Nat) (ad : Addr) (cap m : Nat) (A : Nat → Addr) (f : Nat → Nat → Value) (w : World) (hS : Rd 30 1 w B (.slice (some ad) m cap) m f A) (hB : B ≤ w.heap.size) (hf : ∀ i, i < m → ∀ j, j < 1 → (f i j).oneCell' = true) (hm : m ≤ 1000000) :
    Calls Tryz.prog 31 #[.slice (some ad) m cap] w fun e w' => ∃ g cp, e = .returned (.slice (some ⟨g, 0, none⟩) m cp) ∧ w.heap.size ≤ g ∧ w'.ownsRow w.heap.size 2 1 (.slice (some ⟨g, 0, none⟩) m cp) m (flat f m 1) ∧ Below w.heap.size w w' := by
  have he := fun w => Lib.run_eql_slice_nil (P := Tryz.prog) w 30 2 (some ad) m cap 0 0 Tryz.underlying30
  go_enter Tryz.func31, Tryz.ntmps31
  go_wp2_with (at_builtin; refine copiedAny etI64 rfl _ _ rfl hS hB hf _ rfl (by simp) rfl (by omega) (by omega) ?_; intro g cp w1 hg R1 D1)
  go_ret
  exact ⟨g, cp, rfl, hg, R1, D1⟩
/-- equal neighbours are struck -/
theorem compact_any (g cap base : Nat) (zs : List Int) (w : World) (h : Row w g zs.length (fun i => .int .i64 (nth zs i))) (hl : zs.length ≤ 1000000) (hc : zs.length ≤ cap) (hb : base ≤ g) :
    Calls Tryz.prog 30 #[.slice (some ⟨g, 0, none⟩) zs.length cap] w fun e w' => e = .returned (.slice (some ⟨g, 0, none⟩) (Lib.compact zs).length cap) ∧ Row w' g (Lib.compact zs).length (fun i => .int .i64 (nth (Lib.compact zs) i)) ∧ Below base w w' := by
  have hH : Holds (Value.int .i64) w g 0 zs.toArray := fun j hj => by
    have hj' : j < zs.length := by simpa using hj
    rw [Nat.zero_add]
    refine ⟨?_, h.frozen j⟩
    rw [h.cell hj']
    simp [nth, List.getD, hj']
  refine (AnyG.slices_Compact_int Tryz.compactA g 0 cap zs w hH (by omega) hc).mono ?_
  rintro e w' ⟨rfl, q, rfl⟩
  have hle : (Lib.compact zs).length ≤ zs.length := by
    unfold Lib.compact Lib.compactUpTo
    rw [List.length_map]
    have := List.length_filter_le (Lib.keeps zs.toArray) (List.range zs.length)
    rwa [List.length_range] at this
  obtain ⟨c, t, h1, h2⟩ := h
  refine ⟨rfl, ?_, ?_⟩
  · refine ⟨putCells (Value.int .i64) 0 (Lib.compact zs ++ List.replicate (zs.length - (Lib.compact zs).length) 0).toArray c, t, ?_, fun i hi => ?_⟩
    · show (w.heap.modify g (onCells _))[g]? = _
      rw [Array.getElem?_modify, if_pos rfl, h1]
      rfl
    · unfold putCells
      rw [Array.getElem?_mapIdx, h2 i (by omega)]
      have h3 : 0 ≤ i ∧ i < 0 + (Lib.compact zs ++ List.replicate (zs.length - (Lib.compact zs).length) 0).toArray.size := by simp; omega
      simp only [Option.map_some, if_pos h3, Nat.sub_zero]
      congr 2
      simp [nth, List.getD, hi, List.getElem?_append_left hi]
  · refine ⟨rfl, rfl, rfl, ?_, fun k hk => ?_⟩
    · rw [size_putRow]; exact Nat.le_refl _
    · show (mapBlock (Sort.ahead w q) g _).heap[k]? = w.heap[k]?
      have hne : g ≠ k := by omega
      show (w.heap.modify g _)[k]? = w.heap[k]?
      rw [Array.getElem?_modify, if_neg hne]
/-- the heights of the inner nodes -/
theorem rdW {w : World} {B n z : Nat} {b : Blk} {E : List Ed} {f : List Nat} (h : TrAt w B n z b E f) {ad : Addr} (ha : ad.block = b.h) (hx : ∀ i, i < f.length → ad.add i = ⟨b.h, n + i, none⟩) : Rd 30 1 w B (.slice (some ad) (ws E f).length (ws E f).length) (ws E f).length (nums .i64 (ws E f)) (fun i => ad.add (i * 1)) :=
  Rd.addr etI64 (fun _ => by rw [ha]; exact h.lo.2.2.2.1) (fun i hi j hj => by
    obtain rfl : j = 0 := by omega
    rw [ws_len] at hi
    rw [Nat.mul_one, Nat.add_zero, hx i hi, h.rh.cell (by have := h.z_eq; omega)]
    unfold nums intF
    rw [stH_at hi]
    have := ws_at (E := E) hi
    simp only [ws, List.getElem!_toArray] at this
    simp [nth, ws, List.getD, hi])
/-- what Steps answers -/
def StpRes (l : List Int) (w : World) (e : Ending) (w' : World) : Prop := ∃ (v : Value) (A : Nat → Addr), e = .returned v ∧ WR w' w'.heap.size v l.length l A ∧ (∃ a cap, v = .slice a l.length cap) ∧ Below w.heap.size w w'
set_option maxRecDepth 100000 in
set_option maxHeartbeats 1000000 in
theorem steps_any (vb n : Nat) (E : List Ed) (w : World) (h : VwAt w w.heap.size vb n E) :
    Calls Tryz.prog 10 #[.pointer (some ⟨vb, 0, none⟩)] w fun e w' => ∃ o, OrdOf E o ∧ StpRes (stp E (frs E o)) w e w' := by
  obtain ⟨z, b, tb, g, o, h⟩ := h
  have HV := Lib.hid (valid_yes vb tb w h.c0)
  have c1 := h.c1
  have c5 := h.c5
  have hze := h.tr.z_eq
  have hz8 := h.tr.z_le
  obtain ⟨m, hm⟩ : ∃ m, (frs E o).length = m := ⟨_, rfl⟩
  rw [hm] at hze
  subst hze
  obtain ⟨ad, had, hax, hsl⟩ : ∃ ad : Addr, ad.block = b.h ∧ (∀ i, i < m → ad.add i = ⟨b.h, n + i, none⟩) ∧ ∀ w', (Instr.slice 30 (.slice (some ⟨b.h, 0, none⟩) (n + m) (n + m)) (some (.int .i64 (n : Nat))) none none).run Tryz.prog w' = .ok (.slice (some ad) m m) w' := by
    refine ⟨if m = 0 then ⟨b.h, 0, none⟩ else ⟨b.h, n, none⟩, by split <;> rfl, fun i hi => by rw [if_neg (by omega), add_mk], fun w' => ?_⟩
    simp [Instr.slice, run_underlying etI64.ht, Instr.sliceBounds, Instr.sliceBound, asIntOf, etI64.size, go_sem, add_mk]
    split <;> rfl
  have hrd := rdW h.tr had (by rw [hm]; exact hax)
  rw [ws_len, hm] at hrd
  have HC := Lib.hid (fun (w9 : World) (h9 : Below w.heap.size w w9) (l9 : w.heap.size ≤ w9.heap.size) => cloneW w.heap.size ad m m _ _ w9 (hrd.below h9) l9 (fun _ _ _ _ => rfl) (by omega))
  have HO := Lib.hid h.ord
  have Hm := Lib.hid hm
  have hvl := h.row.lt
  clear h hm had hax hrd
  go_enter Tryz.func10, Tryz.ntmps10
  go_wp2_with fail
  refine HV.out.mono ?_
  rintro e w' ⟨rfl, rfl⟩
  go_wp2_with fail
  have HS : w.drew.cell? ⟨vb, 5, none⟩ = some (.slice (some ⟨b.h, 0, none⟩) (n + m) (n + m)) ∧ w.drew.cell? ⟨vb, 1, none⟩ = some (.int .i64 (n : Nat)) := ⟨c5, c1⟩
  have HC5 := Lib.hid (And.intro c5 c1)
  obtain ⟨z, hz⟩ : ∃ z, n + m = z := ⟨_, rfl⟩
  rw [hz] at HS HC5 hsl hz8
  have hnz : n ≤ z := by omega
  have hmz : m ≤ z := by omega
  clear HV c1 c5 hz
  refine region_plain (fun w' => w'.cell? ⟨vb, 5, none⟩ = some (.slice (some ⟨b.h, 0, none⟩) z z) ∧ w'.cell? ⟨vb, 1, none⟩ = some (.int .i64 (n : Nat))) (by kernel_rfl) ?_
  refine take_at (i := 0) (d := 6) (v := ?_) rfl rfl (by kernel_rfl) (by kernel_rfl) (by kernel_rfl) (fun _ _ _ _ => NormalOnly.any) rfl ?hy1 HS ?rest1
  case hy1 => intro w' hSw; (try dsimp only at hSw); go_simp; try (with_reducible rfl)
  try simp only [List.setIfInBounds_toArray, List.set_cons_zero, List.set_cons_succ]
  refine take_at (i := 1) (d := 7) (v := ?_) rfl rfl (by kernel_rfl) (by kernel_rfl) (by kernel_rfl) (fun _ _ _ _ => NormalOnly.any) rfl ?hy2 HS ?rest2
  case hy2 => intro w' hSw; (try dsimp only at hSw); go_simp; try (with_reducible rfl)
  try simp only [List.setIfInBounds_toArray, List.set_cons_zero, List.set_cons_succ]
  refine take_at (i := 2) (d := 8) (v := ?_) rfl rfl (by kernel_rfl) (by kernel_rfl) (by kernel_rfl) (fun _ _ _ _ => NormalOnly.any) rfl ?hy3 HS ?rest3
  case hy3 => intro w' hSw; (try dsimp only at hSw); go_simp; try (with_reducible rfl)
  try simp only [List.setIfInBounds_toArray, List.set_cons_zero, List.set_cons_succ]
  refine take_at (i := 3) (d := 9) (v := ?_) rfl rfl (by kernel_rfl) (by kernel_rfl) (by kernel_rfl) (fun _ _ _ _ => NormalOnly.any) rfl ?hy4 HS ?rest4
  case hy4 => intro w' hSw; (try dsimp only at hSw); go_simp; try (with_reducible rfl)
  try simp only [List.setIfInBounds_toArray, List.set_cons_zero, List.set_cons_succ]
  refine take_at (i := 4) (d := 10) (v := ?_) rfl rfl (by kernel_rfl) (by kernel_rfl) (by kernel_rfl) (fun _ _ _ _ => NormalOnly.any) rfl ?hy5 HS ?rest5
  case hy5 => intro w' hSw; (try dsimp only at hSw); go_simp; try (with_reducible rfl)
  try simp only [List.setIfInBounds_toArray, List.set_cons_zero, List.set_cons_succ]
  refine take_at (i := 5) (d := 11) (v := ?_) rfl rfl (by kernel_rfl) (by kernel_rfl) (by kernel_rfl) (fun _ _ _ _ => NormalOnly.any) rfl ?hy6 HS ?rest6
  case hy6 => intro w' hSw; (try dsimp only at hSw); go_simp; try (with_reducible rfl)
  try simp only [List.setIfInBounds_toArray, List.set_cons_zero, List.set_cons_succ]
  refine take_at (i := 6) (d := 12) (v := ?_) rfl rfl (by kernel_rfl) (by kernel_rfl) (by kernel_rfl) (fun _ _ _ _ => NormalOnly.any) rfl ?hy7 HS ?rest7
  case hy7 => intro w' hSw; (try dsimp only at hSw); go_simp; try (with_reducible rfl)
  try simp only [List.setIfInBounds_toArray, List.set_cons_zero, List.set_cons_succ]
  refine take_at (i := 7) (d := 13) (v := ?_) rfl rfl (by kernel_rfl) (by kernel_rfl) (by kernel_rfl) (fun _ _ _ _ => NormalOnly.any) rfl ?hy8 HS ?rest8
  case hy8 => intro w' hSw; (try dsimp only at hSw); go_simp; try (with_reducible rfl)
  try simp only [List.setIfInBounds_toArray, List.set_cons_zero, List.set_cons_succ]
  refine take_at (i := 8) (d := 14) (v := ?_) rfl rfl (by kernel_rfl) (by kernel_rfl) (by kernel_rfl) (fun _ _ _ _ => NormalOnly.any) rfl ?hy9 HS ?rest9
  case hy9 => intro w' hSw; (try dsimp only at hSw); go_simp; try (with_reducible rfl)
  try simp only [List.setIfInBounds_toArray, List.set_cons_zero, List.set_cons_succ]
  refine take_at (i := 9) (d := 15) (v := ?_) rfl rfl (by kernel_rfl) (by kernel_rfl) (by kernel_rfl) (fun _ _ _ _ => NormalOnly.any) rfl ?hy10 HS ?rest10
  case hy10 => intro w' hSw; (try dsimp only at hSw); go_simp; try (with_reducible rfl)
  try simp only [List.setIfInBounds_toArray, List.set_cons_zero, List.set_cons_succ]
  refine take_at (i := 10) (d := 16) (v := ?_) rfl rfl (by kernel_rfl) (by kernel_rfl) (by kernel_rfl) (fun _ _ _ _ => NormalOnly.any) rfl ?hy11 HS ?rest11
  case hy11 => intro w' hSw; (try dsimp only at hSw); go_simp; try (with_reducible rfl)
  try simp only [List.setIfInBounds_toArray, List.set_cons_zero, List.set_cons_succ]
  refine wpAnyH_ready (rs := [11]) (by kernel_rfl) (by simp) ?_
  refine AllReadyH.cons rfl (fun K hK => ?_) AllReadyH.nil
  go_simp
  refine (HC.out w.drew (Below.refl _ _).drew (Nat.le_refl _)).mono ?_
  clear HC hsl
  rintro e w5 ⟨g2, cp, rfl, hg2, hown, hb5⟩
  have hb5 : Below w.heap.size w w5 := (Below.refl w.heap.size w).drew.trans hb5
  have hg2 : w.heap.size ≤ g2 := hg2
  have hrow : Row w5 g2 m (fun i => .int .i64 (nth (ws E (frs E o)) i)) := (Row.owned hown).congr fun i hi => by
    rw [flat_one]; simp [List.getD, hi, nums]
  have hcp := own_cap hown
  refine hK.out _ _ ⟨(hb5.cell (p := ⟨vb, 5, none⟩) hvl).trans HC5.out.1, (hb5.cell (p := ⟨vb, 1, none⟩) hvl).trans HC5.out.2⟩ (fun HS => ?_)
  clear hK hown
  (try simp only [List.setIfInBounds_toArray, List.set_cons_zero, List.set_cons_succ])
  have hwl : (ws E (frs E o)).length = m := by rw [ws_len, Hm.out]
  have HK := Lib.hid (compact_any g2 cp w.heap.size (ws E (frs E o)) w5 (by rw [hwl]; exact hrow) (by rw [hwl]; omega) (by rw [hwl]; omega) hg2)
  rw [hwl] at HK
  have HB5 := Lib.hid hb5
  clear hrow hcp hg2 hb5 hwl
  refine wpAnyH_ready (rs := [12]) (by kernel_rfl) (by simp) ?_
  refine AllReadyH.cons rfl (fun K hK => ?_) AllReadyH.nil
  go_simp
  refine HK.out.mono ?_
  clear HK
  rintro e w6 ⟨rfl, hr6, hb6⟩
  have hb6 : Below w.heap.size w w6 := HB5.out.trans hb6
  refine hK.out _ _ ⟨(hb6.cell (p := ⟨vb, 5, none⟩) hvl).trans HC5.out.1, (hb6.cell (p := ⟨vb, 1, none⟩) hvl).trans HC5.out.2⟩ (fun HS => ?_)
  have HB6 := Lib.hid hb6
  have HR6 := Lib.hid hr6
  clear hK hr6 hb6 HC5 HB5
  (try simp only [List.setIfInBounds_toArray, List.set_cons_zero, List.set_cons_succ])
  refine take_at (i := 13) (d := 2) (v := ?_) rfl rfl (by kernel_rfl) (by kernel_rfl) (by kernel_rfl) (fun _ _ _ _ => NormalOnly.any) rfl ?hy12 HS ?rest12
  case hy12 => intro w' hSw; (try dsimp only at hSw); go_simp; try (with_reducible rfl)
  try simp only [List.setIfInBounds_toArray, List.set_cons_zero, List.set_cons_succ]
  refine wpAnyH_done (by kernel_rfl) ⟨rfl, ?_⟩ _
  clear HS
  go_wp2_with fail
  go_ret
  refine ⟨o, HO.out, _, fun i => (⟨g2, 0, none⟩ : Addr).add (i * 1), rfl, ?_, ⟨_, _, rfl⟩, HB6.out⟩
  exact Rd.addr etI64 (fun _ => HR6.out.lt) (fun i hi j hj => by
    obtain rfl : j = 0 := by omega
    rw [add_mk, Nat.mul_one, Nat.zero_add, Nat.add_zero]; exact HR6.out.cell hi)
end Go.Proofs.YtibdggbejogciaaGreat
