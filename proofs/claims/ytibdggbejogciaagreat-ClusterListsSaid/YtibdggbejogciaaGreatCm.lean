/- How a view of package cluster lies in memory, and the walk of New. Conditions: the edges are given as cells. -/
import Derived.Test.YtibdggbejogciaaGreatRcV
import Derived.Test.YtibdggbejogciaaGreatRcP
namespace Go.Proofs.YtibdggbejogciaaGreat
open Go.RowKit

/-- the cells of a view -/
def vwV (n z : Nat) (b : Blk) (tb g : Nat) : Array Value := #[.pointer (some ⟨tb, 0, none⟩), .int .i64 (n : Nat), .slice (some ⟨b.l, 0, none⟩) z z, .slice (some ⟨b.r, 0, none⟩) z z, .slice (some ⟨b.p, 0, none⟩) z z, .slice (some ⟨b.h, 0, none⟩) z z, .slice (some ⟨b.s, 0, none⟩) z z, .slice (some ⟨g, 0, none⟩) z z]
/-- the parts of a view, below block B -/
structure VwP (w : World) (B vb n z : Nat) (b : Blk) (tb g : Nat) (E : List Ed) (o : List Nat) : Prop where
  ok : GOk n E
  ord : OrdOf E o
  row : Row w vb 8 (fun i => (vwV n z b tb g).getD i undef)
  lt : vb < B
  tab : TabAt w B tb (pT E (frs E o) n)
  tr : TrAt w B n z b E (frs E o)
  lst : Row w g z (natC (lst E (frs E o) n))
  glt : g < B
section
variable {w w' : World} {B B' vb n z tb g : Nat} {b : Blk} {E : List Ed} {o : List Nat}
theorem VwP.below (h : VwP w B vb n z b tb g E o) (hb : Below B w w') : VwP w' B vb n z b tb g E o :=
  ⟨h.ok, h.ord, h.row.below hb h.lt, h.lt, h.tab.below hb, h.tr.below hb, h.lst.below hb h.glt, h.glt⟩
theorem VwP.mono (h : VwP w B vb n z b tb g E o) (hB : B ≤ B') : VwP w B' vb n z b tb g E o :=
  ⟨h.ok, h.ord, h.row, Nat.lt_of_lt_of_le h.lt hB, h.tab.mono hB, h.tr.mono hB, h.lst, Nat.lt_of_lt_of_le h.glt hB⟩
theorem VwP.c0 (h : VwP w B vb n z b tb g E o) : w.cell? ⟨vb, 0, none⟩ = some (.pointer (some ⟨tb, 0, none⟩)) := h.row.cell (i := 0) (by omega)
theorem VwP.c1 (h : VwP w B vb n z b tb g E o) : w.cell? ⟨vb, 1, none⟩ = some (.int .i64 (n : Nat)) := h.row.cell (i := 1) (by omega)
theorem VwP.c2 (h : VwP w B vb n z b tb g E o) : w.cell? ⟨vb, 2, none⟩ = some (.slice (some ⟨b.l, 0, none⟩) z z) := h.row.cell (i := 2) (by omega)
theorem VwP.c3 (h : VwP w B vb n z b tb g E o) : w.cell? ⟨vb, 3, none⟩ = some (.slice (some ⟨b.r, 0, none⟩) z z) := h.row.cell (i := 3) (by omega)
theorem VwP.c4 (h : VwP w B vb n z b tb g E o) : w.cell? ⟨vb, 4, none⟩ = some (.slice (some ⟨b.p, 0, none⟩) z z) := h.row.cell (i := 4) (by omega)
theorem VwP.c5 (h : VwP w B vb n z b tb g E o) : w.cell? ⟨vb, 5, none⟩ = some (.slice (some ⟨b.h, 0, none⟩) z z) := h.row.cell (i := 5) (by omega)
theorem VwP.c6 (h : VwP w B vb n z b tb g E o) : w.cell? ⟨vb, 6, none⟩ = some (.slice (some ⟨b.s, 0, none⟩) z z) := h.row.cell (i := 6) (by omega)
theorem VwP.c7 (h : VwP w B vb n z b tb g E o) : w.cell? ⟨vb, 7, none⟩ = some (.slice (some ⟨g, 0, none⟩) z z) := h.row.cell (i := 7) (by omega)
end
/-- a view that New has made -/
def VwAt (w : World) (B vb n : Nat) (E : List Ed) : Prop := ∃ (z : Nat) (b : Blk) (tb g : Nat) (o : List Nat), VwP w B vb n z b tb g E o
theorem VwAt.below {w w' : World} {B vb n : Nat} {E : List Ed} (h : VwAt w B vb n E) (hb : Below B w w') : VwAt w' B vb n E := by
  obtain ⟨z, b, tb, g, o, h⟩ := h; exact ⟨z, b, tb, g, o, h.below hb⟩
theorem VwAt.mono {w : World} {B B' vb n : Nat} {E : List Ed} (h : VwAt w B vb n E) (hB : B ≤ B') : VwAt w B' vb n E := by
  obtain ⟨z, b, tb, g, o, h⟩ := h; exact ⟨z, b, tb, g, o, h.mono hB⟩
/-- what New answers -/
def CvRes (n : Int) (E : List Ed) (w : World) (e : Ending) (w' : World) : Prop :=
  Below w.heap.size w w' ∧ ((gErr n E ≠ 0 ∧ e = .returned (.tuple #[.pointer none, .int .i64 (gErr n E)])) ∨
    (∃ k vb : Nat, n = k ∧ GOk k E ∧ e = .returned (.tuple #[.pointer (some ⟨vb, 0, none⟩), .int .i64 0]) ∧ VwAt w' w'.heap.size vb k E))
/-- the parents as a slice of numbers -/
theorem TrAt.sl {w : World} {B n : Nat} {b : Blk} {E : List Ed} {f : List Nat} (h : TrAt w B n (n + f.length) b E f) : Sl 37 .i64 w B (.slice (some ⟨b.p, 0, none⟩) (pT E f n).length (n + f.length)) (pT E f n) (fun i => (⟨b.p, 0, none⟩ : Addr).add (i * 1)) :=
  Rd.addr etI (fun _ => h.lo.2.2.1) (fun i hi j hj => by
    obtain rfl : j = 0 := by omega
    rw [pT_len] at hi
    rw [add_mk, Nat.mul_one, Nat.zero_add, Nat.add_zero, h.rp.cell hi]
    unfold nums intF; rw [pT_nth hi]; rfl)
/-- a view holds in every world that has the same blocks from lo on -/
theorem VwP.held {lo : Nat} {w : World} {B vb n z tb g : Nat} {b : Blk} {E : List Ed} {o : List Nat} (h : VwP w B vb n z b tb g E o) (h1 : lo ≤ vb) (h2 : lo ≤ b.l ∧ lo ≤ b.r ∧ lo ≤ b.p ∧ lo ≤ b.h ∧ lo ≤ b.s) (h3 : Held lo w fun W => TabAt W B tb (pT E (frs E o) n)) (h4 : lo ≤ g) : Held lo w fun W => VwAt W B vb n E := fun W hW =>
  ⟨z, b, tb, g, o, h.ok, h.ord, h.row.of_block (hW _ h1 h.row.lt), h.lt, h3 W hW,
    ⟨h.tr.fo, h.tr.n_le, h.tr.z_eq, h.tr.lo, h.tr.rl.of_block (hW _ h2.1 h.tr.rl.lt), h.tr.rr.of_block (hW _ h2.2.1 h.tr.rr.lt), h.tr.rp.of_block (hW _ h2.2.2.1 h.tr.rp.lt), h.tr.rh.of_block (hW _ h2.2.2.2.1 h.tr.rh.lt), h.tr.rs.of_block (hW _ h2.2.2.2.2 h.tr.rs.lt)⟩,
    h.lst.of_block (hW _ h4 h.lst.lt), h.glt⟩
theorem Held.on {base : Nat} {w w' : World} {P : World → Prop} (h : Held base w P) (hb : Below w.heap.size w w') : Held base w' P := fun W hW => h W fun j h1 h2 => (hW j h1 (Nat.lt_of_lt_of_le h2 hb.size)).trans (hb.block j h2)
theorem Held.imp {base : Nat} {w : World} {P Q : World → Prop} (h : Held base w P) (f : ∀ W, P W → Q W) : Held base w Q := fun W hW => f W (h W hW)
/-- what New answers: the view lies in new blocks alone -/
def CvResH (n : Int) (E : List Ed) (w : World) (e : Ending) (w' : World) : Prop :=
  Below w.heap.size w w' ∧ ((gErr n E ≠ 0 ∧ e = .returned (.tuple #[.pointer none, .int .i64 (gErr n E)])) ∨
    (∃ k vb : Nat, n = k ∧ GOk k E ∧ e = .returned (.tuple #[.pointer (some ⟨vb, 0, none⟩), .int .i64 0]) ∧ Held w.heap.size w' fun W => VwAt W w'.heap.size vb k E))
set_option maxRecDepth 100000 in
set_option maxHeartbeats 2000000 in
theorem cnew_held (B : Nat) (a : Option Addr) (cap : Nat) (A : Nat → Addr) (n : Int) (E : List Ed) (w : World) (hS : ES w B (.slice a E.length cap) E A) (hB : B ≤ w.heap.size) (hm : E.length ≤ 9223372036854775807) :
    Calls Tryz.prog 26 #[.int .i64 n, .slice a E.length cap] w (CvResH n E w) := by
  have HM := Lib.hid (rbuild_any B a cap A n E w hS hB hm)
  clear hS hm
  go_enter Tryz.func26, Tryz.ntmps26
  go_wp2_with fail
  refine HM.out.mono ?_
  clear HM
  rintro e w1 ⟨b1, ⟨he, rfl⟩ | ⟨k, o, b, z, rfl, G, ho, rfl, hT, hlo⟩⟩
  · obtain ⟨x, hx⟩ : ∃ x, gErr n E = x := ⟨_, rfl⟩
    rw [hx] at he ⊢
    have hne : (x != 0) = true := by simpa using he
    have HE := Lib.hid (And.intro he hx)
    have HB1 := Lib.hid b1
    clear he hx b1
    unfold trZero
    go_wp2_with fail
    go_ret2
    exact ⟨HB1.out.alloc HB1.out.size _, .inl ⟨by rw [HE.out.2]; exact HE.out.1, by rw [HE.out.2]; rfl⟩⟩
  · have hz8 := hT.z_le
    have hze := hT.z_eq
    have hF := hT.fo
    have hE0 := hF.newE (by omega)
    subst hze
    have hb2 : Below w1.heap.size w1 (w1.alloc (.cells (trV k (k + (frs E o).length) b) 60)) := (Below.refl _ _).alloc (Nat.le_refl _) _
    have hTb : TrBox (w1.alloc (.cells (trV k (k + (frs E o).length) b) 60)) w1.heap.size k (k + (frs E o).length) b := tr_row w1 _ _ b _
    have hT2 := hT.below hb2
    have HN := Lib.hid (new_ok hE0 hT2.sl hb2.size)
    rw [pT_len] at HN
    obtain ⟨z, hz⟩ : ∃ z, k + (frs E o).length = z := ⟨_, rfl⟩
    rw [hz] at hb2 hTb hT2 HN ⊢
    have HL := Lib.hid (fun (w9 : World) (h9 : Below w1.heap.size w1 w9) (hl9 : w1.heap.size ≤ w9.heap.size) => least_any w1.heap.size k z b E o w9 (by rw [hz] at hT; exact hT.below h9) ho hl9)
    have HT2 := Lib.hid hT2
    have HB1 := Lib.hid b1
    have HB2 := Lib.hid hb2
    have HGO := Lib.hid (And.intro G ho)
    have HTb := Lib.hid hTb
    have HLo := Lib.hid hlo
    clear hlo
    unfold trV at HN HB2 HT2 HTb HL ⊢
    clear hz hT hE0 hF hb2 hTb hT2 b1 G ho
    go_wp2_with fail
    have hs2 : w1.heap.size < (w1.alloc (.cells #[.int .i64 (k : Nat), .slice (some ⟨b.l, 0, none⟩) z z, .slice (some ⟨b.r, 0, none⟩) z z, .slice (some ⟨b.p, 0, none⟩) z z, .slice (some ⟨b.h, 0, none⟩) z z, .slice (some ⟨b.s, 0, none⟩) z z] 60)).heap.size := by simp
    generalize w1.alloc (.cells #[.int .i64 (k : Nat), .slice (some ⟨b.l, 0, none⟩) z z, .slice (some ⟨b.r, 0, none⟩) z z, .slice (some ⟨b.p, 0, none⟩) z z, .slice (some ⟨b.h, 0, none⟩) z z, .slice (some ⟨b.s, 0, none⟩) z z] 60) = w2 at *
    refine HN.out.mono ?_
    clear HN
    rintro e w3 ⟨tb, rfl, hTab, hb3, hth⟩
    have HTh := Lib.hid hth
    have hs12 := HB1.out.size
    have hs22 : w.heap.size ≤ w2.heap.size := Nat.le_trans hs12 (Nat.le_of_lt hs2)
    have HTab := Lib.hid hTab
    have HT3 := Lib.hid (HT2.out.below (hb3.mono HB2.out.size))
    have hTb3 : TrBox w3 w1.heap.size k z b := Row.below HTb.out hb3 hs2
    have HB3 := Lib.hid (HB1.out.trans ((HB2.out.trans (hb3.mono HB2.out.size)).mono HB1.out.size))
    have HB13 := Lib.hid (HB2.out.trans (hb3.mono HB2.out.size))
    have HLe := Lib.hid (HL.out w3.drew HB13.out.drew HB13.out.size)
    clear HL hTab hb3 HT2 HTb HB2 hs2 hth
    go_wp2_with fail
    have HS : w3.drew.cell? ⟨w1.heap.size, 0, none⟩ = some (.int .i64 (k : Nat)) ∧ w3.drew.cell? ⟨w1.heap.size, 1, none⟩ = some (.slice (some ⟨b.l, 0, none⟩) z z) ∧ w3.drew.cell? ⟨w1.heap.size, 2, none⟩ = some (.slice (some ⟨b.r, 0, none⟩) z z) ∧ w3.drew.cell? ⟨w1.heap.size, 3, none⟩ = some (.slice (some ⟨b.p, 0, none⟩) z z) ∧ w3.drew.cell? ⟨w1.heap.size, 4, none⟩ = some (.slice (some ⟨b.h, 0, none⟩) z z) ∧ w3.drew.cell? ⟨w1.heap.size, 5, none⟩ = some (.slice (some ⟨b.s, 0, none⟩) z z) := ⟨hTb3.c0, hTb3.c1, hTb3.c2, hTb3.c3, hTb3.c4, hTb3.c5⟩
    have HTx := Lib.hid hTb3
    clear hTb3
    refine region_plain (fun w' => w'.cell? ⟨w1.heap.size, 0, none⟩ = some (.int .i64 (k : Nat)) ∧ w'.cell? ⟨w1.heap.size, 1, none⟩ = some (.slice (some ⟨b.l, 0, none⟩) z z) ∧ w'.cell? ⟨w1.heap.size, 2, none⟩ = some (.slice (some ⟨b.r, 0, none⟩) z z) ∧ w'.cell? ⟨w1.heap.size, 3, none⟩ = some (.slice (some ⟨b.p, 0, none⟩) z z) ∧ w'.cell? ⟨w1.heap.size, 4, none⟩ = some (.slice (some ⟨b.h, 0, none⟩) z z) ∧ w'.cell? ⟨w1.heap.size, 5, none⟩ = some (.slice (some ⟨b.s, 0, none⟩) z z)) (by kernel_rfl) ?_
    refine take_at (i := 0) (d := 27) (v := ?_) rfl rfl (by kernel_rfl) (by kernel_rfl) (by kernel_rfl) (fun _ _ _ _ => NormalOnly.any) rfl ?hy1 HS ?rest1
    case hy1 => intro w' hSw; (try dsimp only at hSw); go_simp; try (with_reducible rfl)
    try simp only [List.setIfInBounds_toArray, List.set_cons_zero, List.set_cons_succ]
    refine take_at (i := 1) (d := 28) (v := ?_) rfl rfl (by kernel_rfl) (by kernel_rfl) (by kernel_rfl) (fun _ _ _ _ => NormalOnly.any) rfl ?hy2 HS ?rest2
    case hy2 => intro w' hSw; (try dsimp only at hSw); go_simp; try (with_reducible rfl)
    try simp only [List.setIfInBounds_toArray, List.set_cons_zero, List.set_cons_succ]
    refine take_at (i := 2) (d := 29) (v := ?_) rfl rfl (by kernel_rfl) (by kernel_rfl) (by kernel_rfl) (fun _ _ _ _ => NormalOnly.any) rfl ?hy3 HS ?rest3
    case hy3 => intro w' hSw; (try dsimp only at hSw); go_simp; try (with_reducible rfl)
    try simp only [List.setIfInBounds_toArray, List.set_cons_zero, List.set_cons_succ]
    refine wpAnyH_ready (rs := [3]) (by kernel_rfl) (by simp) ?_
    refine AllReadyH.cons rfl (fun K hK => ?_) AllReadyH.nil
    go_simp
    refine HLe.out.mono ?_
    clear HLe
    rintro e w5 ⟨g, rfl, hr, hg, hb5⟩
    have hb5 : Below w3.heap.size w3 w5 := (Below.refl w3.heap.size w3).drew.trans hb5
    have hT5 : TrBox w5 w1.heap.size k z b := Row.below HTx.out hb5 (Row.lt HTx.out)
    refine hK.out _ _ ⟨hT5.c0, hT5.c1, hT5.c2, hT5.c3, hT5.c4, hT5.c5⟩ (fun HS => ?_)
    clear hK
    (try simp only [List.setIfInBounds_toArray, List.set_cons_zero, List.set_cons_succ])
    refine take_at (i := 4) (d := 31) (v := ?_) rfl rfl (by kernel_rfl) (by kernel_rfl) (by kernel_rfl) (fun _ _ _ _ => NormalOnly.any) rfl ?hy4 HS ?rest4
    case hy4 => intro w' hSw; (try dsimp only at hSw); go_simp; try (with_reducible rfl)
    try simp only [List.setIfInBounds_toArray, List.set_cons_zero, List.set_cons_succ]
    refine wpAnyH_ready (rs := [5]) (by kernel_rfl) (by simp) ?_
    refine AllReadyH.cons rfl (fun K hK => ?_) AllReadyH.nil
    go_simp
    have hT6 : TrBox (w5.alloc (.cells (vwV k z b tb g) 63)) w1.heap.size k z b := Row.alloc hT5 _
    have hb6 : Below w5.heap.size w5 (w5.alloc (.cells (vwV k z b tb g) 63)) := (Below.refl _ _).alloc (Nat.le_refl _) _
    have hs6 : (w5.alloc (.cells (vwV k z b tb g) 63)).heap.size = w5.heap.size + 1 := by simp
    have hV6 : Row (w5.alloc (.cells (vwV k z b tb g) 63)) w5.heap.size 8 (fun i => (vwV k z b tb g).getD i undef) := Row.lit w5 _ _ (by simp [vwV]) (fun i hi => by
      match i, hi with
      | 0, _ => rfl
      | 1, _ => rfl
      | 2, _ => rfl
      | 3, _ => rfl
      | 4, _ => rfl
      | 5, _ => rfl
      | 6, _ => rfl
      | 7, _ => rfl
      | j + 8, h => omega)
    have hb35 := hb5.size
    have h13 := HB13.out.size
    have HV := Lib.hid (show Held w.heap.size (w5.alloc (.cells (vwV k z b tb g) 63)) fun W => VwAt W (w5.alloc (.cells (vwV k z b tb g) 63)).heap.size w5.heap.size k E from
      VwP.held (z := z) (b := b) (tb := tb) (g := g) (o := o) ⟨HGO.out.1, HGO.out.2, hV6, by omega, ((HTab.out.below hb5).mono hb35).below hb6 |>.mono hb6.size, ((HT3.out.below (hb5.mono h13)).mono (Nat.le_trans h13 hb35)).below hb6 |>.mono hb6.size, hr.alloc _, by have := hr.lt; omega⟩
        (by omega) HLo.out (((((HTh.out.lower hs22).on hb5).on hb6).imp fun W hW => hW.mono (Nat.le_trans hb35 hb6.size))) (Nat.le_trans (Nat.le_trans hs12 h13) hg))
    have HB6 := Lib.hid ((HB3.out.trans (hb5.mono HB3.out.size)).trans (hb6.mono (Nat.le_trans HB3.out.size hb35)))
    unfold vwV at HV HB6 hT6
    refine hK.out _ _ ⟨hT6.c0, hT6.c1, hT6.c2, hT6.c3, hT6.c4, hT6.c5⟩ (fun HS => ?_)
    clear hK hT6 hb6 hs6 hV6 hb35 h13 hr hg hb5 hT5
    (try simp only [List.setIfInBounds_toArray, List.set_cons_zero, List.set_cons_succ])
    refine take_at (i := 6) (d := 4) (v := ?_) rfl rfl (by kernel_rfl) (by kernel_rfl) (by kernel_rfl) (fun _ _ _ _ => NormalOnly.any) rfl ?hy5 HS ?rest5
    case hy5 => intro w' hSw; (try dsimp only at hSw); go_simp; try (with_reducible rfl)
    try simp only [List.setIfInBounds_toArray, List.set_cons_zero, List.set_cons_succ]
    refine take_at (i := 7) (d := 5) (v := ?_) rfl rfl (by kernel_rfl) (by kernel_rfl) (by kernel_rfl) (fun _ _ _ _ => NormalOnly.any) rfl ?hy6 HS ?rest6
    case hy6 => intro w' hSw; (try dsimp only at hSw); go_simp; try (with_reducible rfl)
    try simp only [List.setIfInBounds_toArray, List.set_cons_zero, List.set_cons_succ]
    refine wpAnyH_done (by kernel_rfl) ⟨rfl, ?_⟩ _
    clear HS
    generalize w5.alloc (.cells #[.pointer (some ⟨tb, 0, none⟩), .int .i64 (k : Nat), .slice (some ⟨b.l, 0, none⟩) z z, .slice (some ⟨b.r, 0, none⟩) z z, .slice (some ⟨b.p, 0, none⟩) z z, .slice (some ⟨b.h, 0, none⟩) z z, .slice (some ⟨b.s, 0, none⟩) z z, .slice (some ⟨g, 0, none⟩) z z] 63) = w6 at *
    go_wp2_with fail
    go_ret2
    exact ⟨HB6.out, .inr ⟨k, _, rfl, HGO.out.1, rfl, HV.out⟩⟩
theorem cnew_any (B : Nat) (a : Option Addr) (cap : Nat) (A : Nat → Addr) (n : Int) (E : List Ed) (w : World) (hS : ES w B (.slice a E.length cap) E A) (hB : B ≤ w.heap.size) (hm : E.length ≤ 9223372036854775807) :
    Calls Tryz.prog 26 #[.int .i64 n, .slice a E.length cap] w (CvRes n E w) :=
  (cnew_held B a cap A n E w hS hB hm).mono fun _ _ ⟨h1, h2⟩ => ⟨h1, h2.imp id fun ⟨k, vb, e1, e2, e3, e4⟩ => ⟨k, vb, e1, e2, e3, e4.self⟩⟩
end Go.Proofs.YtibdggbejogciaaGreat

/- The walks of valid, Labels, top, Of and Members of package cluster. Conditions: the view was made by New. -/
namespace Go.Proofs.YtibdggbejogciaaGreat
open Go.RowKit

set_option maxRecDepth 100000 in
set_option maxHeartbeats 1000000 in
theorem valid_yes (vb tb : Nat) (w : World) (h : w.cell? ⟨vb, 0, none⟩ = some (.pointer (some ⟨tb, 0, none⟩))) :
    Calls Tryz.prog 29 #[.pointer (some ⟨vb, 0, none⟩)] w fun e w' => e = .returned (.bool true) ∧ w = w' := by
  go_enter Tryz.func29, Tryz.ntmps29
  go_wp2_with fail
  go_ret
  exact ⟨rfl, rfl⟩
set_option maxRecDepth 100000 in
set_option maxHeartbeats 1000000 in
theorem clabels_any (vb n : Nat) (E : List Ed) (θ : Int) (w : World) (h : VwAt w w.heap.size vb n E) :
    Calls Tryz.prog 22 #[.pointer (some ⟨vb, 0, none⟩), .int .i64 θ] w fun e w' => ∃ v, e = .returned v ∧ LabO w.heap.size v n (lbW E θ) w' ∧ Below w.heap.size w w' := by
  obtain ⟨z, b, tb, g, o, h⟩ := h
  have HV := Lib.hid (valid_yes vb tb w h.c0)
  have HL := Lib.hid (rclabels_any w.heap.size n z b E o θ w h.tr h.ord (Nat.le_refl _))
  unfold trV at HL
  have c1 := h.c1
  have c2 := h.c2
  have c3 := h.c3
  have c4 := h.c4
  have c5 := h.c5
  have c6 := h.c6
  clear h
  go_enter Tryz.func22, Tryz.ntmps22
  go_wp2_with fail
  refine HV.out.mono ?_
  rintro e w' ⟨rfl, rfl⟩
  go_wp2_with fail
  refine HL.out.mono ?_
  clear HL HV c1 c2 c3 c4 c5 c6
  rintro e w1 ⟨v, rfl, hv, hb⟩
  have HR := Lib.hid (And.intro hv hb)
  clear hv hb
  go_wp2_with fail
  go_ret
  exact ⟨v, rfl, HR.out.1, HR.out.2⟩
theorem etI64 : ET 30 2 1 8 := ET.of Tryz.underlying30 Tryz.infoI64 rfl (by decide)
theorem stH_hgt {E : List Ed} {f : List Nat} {n x : Nat} (h : x < n + f.length) : stH E f n f.length x = hgt E f n x := by
  unfold stH hgt
  by_cases c : x < n
  · rw [if_pos c, if_neg (by omega)]
  · rw [if_neg c, if_pos (by omega)]
/-- the heights as keys -/
theorem TrAt.rdH {w : World} {B n : Nat} {b : Blk} {E : List Ed} {f : List Nat} (h : TrAt w B n (n + f.length) b E f) : Rd 30 1 w B (.slice (some ⟨b.h, 0, none⟩) (hT E f n).length (n + f.length)) (hT E f n).length (nums .i64 (hT E f n)) (fun i => (⟨b.h, 0, none⟩ : Addr).add (i * 1)) :=
  Rd.addr etI64 (fun _ => h.lo.2.2.2.1) (fun i hi j hj => by
    obtain rfl : j = 0 := by omega
    rw [hT_len] at hi
    rw [add_mk, Nat.mul_one, Nat.zero_add, Nat.add_zero, h.rh.cell hi]
    unfold nums intF; rw [hT_nth hi, stH_hgt hi])
theorem TrAt.key {w : World} {B n : Nat} {b : Blk} {E : List Ed} {f : List Nat} (h : TrAt w B n (n + f.length) b E f) : Key w B (.slice (some ⟨b.h, 0, none⟩) (hT E f n).length (n + f.length)) (hT E f n) (fun i => (⟨b.h, 0, none⟩ : Addr).add (i * 1)) :=
  ⟨h.rdH.ix, h.rdH.lt, fun i hi => by have := h.rdH.cell i hi 0 (by omega); rw [add_zero] at this; exact this⟩
/-- the node of a vertex at a threshold -/
def topN (E : List Ed) (o : List Nat) (n : Nat) (θ : Int) (u : Nat) : Nat := nd E (frs E o) n (kOf (frs E o) (leW E θ)) (lbW E θ u)
theorem clV_top {E : List Ed} {o : List Nat} {n : Nat} (G : GOk n E) (ho : OrdOf E o) (θ : Int) {u : Nat} (hu : u < n) : clV (pT E (frs E o) n) (u : Int) (hT E (frs E o) n) θ = ((topN E o n θ u : Nat) : Int) := by
  rw [clV_leaf hu, climb_nd (frs_fo G ho) (kOf_le _ _) (fun i hi => by rw [hgt_le ho hi]) hu, lbI_W ho]; rfl
set_option maxRecDepth 100000 in
set_option maxHeartbeats 1000000 in
theorem top_out (vb n z tb g : Nat) (b : Blk) (E : List Ed) (o : List Nat) (u θ : Int) (w : World) (h : VwP w w.heap.size vb n z b tb g E o) (hu : ¬ (0 ≤ u ∧ u < n)) :
    Calls Tryz.prog 34 #[.pointer (some ⟨vb, 0, none⟩), .int .i64 u, .int .i64 θ] w fun e w' => e = .returned (.tuple #[.int .i64 0, .int .i64 3]) ∧ w = w' := by
  have HV := Lib.hid (valid_yes vb tb w h.c0)
  have c1 := h.c1
  clear h
  by_cases h0 : u < 0
  · have d1 : decide (u < 0) = true := decide_eq_true h0
    clear hu
    go_enter Tryz.func34, Tryz.ntmps34
    go_wp2_with fail
    refine HV.out.mono ?_
    rintro e w' ⟨rfl, rfl⟩
    go_wp2_with fail
    go_ret2
    exact ⟨rfl, rfl⟩
  · have d1 : decide (u < 0) = false := decide_eq_false h0
    have d2 : decide ((n : Int) ≤ u) = true := decide_eq_true (by omega)
    have hnu : (n : Int) ≤ u := by omega
    clear hu
    go_enter Tryz.func34, Tryz.ntmps34
    go_wp2_with fail
    refine HV.out.mono ?_
    rintro e w' ⟨rfl, rfl⟩
    go_wp2_with fail
    go_ret2
    exact ⟨rfl, rfl⟩
set_option maxRecDepth 100000 in
set_option maxHeartbeats 1000000 in
theorem top_in (vb n z tb g u : Nat) (b : Blk) (E : List Ed) (o : List Nat) (θ : Int) (w : World) (h : VwP w w.heap.size vb n z b tb g E o) (hu : u < n) :
    Calls Tryz.prog 34 #[.pointer (some ⟨vb, 0, none⟩), .int .i64 (u : Nat), .int .i64 θ] w fun e w' => e = .returned (.tuple #[.int .i64 (topN E o n θ u : Nat), .int .i64 0]) ∧ Below w.heap.size w w' := by
  have HV := Lib.hid (valid_yes vb tb w h.c0)
  have c0 := h.c0
  have c1 := h.c1
  have c5 := h.c5
  have htr := h.tr
  have hze := htr.z_eq
  subst hze
  have htab := (h.tab.mono (Nat.le_refl _)).below (Below.refl w.heap.size w).drew
  have HC := Lib.hid (climb_tab tb w.heap.size (pT E (frs E o) n) (hT E (frs E o) n) θ _ _ _ (u : Int) w.drew htab (htr.key.below (Below.refl w.heap.size w).drew) (Nat.le_refl _))
  rw [clV_top h.ok h.ord θ hu, clE_leaf hu, hT_len] at HC
  obtain ⟨z, hz⟩ : ∃ z, n + (frs E o).length = z := ⟨_, rfl⟩
  rw [hz] at HC c5
  have HU := Lib.hid h.row.lt
  clear h htr htab hz
  have d1 : decide ((u : Int) < 0) = false := decide_eq_false (by omega)
  have d2 : decide ((n : Int) ≤ u) = false := decide_eq_false (by omega)
  have d3 : decide (n ≤ u) = false := decide_eq_false (by omega)
  go_enter Tryz.func34, Tryz.ntmps34
  go_wp2_with fail
  refine HV.out.mono ?_
  rintro e w' ⟨rfl, rfl⟩
  go_wp2_with fail
  have HS : w.drew.cell? ⟨vb, 0, none⟩ = some (.pointer (some ⟨tb, 0, none⟩)) ∧ w.drew.cell? ⟨vb, 5, none⟩ = some (.slice (some ⟨b.h, 0, none⟩) z z) := ⟨c0, c5⟩
  refine region_plain (fun w' => w'.cell? ⟨vb, 0, none⟩ = some (.pointer (some ⟨tb, 0, none⟩)) ∧ w'.cell? ⟨vb, 5, none⟩ = some (.slice (some ⟨b.h, 0, none⟩) z z)) (by kernel_rfl) ?_
  refine take_at (i := 0) (d := 22) (v := ?_) rfl rfl (by kernel_rfl) (by kernel_rfl) (by kernel_rfl) (fun _ _ _ _ => NormalOnly.any) rfl ?hy1 HS ?rest1
  case hy1 => intro w' hSw; (try dsimp only at hSw); go_simp; try (with_reducible rfl)
  try simp only [List.setIfInBounds_toArray, List.set_cons_zero, List.set_cons_succ]
  refine take_at (i := 1) (d := 23) (v := ?_) rfl rfl (by kernel_rfl) (by kernel_rfl) (by kernel_rfl) (fun _ _ _ _ => NormalOnly.any) rfl ?hy2 HS ?rest2
  case hy2 => intro w' hSw; (try dsimp only at hSw); go_simp; try (with_reducible rfl)
  try simp only [List.setIfInBounds_toArray, List.set_cons_zero, List.set_cons_succ]
  refine take_at (i := 2) (d := 24) (v := ?_) rfl rfl (by kernel_rfl) (by kernel_rfl) (by kernel_rfl) (fun _ _ _ _ => NormalOnly.any) rfl ?hy3 HS ?rest3
  case hy3 => intro w' hSw; (try dsimp only at hSw); go_simp; try (with_reducible rfl)
  try simp only [List.setIfInBounds_toArray, List.set_cons_zero, List.set_cons_succ]
  refine take_at (i := 3) (d := 25) (v := ?_) rfl rfl (by kernel_rfl) (by kernel_rfl) (by kernel_rfl) (fun _ _ _ _ => NormalOnly.any) rfl ?hy4 HS ?rest4
  case hy4 => intro w' hSw; (try dsimp only at hSw); go_simp; try (with_reducible rfl)
  try simp only [List.setIfInBounds_toArray, List.set_cons_zero, List.set_cons_succ]
  refine take_at (i := 4) (d := 26) (v := ?_) rfl rfl (by kernel_rfl) (by kernel_rfl) (by kernel_rfl) (fun _ _ _ _ => NormalOnly.any) rfl ?hy5 HS ?rest5
  case hy5 => intro w' hSw; (try dsimp only at hSw); go_simp; try (with_reducible rfl)
  try simp only [List.setIfInBounds_toArray, List.set_cons_zero, List.set_cons_succ]
  refine take_at (i := 5) (d := 27) (v := ?_) rfl rfl (by kernel_rfl) (by kernel_rfl) (by kernel_rfl) (fun _ _ _ _ => NormalOnly.any) rfl ?hy6 HS ?rest6
  case hy6 => intro w' hSw; (try dsimp only at hSw); go_simp; try (with_reducible rfl)
  try simp only [List.setIfInBounds_toArray, List.set_cons_zero, List.set_cons_succ]
  refine take_at (i := 6) (d := 28) (v := ?_) rfl rfl (by kernel_rfl) (by kernel_rfl) (by kernel_rfl) (fun _ _ _ _ => NormalOnly.any) rfl ?hy7 HS ?rest7
  case hy7 => intro w' hSw; (try dsimp only at hSw); go_simp; try (with_reducible rfl)
  try simp only [List.setIfInBounds_toArray, List.set_cons_zero, List.set_cons_succ]
  refine take_at (i := 7) (d := 29) (v := ?_) rfl rfl (by kernel_rfl) (by kernel_rfl) (by kernel_rfl) (fun _ _ _ _ => NormalOnly.any) rfl ?hy8 HS ?rest8
  case hy8 => intro w' hSw; (try dsimp only at hSw); go_simp; try (with_reducible rfl)
  try simp only [List.setIfInBounds_toArray, List.set_cons_zero, List.set_cons_succ]
  refine take_at (i := 8) (d := 30) (v := ?_) rfl rfl (by kernel_rfl) (by kernel_rfl) (by kernel_rfl) (fun _ _ _ _ => NormalOnly.any) rfl ?hy9 HS ?rest9
  case hy9 => intro w' hSw; (try dsimp only at hSw); go_simp; try (with_reducible rfl)
  try simp only [List.setIfInBounds_toArray, List.set_cons_zero, List.set_cons_succ]
  refine take_at (i := 9) (d := 31) (v := ?_) rfl rfl (by kernel_rfl) (by kernel_rfl) (by kernel_rfl) (fun _ _ _ _ => NormalOnly.any) rfl ?hy10 HS ?rest10
  case hy10 => intro w' hSw; (try dsimp only at hSw); go_simp; try (with_reducible rfl)
  try simp only [List.setIfInBounds_toArray, List.set_cons_zero, List.set_cons_succ]
  refine take_at (i := 10) (d := 32) (v := ?_) rfl rfl (by kernel_rfl) (by kernel_rfl) (by kernel_rfl) (fun _ _ _ _ => NormalOnly.any) rfl ?hy11 HS ?rest11
  case hy11 => intro w' hSw; (try dsimp only at hSw); go_simp; try (with_reducible rfl)
  try simp only [List.setIfInBounds_toArray, List.set_cons_zero, List.set_cons_succ]
  refine wpAnyH_ready (rs := [11]) (by kernel_rfl) (by simp) ?_
  refine AllReadyH.cons rfl (fun K hK => ?_) AllReadyH.nil
  go_simp
  refine HC.out.mono ?_
  clear HC
  rintro e w5 ⟨rfl, hb5⟩
  have hb5 : Below w.heap.size w w5 := (Below.refl w.heap.size w).drew.trans hb5
  refine hK.out _ _ ⟨(hb5.cell (p := ⟨vb, 0, none⟩) HU.out).trans c0, (hb5.cell (p := ⟨vb, 5, none⟩) HU.out).trans c5⟩ (fun HS => ?_)
  have HB5 := Lib.hid hb5
  clear hK hb5 c0 c5 c1 HU HV d1 d2 d3
  (try simp only [List.setIfInBounds_toArray, List.set_cons_zero, List.set_cons_succ])
  refine take_at (i := 12) (d := 34) (v := ?_) rfl rfl (by kernel_rfl) (by kernel_rfl) (by kernel_rfl) (fun _ _ _ _ => NormalOnly.any) rfl ?hy12 HS ?rest12
  case hy12 => intro w' hSw; (try dsimp only at hSw); go_simp; try (with_reducible rfl)
  try simp only [List.setIfInBounds_toArray, List.set_cons_zero, List.set_cons_succ]
  refine take_at (i := 13) (d := 35) (v := ?_) rfl rfl (by kernel_rfl) (by kernel_rfl) (by kernel_rfl) (fun _ _ _ _ => NormalOnly.any) rfl ?hy13 HS ?rest13
  case hy13 => intro w' hSw; (try dsimp only at hSw); go_simp; try (with_reducible rfl)
  try simp only [List.setIfInBounds_toArray, List.set_cons_zero, List.set_cons_succ]
  refine take_at (i := 14) (d := 6) (v := ?_) rfl rfl (by kernel_rfl) (by kernel_rfl) (by kernel_rfl) (fun _ _ _ _ => NormalOnly.any) rfl ?hy14 HS ?rest14
  case hy14 => intro w' hSw; (try dsimp only at hSw); go_simp; try (with_reducible rfl)
  try simp only [List.setIfInBounds_toArray, List.set_cons_zero, List.set_cons_succ]
  refine take_at (i := 15) (d := 7) (v := ?_) rfl rfl (by kernel_rfl) (by kernel_rfl) (by kernel_rfl) (fun _ _ _ _ => NormalOnly.any) rfl ?hy15 HS ?rest15
  case hy15 => intro w' hSw; (try dsimp only at hSw); go_simp; try (with_reducible rfl)
  try simp only [List.setIfInBounds_toArray, List.set_cons_zero, List.set_cons_succ]
  refine wpAnyH_done (by kernel_rfl) ⟨rfl, ?_⟩ _
  clear HS
  go_wp2_with fail
  go_ret2
  exact ⟨rfl, HB5.out⟩
end Go.Proofs.YtibdggbejogciaaGreat

/- The walks of Of and Members of package cluster. Conditions: the view was made by New. -/
namespace Go.Proofs.YtibdggbejogciaaGreat
open Go.RowKit

section
variable {E : List Ed} {o : List Nat} {n : Nat}
theorem lbW_lt {θ : Int} {u : Nat} (hu : u < n) : lbW E θ u < n := Nat.lt_of_le_of_lt ((labO_ok E _).le u) hu
theorem lbW_idem (θ : Int) (u : Nat) : lbW E θ (lbW E θ u) = lbW E θ u := (labO_ok E _).idem u
theorem topN_lt (θ : Int) {u : Nat} (hu : u < n) : topN E o n θ u < n + (frs E o).length := by
  have h1 := nd_lt (E := E) (f := frs E o) (i := kOf (frs E o) (leW E θ)) (lbW_lt (E := E) (θ := θ) hu)
  have h2 := kOf_le (frs E o) (leW E θ)
  unfold topN; omega
theorem topN_lst (θ : Int) {u : Nat} (hu : u < n) : lst E (frs E o) n (topN E o n θ u) = lbW E θ u := lst_nd (lbW_lt hu)
theorem topN_sz (G : GOk n E) (ho : OrdOf E o) (θ : Int) {u : Nat} (hu : u < n) : szT E (frs E o) n (topN E o n θ u) = clsN n (lbW E θ) u := by
  unfold topN
  rw [szT_nd (frs_fo G ho) (kOf_le _ _) (lbW_lt hu) (by rw [lbI_W ho, lbW_idem]), lbI_W ho]
  exact clsN_label (lbW_idem θ u)
end
/-- a group as a value -/
def grpV (a s : Nat) : Array Value := #[.int .i64 (a : Nat), .int .i64 (s : Nat)]
set_option maxRecDepth 100000 in
set_option maxHeartbeats 1000000 in
theorem of_in (vb n u : Nat) (E : List Ed) (θ : Int) (w : World) (h : VwAt w w.heap.size vb n E) (hu : u < n) :
    Calls Tryz.prog 12 #[.pointer (some ⟨vb, 0, none⟩), .int .i64 (u : Nat), .int .i64 θ] w fun e w' => e = .returned (.tuple #[.agg (grpV (lbW E θ u) (clsN n (lbW E θ) u)), .int .i64 0]) ∧ Below w.heap.size w w' := by
  obtain ⟨z, b, tb, g, o, h⟩ := h
  have hA : Below w.heap.size w (w.alloc (.cells #[.int .i64 0, .int .i64 0] 33)) := (Below.refl _ _).alloc (Nat.le_refl _) _
  have hZ : Row (w.alloc (.cells #[.int .i64 0, .int .i64 0] 33)) w.heap.size 2 (fun _ => .int .i64 0) := Row.lit w _ _ (by simp) (fun i hi => by
    match i, hi with
    | 0, _ => rfl
    | 1, _ => rfl
    | j + 2, h => omega)
  have h1 := (h.below hA).mono hA.size
  have HA := Lib.hid hA; have HZ := Lib.hid hZ; have H0 := Lib.hid h
  have HT := Lib.hid (top_in vb n z tb g u b E o θ _ h1 hu)
  have htl := topN_lt (o := o) (E := E) θ hu
  have hze := h.tr.z_eq
  have HLs := Lib.hid (topN_lst (o := o) (E := E) θ hu)
  have HSz := Lib.hid (topN_sz h.ok h.ord θ hu)
  rw [← hze] at htl
  have HSs := Lib.hid (show w.heap.size < (w.alloc (.cells #[.int .i64 0, .int .i64 0] 33)).heap.size by simp)
  have Hze := Lib.hid hze
  clear h hA hZ h1 hze
  go_enter Tryz.func12, Tryz.ntmps12
  go_wp2_with fail
  generalize w.alloc (.cells #[.int .i64 0, .int .i64 0] 33) = wa at *
  refine HT.out.mono ?_
  clear HT
  rintro e w1 ⟨rfl, hb1⟩
  have HB1 := Lib.hid (HA.out.trans (hb1.mono HA.out.size))
  have HZ1 := Lib.hid (HZ.out.below hb1 HSs.out)
  have H1 := Lib.hid (H0.out.below HB1.out)
  clear hb1 HA HZ
  go_wp2_with fail
  obtain ⟨nd', hnd⟩ : ∃ x, topN E o n θ u = x := ⟨_, rfl⟩
  rw [hnd] at htl HLs HSz ⊢
  have c7 := H1.out.c7
  have c6 := H1.out.c6
  have cl : w1.cell? ⟨g, nd', none⟩ = some (.int .i64 (lbW E θ u : Nat)) := by rw [H1.out.lst.cell htl]; unfold natC; rw [HLs.out]
  have cs : w1.cell? ⟨b.s, nd', none⟩ = some (.int .i64 (clsN n (lbW E θ) u : Nat)) := by
    rw [H1.out.tr.rs.cell htl]; unfold intF; rw [stZ_at (by have := Hze.out; omega), HSz.out]
  have hni : (0 : Int) ≤ nd' ∧ (nd' : Int) < z := by omega
  have HS : w1.drew.cell? ⟨vb, 7, none⟩ = some (.slice (some ⟨g, 0, none⟩) z z) ∧ w1.drew.cell? ⟨vb, 6, none⟩ = some (.slice (some ⟨b.s, 0, none⟩) z z) ∧ w1.drew.cell? ⟨g, nd', none⟩ = some (.int .i64 (lbW E θ u : Nat)) ∧ w1.drew.cell? ⟨b.s, nd', none⟩ = some (.int .i64 (clsN n (lbW E θ) u : Nat)) := ⟨c7, c6, cl, cs⟩
  have HKp := Lib.hid (show vb < w.heap.size ∧ g < w.heap.size ∧ b.s < w.heap.size from ⟨H1.out.lt, H1.out.glt, H1.out.tr.lo.2.2.2.2⟩)
  clear c7 c6 cl cs hnd HLs HSz
  obtain ⟨lb, hlb⟩ : ∃ x, lbW E θ u = x := ⟨_, rfl⟩
  obtain ⟨sz, hsz⟩ : ∃ x, clsN n (lbW E θ) u = x := ⟨_, rfl⟩
  rw [hlb, hsz] at HS
  have Hfin := Lib.hid (And.intro hlb hsz)
  clear hlb hsz
  refine region_plain (fun w' => w'.cell? ⟨vb, 7, none⟩ = some (.slice (some ⟨g, 0, none⟩) z z) ∧ w'.cell? ⟨vb, 6, none⟩ = some (.slice (some ⟨b.s, 0, none⟩) z z) ∧ w'.cell? ⟨g, nd', none⟩ = some (.int .i64 (lb : Nat)) ∧ w'.cell? ⟨b.s, nd', none⟩ = some (.int .i64 (sz : Nat))) (by kernel_rfl) ?_
  have HB2 := Lib.hid HB1.out.drew
  have HZ2 := Lib.hid HZ1.out.drew
  generalize w1.drew = w2 at *
  refine take_at (i := 0) (d := 21) (v := ?_) rfl rfl (by kernel_rfl) (by kernel_rfl) (by kernel_rfl) (fun _ _ _ _ => NormalOnly.any) rfl ?hy1 HS ?rest1
  case hy1 => intro w' hSw; (try dsimp only at hSw); go_simp; try (with_reducible rfl)
  try simp only [List.setIfInBounds_toArray, List.set_cons_zero, List.set_cons_succ]
  refine take_at (i := 1) (d := 22) (v := ?_) rfl rfl (by kernel_rfl) (by kernel_rfl) (by kernel_rfl) (fun _ _ _ _ => NormalOnly.any) rfl ?hy2 HS ?rest2
  case hy2 => intro w' hSw; (try dsimp only at hSw); go_simp; try (with_reducible rfl)
  try simp only [List.setIfInBounds_toArray, List.set_cons_zero, List.set_cons_succ]
  refine take_at (i := 2) (d := 23) (v := ?_) rfl rfl (by kernel_rfl) (by kernel_rfl) (by kernel_rfl) (fun _ _ _ _ => NormalOnly.any) rfl ?hy3 HS ?rest3
  case hy3 => intro w' hSw; (try dsimp only at hSw); go_simp; try (with_reducible rfl)
  try simp only [List.setIfInBounds_toArray, List.set_cons_zero, List.set_cons_succ]
  refine take_at (i := 3) (d := 24) (v := ?_) rfl rfl (by kernel_rfl) (by kernel_rfl) (by kernel_rfl) (fun _ _ _ _ => NormalOnly.any) rfl ?hy4 HS ?rest4
  case hy4 => intro w' hSw; (try dsimp only at hSw); go_simp; try (with_reducible rfl)
  try simp only [List.setIfInBounds_toArray, List.set_cons_zero, List.set_cons_succ]
  refine take_at (i := 4) (d := 25) (v := ?_) rfl rfl (by kernel_rfl) (by kernel_rfl) (by kernel_rfl) (fun _ _ _ _ => NormalOnly.any) rfl ?hy5 HS ?rest5
  case hy5 => intro w' hSw; (try dsimp only at hSw); go_simp; try (with_reducible rfl)
  try simp only [List.setIfInBounds_toArray, List.set_cons_zero, List.set_cons_succ]
  refine take_at (i := 5) (d := 26) (v := ?_) rfl rfl (by kernel_rfl) (by kernel_rfl) (by kernel_rfl) (fun _ _ _ _ => NormalOnly.any) rfl ?hy6 HS ?rest6
  case hy6 => intro w' hSw; (try dsimp only at hSw); go_simp; try (with_reducible rfl)
  try simp only [List.setIfInBounds_toArray, List.set_cons_zero, List.set_cons_succ]
  refine take_at (i := 6) (d := 27) (v := ?_) rfl rfl (by kernel_rfl) (by kernel_rfl) (by kernel_rfl) (fun _ _ _ _ => NormalOnly.any) rfl ?hy7 HS ?rest7
  case hy7 => intro w' hSw; (try dsimp only at hSw); go_simp; try (with_reducible rfl)
  try simp only [List.setIfInBounds_toArray, List.set_cons_zero, List.set_cons_succ]
  refine take_at (i := 7) (d := 28) (v := ?_) rfl rfl (by kernel_rfl) (by kernel_rfl) (by kernel_rfl) (fun _ _ _ _ => NormalOnly.any) rfl ?hy8 HS ?rest8
  case hy8 => intro w' hSw; (try dsimp only at hSw); go_simp; try (with_reducible rfl)
  try simp only [List.setIfInBounds_toArray, List.set_cons_zero, List.set_cons_succ]
  refine take_at (i := 8) (d := 29) (v := ?_) rfl rfl (by kernel_rfl) (by kernel_rfl) (by kernel_rfl) (fun _ _ _ _ => NormalOnly.any) rfl ?hy9 HS ?rest9
  case hy9 => intro w' hSw; (try dsimp only at hSw); go_simp; try (with_reducible rfl)
  try simp only [List.setIfInBounds_toArray, List.set_cons_zero, List.set_cons_succ]
  refine take_at (i := 9) (d := 30) (v := ?_) rfl rfl (by kernel_rfl) (by kernel_rfl) (by kernel_rfl) (fun _ _ _ _ => NormalOnly.any) rfl ?hy10 HS ?rest10
  case hy10 => intro w' hSw; (try dsimp only at hSw); go_simp; try (with_reducible rfl)
  try simp only [List.setIfInBounds_toArray, List.set_cons_zero, List.set_cons_succ]
  refine take_at (i := 10) (d := 31) (v := ?_) rfl rfl (by kernel_rfl) (by kernel_rfl) (by kernel_rfl) (fun _ _ _ _ => NormalOnly.any) rfl ?hy11 HS ?rest11
  case hy11 => intro w' hSw; (try dsimp only at hSw); go_simp; try (with_reducible rfl)
  try simp only [List.setIfInBounds_toArray, List.set_cons_zero, List.set_cons_succ]
  refine take_at (i := 11) (d := 32) (v := ?_) rfl rfl (by kernel_rfl) (by kernel_rfl) (by kernel_rfl) (fun _ _ _ _ => NormalOnly.any) rfl ?hy12 HS ?rest12
  case hy12 => intro w' hSw; (try dsimp only at hSw); go_simp; try (with_reducible rfl)
  try simp only [List.setIfInBounds_toArray, List.set_cons_zero, List.set_cons_succ]
  refine take_at (i := 12) (d := 33) (v := ?_) rfl rfl (by kernel_rfl) (by kernel_rfl) (by kernel_rfl) (fun _ _ _ _ => NormalOnly.any) rfl ?hy13 HS ?rest13
  case hy13 => intro w' hSw; (try dsimp only at hSw); go_simp; try (with_reducible rfl)
  try simp only [List.setIfInBounds_toArray, List.set_cons_zero, List.set_cons_succ]
  refine take_at (i := 13) (d := 34) (v := ?_) rfl rfl (by kernel_rfl) (by kernel_rfl) (by kernel_rfl) (fun _ _ _ _ => NormalOnly.any) rfl ?hy14 HS ?rest14
  case hy14 => intro w' hSw; (try dsimp only at hSw); go_simp; try (with_reducible rfl)
  try simp only [List.setIfInBounds_toArray, List.set_cons_zero, List.set_cons_succ]
  refine take_at (i := 14) (d := 35) (v := ?_) rfl rfl (by kernel_rfl) (by kernel_rfl) (by kernel_rfl) (fun _ _ _ _ => NormalOnly.any) rfl ?hy15 HS ?rest15
  case hy15 => intro w' hSw; (try dsimp only at hSw); go_simp; try (with_reducible rfl)
  try simp only [List.setIfInBounds_toArray, List.set_cons_zero, List.set_cons_succ]
  refine take_at (i := 15) (d := 36) (v := ?_) rfl rfl (by kernel_rfl) (by kernel_rfl) (by kernel_rfl) (fun _ _ _ _ => NormalOnly.any) rfl ?hy16 HS ?rest16
  case hy16 => intro w' hSw; (try dsimp only at hSw); go_simp; try (with_reducible rfl)
  try simp only [List.setIfInBounds_toArray, List.set_cons_zero, List.set_cons_succ]
  have z0 := HZ2.out.cell (i := 0) (by omega)
  have z1 := HZ2.out.cell (i := 1) (by omega)
  have fz := fun i => HZ2.out.frozen i
  have hb3 : Below w.heap.size w2 ((w2.setCell ⟨w.heap.size, 0, none⟩ (.int .i64 (lb : Nat))).setCell ⟨w.heap.size, 1, none⟩ (.int .i64 (sz : Nat))) := ((Below.refl _ _).setCell (p := ⟨w.heap.size, 0, none⟩) (Nat.le_refl _) _).setCell (p := ⟨w.heap.size, 1, none⟩) (Nat.le_refl _) _
  have HS3 := Lib.hid (And.intro ((hb3.cell (p := ⟨vb, 7, none⟩) HKp.out.1).trans HS.1) (And.intro ((hb3.cell (p := ⟨vb, 6, none⟩) HKp.out.1).trans HS.2.1) (And.intro ((hb3.cell (p := ⟨g, nd', none⟩) HKp.out.2.1).trans HS.2.2.1) ((hb3.cell (p := ⟨b.s, nd', none⟩) HKp.out.2.2).trans HS.2.2.2))))
  have HB3 := Lib.hid (HB2.out.trans (hb3.mono (Nat.le_refl _)))
  have HZ3 := Lib.hid ((HZ2.out.set 0 (.int .i64 (lb : Nat))).set 1 (.int .i64 (sz : Nat)))
  clear hb3
  refine wpAnyH_ready (rs := [16]) (by kernel_rfl) (by simp) ?_
  refine AllReadyH.cons rfl (fun K hK => ?_) AllReadyH.nil
  go_simp
  refine hK.out _ _ HS3.out (fun HS => ?_)
  clear hK z0 z1 fz HS3
  generalize (w2.setCell ⟨w.heap.size, 0, none⟩ (.int .i64 (lb : Nat))).setCell ⟨w.heap.size, 1, none⟩ (.int .i64 (sz : Nat)) = w3 at *
  refine take_at (i := 17) (d := 7) (v := ?_) rfl rfl (by kernel_rfl) (by kernel_rfl) (by kernel_rfl) (fun _ _ _ _ => NormalOnly.any) rfl ?hy17 HS ?rest17
  case hy17 => intro w' hSw; (try dsimp only at hSw); go_simp; try (with_reducible rfl)
  try simp only [List.setIfInBounds_toArray, List.set_cons_zero, List.set_cons_succ]
  refine wpAnyH_done (by kernel_rfl) ⟨rfl, ?_⟩ _
  clear HS
  go_wp2_with fail
  have s0 := HZ3.out.cell (i := 0) (by omega)
  have s1 := HZ3.out.cell (i := 1) (by omega)
  refine bodyPost_ret (v := .tuple #[.agg (grpV lb sz), .int .i64 0]) (by simp [results, Tryz.results12, go_sem, s0, s1, grpV]) rfl ?_
  exact ⟨by rw [Hfin.out.1, Hfin.out.2], HB3.out⟩
set_option maxRecDepth 100000 in
set_option maxHeartbeats 1000000 in
theorem of_out (vb n : Nat) (u : Int) (E : List Ed) (θ : Int) (w : World) (h : VwAt w w.heap.size vb n E) (hu : ¬ (0 ≤ u ∧ u < n)) :
    Calls Tryz.prog 12 #[.pointer (some ⟨vb, 0, none⟩), .int .i64 u, .int .i64 θ] w fun e w' => e = .returned (.tuple #[.agg (grpV 0 0), .int .i64 3]) ∧ Below w.heap.size w w' := by
  obtain ⟨z, b, tb, g, o, h⟩ := h
  have hA : Below w.heap.size w (w.alloc (.cells #[.int .i64 0, .int .i64 0] 33)) := (Below.refl _ _).alloc (Nat.le_refl _) _
  have h1 := (h.below hA).mono hA.size
  have HT := Lib.hid (top_out vb n z tb g b E o u θ _ h1 hu)
  have HA := Lib.hid hA
  clear h hA h1 hu
  go_enter Tryz.func12, Tryz.ntmps12
  go_wp2_with fail
  refine HT.out.mono ?_
  clear HT
  rintro e w1 ⟨rfl, rfl⟩
  go_wp2_with fail
  refine bodyPost_ret (v := .tuple #[.agg (grpV 0 0), .int .i64 3]) (by simp [results, Tryz.results12, go_sem, grpV]) rfl ?_
  exact ⟨rfl, HA.out⟩
set_option maxRecDepth 100000 in
set_option maxHeartbeats 1000000 in
theorem members_in (vb n u : Nat) (E : List Ed) (θ : Int) (w : World) (h : VwAt w w.heap.size vb n E) (hu : u < n) :
    Calls Tryz.prog 14 #[.pointer (some ⟨vb, 0, none⟩), .int .i64 (u : Nat), .int .i64 θ] w fun e w' => ∃ v, e = .returned (.tuple #[v, .int .i64 0]) ∧ OwnI w.heap.size v (lvs n (lbW E θ) (lbW E θ u)) w' ∧ Below w.heap.size w w' := by
  obtain ⟨z, b, tb, g, o, h⟩ := h
  have HT := Lib.hid (top_in vb n z tb g u b E o θ w h hu)
  have H := Lib.hid h
  clear h
  go_enter Tryz.func14, Tryz.ntmps14
  go_wp2_with fail
  refine HT.out.mono ?_
  clear HT
  rintro e w1 ⟨rfl, hb1⟩
  have h1 := H.out.below hb1
  have HL := Lib.hid (leaves_any w.heap.size n z (kOf (frs E o) (leW E θ)) (lbW E θ u) (topN E o n θ u) b E o w1 h1.tr h1.ord hb1.size (kOf_le _ _) (lbW_lt hu) (by rw [lbI_W h1.ord, lbW_idem]) rfl)
  rw [lbI_W h1.ord] at HL
  unfold trV at HL
  have HB1 := Lib.hid hb1
  have c1 := h1.c1
  have c2 := h1.c2
  have c3 := h1.c3
  have c4 := h1.c4
  have c5 := h1.c5
  have c6 := h1.c6
  clear h1 hb1 H
  go_wp2_with fail
  refine HL.out.mono ?_
  clear HL c1 c2 c3 c4 c5 c6
  rintro e w2 ⟨v, rfl, hv, hb2⟩
  have HR := Lib.hid (And.intro hv hb2)
  clear hv hb2
  go_wp2_with fail
  go_ret2
  exact ⟨v, rfl, own_lower HR.out.1 HB1.out.size, HB1.out.trans (HR.out.2.mono HB1.out.size)⟩
set_option maxRecDepth 100000 in
set_option maxHeartbeats 1000000 in
theorem members_out (vb n : Nat) (u : Int) (E : List Ed) (θ : Int) (w : World) (h : VwAt w w.heap.size vb n E) (hu : ¬ (0 ≤ u ∧ u < n)) :
    Calls Tryz.prog 14 #[.pointer (some ⟨vb, 0, none⟩), .int .i64 u, .int .i64 θ] w fun e w' => e = .returned (.tuple #[.slice none 0 0, .int .i64 3]) ∧ w = w' := by
  obtain ⟨z, b, tb, g, o, h⟩ := h
  have HT := Lib.hid (top_out vb n z tb g b E o u θ w h hu)
  clear h hu
  go_enter Tryz.func14, Tryz.ntmps14
  go_wp2_with fail
  refine HT.out.mono ?_
  rintro e w1 ⟨rfl, rfl⟩
  go_wp2_with fail
  go_ret2
  exact ⟨rfl, rfl⟩
end Go.Proofs.YtibdggbejogciaaGreat
