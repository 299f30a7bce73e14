/- How a view of package cluster lies in memory, and the walk of New. Conditions: the edges are given as cells. -/
import Derived.Test.YtpbgophogneecaaGreatRcV
import Derived.Test.YtpbgophogneecaaGreatRcc
namespace Go.Proofs.YtpbgophogneecaaGreat
open Go.RowKit

/-- the cells of a view -/
def vwV (n z : Nat) (b : Blk) (tb g : Nat) : Array Value := #[.pointer (some ⟨tb, 0, none⟩), .int .i64 (n : Nat), .slice (some ⟨b.l, 0, none⟩) z z, .slice (some ⟨b.r, 0, none⟩) z z, .slice (some ⟨b.p, 0, none⟩) z z, .slice (some ⟨b.h, 0, none⟩) z z, .slice (some ⟨b.s, 0, none⟩) z z, .slice (some ⟨g, 0, none⟩) z z]
/-- the parts of a view, below block B -/
structure VwP (w : World) (B vb n z : Nat) (b : Blk) (tb g : Nat) (E : List Ed) (o : List Nat) : Prop where
  ok : GOk n E
  ord : OrdOf E o
  row : Row w vb 8 (fun i => (vwV n z b tb g).getD i undef)
  lt : vb < B
  tab : TabAt w B tb (pT E (frs E o) n)
  tr : TrAt w B n z b E (frs E o)
  lst : Row w g z (natC (lst E (frs E o) n))
  glt : g < B
section
variable {w w' : World} {B B' vb n z tb g : Nat} {b : Blk} {E : List Ed} {o : List Nat}
theorem VwP.below (h : VwP w B vb n z b tb g E o) (hb : Below B w w') : VwP w' B vb n z b tb g E o :=
  ⟨h.ok, h.ord, h.row.below hb h.lt, h.lt, h.tab.below hb, h.tr.below hb, h.lst.below hb h.glt, h.glt⟩
theorem VwP.mono (h : VwP w B vb n z b tb g E o) (hB : B ≤ B') : VwP w B' vb n z b tb g E o :=
  ⟨h.ok, h.ord, h.row, Nat.lt_of_lt_of_le h.lt hB, h.tab.mono hB, h.tr.mono hB, h.lst, Nat.lt_of_lt_of_le h.glt hB⟩
theorem VwP.c0 (h : VwP w B vb n z b tb g E o) : w.cell? ⟨vb, 0, none⟩ = some (.pointer (some ⟨tb, 0, none⟩)) := h.row.cell (i := 0) (by omega)
theorem VwP.c1 (h : VwP w B vb n z b tb g E o) : w.cell? ⟨vb, 1, none⟩ = some (.int .i64 (n : Nat)) := h.row.cell (i := 1) (by omega)
theorem VwP.c2 (h : VwP w B vb n z b tb g E o) : w.cell? ⟨vb, 2, none⟩ = some (.slice (some ⟨b.l, 0, none⟩) z z) := h.row.cell (i := 2) (by omega)
theorem VwP.c3 (h : VwP w B vb n z b tb g E o) : w.cell? ⟨vb, 3, none⟩ = some (.slice (some ⟨b.r, 0, none⟩) z z) := h.row.cell (i := 3) (by omega)
theorem VwP.c4 (h : VwP w B vb n z b tb g E o) : w.cell? ⟨vb, 4, none⟩ = some (.slice (some ⟨b.p, 0, none⟩) z z) := h.row.cell (i := 4) (by omega)
theorem VwP.c5 (h : VwP w B vb n z b tb g E o) : w.cell? ⟨vb, 5, none⟩ = some (.slice (some ⟨b.h, 0, none⟩) z z) := h.row.cell (i := 5) (by omega)
theorem VwP.c6 (h : VwP w B vb n z b tb g E o) : w.cell? ⟨vb, 6, none⟩ = some (.slice (some ⟨b.s, 0, none⟩) z z) := h.row.cell (i := 6) (by omega)
theorem VwP.c7 (h : VwP w B vb n z b tb g E o) : w.cell? ⟨vb, 7, none⟩ = some (.slice (some ⟨g, 0, none⟩) z z) := h.row.cell (i := 7) (by omega)
end
/-- a view that New has made -/
def VwAt (w : World) (B vb n : Nat) (E : List Ed) : Prop := ∃ (z : Nat) (b : Blk) (tb g : Nat) (o : List Nat), VwP w B vb n z b tb g E o
theorem VwAt.below {w w' : World} {B vb n : Nat} {E : List Ed} (h : VwAt w B vb n E) (hb : Below B w w') : VwAt w' B vb n E := by
  obtain ⟨z, b, tb, g, o, h⟩ := h; exact ⟨z, b, tb, g, o, h.below hb⟩
theorem VwAt.mono {w : World} {B B' vb n : Nat} {E : List Ed} (h : VwAt w B vb n E) (hB : B ≤ B') : VwAt w B' vb n E := by
  obtain ⟨z, b, tb, g, o, h⟩ := h; exact ⟨z, b, tb, g, o, h.mono hB⟩
/-- what New answers -/
def CvRes (n : Int) (E : List Ed) (w : World) (e : Ending) (w' : World) : Prop :=
  Below w.heap.size w w' ∧ ((gErr n E ≠ 0 ∧ e = .returned (.tuple #[.pointer none, .int .i64 (gErr n E)])) ∨
    (∃ k vb : Nat, n = k ∧ GOk k E ∧ e = .returned (.tuple #[.pointer (some ⟨vb, 0, none⟩), .int .i64 0]) ∧ VwAt w' w'.heap.size vb k E))
/-- the parents as a slice of numbers -/
theorem TrAt.sl {w : World} {B n : Nat} {b : Blk} {E : List Ed} {f : List Nat} (h : TrAt w B n (n + f.length) b E f) : Sl 46 .i64 w B (.slice (some ⟨b.p, 0, none⟩) (pT E f n).length (n + f.length)) (pT E f n) (fun i => (⟨b.p, 0, none⟩ : Addr).add (i * 1)) :=
  Rd.addr etI (fun _ => h.lo.2.2.1) (fun i hi j hj => by
    obtain rfl : j = 0 := by omega
    rw [pT_len] at hi
    rw [add_mk, Nat.mul_one, Nat.zero_add, Nat.add_zero, h.rp.cell hi]
    unfold nums intF; rw [pT_nth hi]; rfl)
/-- a view holds in every world that has the same blocks from lo on -/
theorem VwP.held {lo : Nat} {w : World} {B vb n z tb g : Nat} {b : Blk} {E : List Ed} {o : List Nat} (h : VwP w B vb n z b tb g E o) (h1 : lo ≤ vb) (h2 : lo ≤ b.l ∧ lo ≤ b.r ∧ lo ≤ b.p ∧ lo ≤ b.h ∧ lo ≤ b.s) (h3 : Held lo w fun W => TabAt W B tb (pT E (frs E o) n)) (h4 : lo ≤ g) : Held lo w fun W => VwAt W B vb n E := fun W hW =>
  ⟨z, b, tb, g, o, h.ok, h.ord, h.row.of_block (hW _ h1 h.row.lt), h.lt, h3 W hW,
    ⟨h.tr.fo, h.tr.n_le, h.tr.z_eq, h.tr.lo, h.tr.rl.of_block (hW _ h2.1 h.tr.rl.lt), h.tr.rr.of_block (hW _ h2.2.1 h.tr.rr.lt), h.tr.rp.of_block (hW _ h2.2.2.1 h.tr.rp.lt), h.tr.rh.of_block (hW _ h2.2.2.2.1 h.tr.rh.lt), h.tr.rs.of_block (hW _ h2.2.2.2.2 h.tr.rs.lt)⟩,
    h.lst.of_block (hW _ h4 h.lst.lt), h.glt⟩
theorem Held.on {base : Nat} {w w' : World} {P : World → Prop} (h : Held base w P) (hb : Below w.heap.size w w') : Held base w' P := fun W hW => h W fun j h1 h2 => (hW j h1 (Nat.lt_of_lt_of_le h2 hb.size)).trans (hb.block j h2)
theorem Held.imp {base : Nat} {w : World} {P Q : World → Prop} (h : Held base w P) (f : ∀ W, P W → Q W) : Held base w Q := fun W hW => f W (h W hW)
/-- what New answers: the view lies in new blocks alone -/
def CvResH (n : Int) (E : List Ed) (w : World) (e : Ending) (w' : World) : Prop :=
  Below w.heap.size w w' ∧ ((gErr n E ≠ 0 ∧ e = .returned (.tuple #[.pointer none, .int .i64 (gErr n E)])) ∨
    (∃ k vb : Nat, n = k ∧ GOk k E ∧ e = .returned (.tuple #[.pointer (some ⟨vb, 0, none⟩), .int .i64 0]) ∧ Held w.heap.size w' fun W => VwAt W w'.heap.size vb k E))
set_option maxRecDepth 100000 in
set_option maxHeartbeats 2000000 in
theorem cnew_held (B : Nat) (a : Option Addr) (cap : Nat) (A : Nat → Addr) (n : Int) (E : List Ed) (w : World) (hS : ES w B (.slice a E.length cap) E A) (hB : B ≤ w.heap.size) (hm : E.length ≤ 9223372036854775807) :
    Calls Tryz.prog 6 #[.int .i64 n, .slice a E.length cap] w (CvResH n E w) := by
  have HM := Lib.hid (rbuild_any B a cap A n E w hS hB hm)
  clear hS hm
  go_enter Tryz.func6, Tryz.ntmps6
  go_wp2_with fail
  refine HM.out.mono ?_
  clear HM
  rintro e w1 ⟨b1, ⟨he, rfl⟩ | ⟨k, o, b, z, rfl, G, ho, rfl, hT, hlo⟩⟩
  · obtain ⟨x, hx⟩ : ∃ x, gErr n E = x := ⟨_, rfl⟩
    rw [hx] at he ⊢
    have hne : (x != 0) = true := by simpa using he
    have HE := Lib.hid (And.intro he hx)
    have HB1 := Lib.hid b1
    clear he hx b1
    unfold trZero
    go_wp2_with fail
    go_ret2
    exact ⟨HB1.out.alloc HB1.out.size _, .inl ⟨by rw [HE.out.2]; exact HE.out.1, by rw [HE.out.2]; rfl⟩⟩
  · have hz8 := hT.z_le
    have hze := hT.z_eq
    have hF := hT.fo
    have hE0 := hF.newE (by omega)
    subst hze
    have hb2 : Below w1.heap.size w1 (w1.alloc (.cells (trV k (k + (frs E o).length) b) 57)) := (Below.refl _ _).alloc (Nat.le_refl _) _
    have hTb : TrBox (w1.alloc (.cells (trV k (k + (frs E o).length) b) 57)) w1.heap.size k (k + (frs E o).length) b := tr_row w1 _ _ b _
    have hT2 := hT.below hb2
    have HN := Lib.hid (new_ok hE0 hT2.sl hb2.size)
    rw [pT_len] at HN
    obtain ⟨z, hz⟩ : ∃ z, k + (frs E o).length = z := ⟨_, rfl⟩
    rw [hz] at hb2 hTb hT2 HN ⊢
    have HL := Lib.hid (fun (w9 : World) (h9 : Below w1.heap.size w1 w9) (hl9 : w1.heap.size ≤ w9.heap.size) => least_any w1.heap.size k z b E o w9 (by rw [hz] at hT; exact hT.below h9) ho hl9)
    have HT2 := Lib.hid hT2
    have HB1 := Lib.hid b1
    have HB2 := Lib.hid hb2
    have HGO := Lib.hid (And.intro G ho)
    have HTb := Lib.hid hTb
    have HLo := Lib.hid hlo
    clear hlo
    unfold trV at HN HB2 HT2 HTb HL ⊢
    clear hz hT hE0 hF hb2 hTb hT2 b1 G ho
    go_wp2_with fail
    have hs2 : w1.heap.size < (w1.alloc (.cells #[.int .i64 (k : Nat), .slice (some ⟨b.l, 0, none⟩) z z, .slice (some ⟨b.r, 0, none⟩) z z, .slice (some ⟨b.p, 0, none⟩) z z, .slice (some ⟨b.h, 0, none⟩) z z, .slice (some ⟨b.s, 0, none⟩) z z] 57)).heap.size := by simp
    generalize w1.alloc (.cells #[.int .i64 (k : Nat), .slice (some ⟨b.l, 0, none⟩) z z, .slice (some ⟨b.r, 0, none⟩) z z, .slice (some ⟨b.p, 0, none⟩) z z, .slice (some ⟨b.h, 0, none⟩) z z, .slice (some ⟨b.s, 0, none⟩) z z] 57) = w2 at *
    refine HN.out.mono ?_
    clear HN
    rintro e w3 ⟨tb, rfl, hTab, hb3, hth⟩
    have HTh := Lib.hid hth
    have hs12 := HB1.out.size
    have hs22 : w.heap.size ≤ w2.heap.size := Nat.le_trans hs12 (Nat.le_of_lt hs2)
    have HTab := Lib.hid hTab
    have HT3 := Lib.hid (HT2.out.below (hb3.mono HB2.out.size))
    have hTb3 : TrBox w3 w1.heap.size k z b := Row.below HTb.out hb3 hs2
    have HB3 := Lib.hid (HB1.out.trans ((HB2.out.trans (hb3.mono HB2.out.size)).mono HB1.out.size))
    have HB13 := Lib.hid (HB2.out.trans (hb3.mono HB2.out.size))
    have HLe := Lib.hid (HL.out w3.drew HB13.out.drew HB13.out.size)
    clear HL hTab hb3 HT2 HTb HB2 hs2 hth
    go_wp2_with fail
    have HS : w3.drew.cell? ⟨w1.heap.size, 0, none⟩ = some (.int .i64 (k : Nat)) ∧ w3.drew.cell? ⟨w1.heap.size, 1, none⟩ = some (.slice (some ⟨b.l, 0, none⟩) z z) ∧ w3.drew.cell? ⟨w1.heap.size, 2, none⟩ = some (.slice (some ⟨b.r, 0, none⟩) z z) ∧ w3.drew.cell? ⟨w1.heap.size, 3, none⟩ = some (.slice (some ⟨b.p, 0, none⟩) z z) ∧ w3.drew.cell? ⟨w1.heap.size, 4, none⟩ = some (.slice (some ⟨b.h, 0, none⟩) z z) ∧ w3.drew.cell? ⟨w1.heap.size, 5, none⟩ = some (.slice (some ⟨b.s, 0, none⟩) z z) := ⟨hTb3.c0, hTb3.c1, hTb3.c2, hTb3.c3, hTb3.c4, hTb3.c5⟩
    have HTx := Lib.hid hTb3
    clear hTb3
    refine region_plain (fun w' => w'.cell? ⟨w1.heap.size, 0, none⟩ = some (.int .i64 (k : Nat)) ∧ w'.cell? ⟨w1.heap.size, 1, none⟩ = some (.slice (some ⟨b.l, 0, none⟩) z z) ∧ w'.cell? ⟨w1.heap.size, 2, none⟩ = some (.slice (some ⟨b.r, 0, none⟩) z z) ∧ w'.cell? ⟨w1.heap.size, 3, none⟩ = some (.slice (some ⟨b.p, 0, none⟩) z z) ∧ w'.cell? ⟨w1.heap.size, 4, none⟩ = some (.slice (some ⟨b.h, 0, none⟩) z z) ∧ w'.cell? ⟨w1.heap.size, 5, none⟩ = some (.slice (some ⟨b.s, 0, none⟩) z z)) (by kernel_rfl) ?_
    refine take_at (i := 0) (d := 27) (v := ?_) rfl rfl (by kernel_rfl) (by kernel_rfl) (by kernel_rfl) (fun _ _ _ _ => NormalOnly.any) rfl ?hy1 HS ?rest1
    case hy1 => intro w' hSw; (try dsimp only at hSw); go_simp; try (with_reducible rfl)
    try simp only [List.setIfInBounds_toArray, List.set_cons_zero, List.set_cons_succ]
    refine take_at (i := 1) (d := 28) (v := ?_) rfl rfl (by kernel_rfl) (by kernel_rfl) (by kernel_rfl) (fun _ _ _ _ => NormalOnly.any) rfl ?hy2 HS ?rest2
    case hy2 => intro w' hSw; (try dsimp only at hSw); go_simp; try (with_reducible rfl)
    try simp only [List.setIfInBounds_toArray, List.set_cons_zero, List.set_cons_succ]
    refine take_at (i := 2) (d := 29) (v := ?_) rfl rfl (by kernel_rfl) (by kernel_rfl) (by kernel_rfl) (fun _ _ _ _ => NormalOnly.any) rfl ?hy3 HS ?rest3
    case hy3 => intro w' hSw; (try dsimp only at hSw); go_simp; try (with_reducible rfl)
    try simp only [List.setIfInBounds_toArray, List.set_cons_zero, List.set_cons_succ]
    refine wpAnyH_ready (rs := [3]) (by kernel_rfl) (by simp) ?_
    refine AllReadyH.cons rfl (fun K hK => ?_) AllReadyH.nil
    go_simp
    refine HLe.out.mono ?_
    clear HLe
    rintro e w5 ⟨g, rfl, hr, hg, hb5⟩
    have hb5 : Below w3.heap.size w3 w5 := (Below.refl w3.heap.size w3).drew.trans hb5
    have hT5 : TrBox w5 w1.heap.size k z b := Row.below HTx.out hb5 (Row.lt HTx.out)
    refine hK.out _ _ ⟨hT5.c0, hT5.c1, hT5.c2, hT5.c3, hT5.c4, hT5.c5⟩ (fun HS => ?_)
    clear hK
    (try simp only [List.setIfInBounds_toArray, List.set_cons_zero, List.set_cons_succ])
    refine take_at (i := 4) (d := 31) (v := ?_) rfl rfl (by kernel_rfl) (by kernel_rfl) (by kernel_rfl) (fun _ _ _ _ => NormalOnly.any) rfl ?hy4 HS ?rest4
    case hy4 => intro w' hSw; (try dsimp only at hSw); go_simp; try (with_reducible rfl)
    try simp only [List.setIfInBounds_toArray, List.set_cons_zero, List.set_cons_succ]
    refine wpAnyH_ready (rs := [5]) (by kernel_rfl) (by simp) ?_
    refine AllReadyH.cons rfl (fun K hK => ?_) AllReadyH.nil
    go_simp
    have hT6 : TrBox (w5.alloc (.cells (vwV k z b tb g) 65)) w1.heap.size k z b := Row.alloc hT5 _
    have hb6 : Below w5.heap.size w5 (w5.alloc (.cells (vwV k z b tb g) 65)) := (Below.refl _ _).alloc (Nat.le_refl _) _
    have hs6 : (w5.alloc (.cells (vwV k z b tb g) 65)).heap.size = w5.heap.size + 1 := by simp
    have hV6 : Row (w5.alloc (.cells (vwV k z b tb g) 65)) w5.heap.size 8 (fun i => (vwV k z b tb g).getD i undef) := Row.lit w5 _ _ (by simp [vwV]) (fun i hi => by
      match i, hi with
      | 0, _ => rfl
      | 1, _ => rfl
      | 2, _ => rfl
      | 3, _ => rfl
      | 4, _ => rfl
      | 5, _ => rfl
      | 6, _ => rfl
      | 7, _ => rfl
      | j + 8, h => omega)
    have hb35 := hb5.size
    have h13 := HB13.out.size
    have HV := Lib.hid (show Held w.heap.size (w5.alloc (.cells (vwV k z b tb g) 65)) fun W => VwAt W (w5.alloc (.cells (vwV k z b tb g) 65)).heap.size w5.heap.size k E from
      VwP.held (z := z) (b := b) (tb := tb) (g := g) (o := o) ⟨HGO.out.1, HGO.out.2, hV6, by omega, ((HTab.out.below hb5).mono hb35).below hb6 |>.mono hb6.size, ((HT3.out.below (hb5.mono h13)).mono (Nat.le_trans h13 hb35)).below hb6 |>.mono hb6.size, hr.alloc _, by have := hr.lt; omega⟩
        (by omega) HLo.out (((((HTh.out.lower hs22).on hb5).on hb6).imp fun W hW => hW.mono (Nat.le_trans hb35 hb6.size))) (Nat.le_trans (Nat.le_trans hs12 h13) hg))
    have HB6 := Lib.hid ((HB3.out.trans (hb5.mono HB3.out.size)).trans (hb6.mono (Nat.le_trans HB3.out.size hb35)))
    unfold vwV at HV HB6 hT6
    refine hK.out _ _ ⟨hT6.c0, hT6.c1, hT6.c2, hT6.c3, hT6.c4, hT6.c5⟩ (fun HS => ?_)
    clear hK hT6 hb6 hs6 hV6 hb35 h13 hr hg hb5 hT5
    (try simp only [List.setIfInBounds_toArray, List.set_cons_zero, List.set_cons_succ])
    refine take_at (i := 6) (d := 4) (v := ?_) rfl rfl (by kernel_rfl) (by kernel_rfl) (by kernel_rfl) (fun _ _ _ _ => NormalOnly.any) rfl ?hy5 HS ?rest5
    case hy5 => intro w' hSw; (try dsimp only at hSw); go_simp; try (with_reducible rfl)
    try simp only [List.setIfInBounds_toArray, List.set_cons_zero, List.set_cons_succ]
    refine take_at (i := 7) (d := 5) (v := ?_) rfl rfl (by kernel_rfl) (by kernel_rfl) (by kernel_rfl) (fun _ _ _ _ => NormalOnly.any) rfl ?hy6 HS ?rest6
    case hy6 => intro w' hSw; (try dsimp only at hSw); go_simp; try (with_reducible rfl)
    try simp only [List.setIfInBounds_toArray, List.set_cons_zero, List.set_cons_succ]
    refine wpAnyH_done (by kernel_rfl) ⟨rfl, ?_⟩ _
    clear HS
    generalize w5.alloc (.cells #[.pointer (some ⟨tb, 0, none⟩), .int .i64 (k : Nat), .slice (some ⟨b.l, 0, none⟩) z z, .slice (some ⟨b.r, 0, none⟩) z z, .slice (some ⟨b.p, 0, none⟩) z z, .slice (some ⟨b.h, 0, none⟩) z z, .slice (some ⟨b.s, 0, none⟩) z z, .slice (some ⟨g, 0, none⟩) z z] 65) = w6 at *
    go_wp2_with fail
    go_ret2
    exact ⟨HB6.out, .inr ⟨k, _, rfl, HGO.out.1, rfl, HV.out⟩⟩
theorem cnew_any (B : Nat) (a : Option Addr) (cap : Nat) (A : Nat → Addr) (n : Int) (E : List Ed) (w : World) (hS : ES w B (.slice a E.length cap) E A) (hB : B ≤ w.heap.size) (hm : E.length ≤ 9223372036854775807) :
    Calls Tryz.prog 6 #[.int .i64 n, .slice a E.length cap] w (CvRes n E w) :=
  (cnew_held B a cap A n E w hS hB hm).mono fun _ _ ⟨h1, h2⟩ => ⟨h1, h2.imp id fun ⟨k, vb, e1, e2, e3, e4⟩ => ⟨k, vb, e1, e2, e3, e4.self⟩⟩
end Go.Proofs.YtpbgophogneecaaGreat
