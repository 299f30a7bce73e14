/- The walk of List of package triad. Conditions: the graph was made by New, or it is nil or zero. -/
import Derived.Test.YtjdpkjjlcbgnbaaCount
namespace Go.Proofs.Ytjdpkjjlcbgnbaa
open Go.RowKit Go.Shelf
attribute [local go_sem] Oper.semAt_some

/-- the cells of the i-th triangle of a list -/
def t0 : Int × Int × Int := (0, 0, 0)
def tCell (x : Int × Int × Int) : Nat → Value
  | 0 => .int .i64 x.1
  | 1 => .int .i64 x.2.1
  | _ => .int .i64 x.2.2
def tC (l : List (Int × Int × Int)) (i j : Nat) : Value := tCell (l.getD i t0) j
theorem tC_snoc (l : List (Int × Int × Int)) (x : Int × Int × Int) : flat (tC (l ++ [x])) (l ++ [x]).length 3 = flat (tC l) l.length 3 ++ [.int .i64 x.1, .int .i64 x.2.1, .int .i64 x.2.2] := by
  rw [List.length_append, List.length_singleton, flat_succ]
  congr 1
  · exact flat_congr fun i hi j _ => by simp only [tC, List.getD, List.getElem?_append_left hi]
  · simp [tC, List.getD, List.range_succ, tCell]

theorem Try.infoT : (Try.prog.info? 56).map (fun i => (i.zero, i.size, i.bytes)) = some (some (.agg #[.int .i64 0, .int .i64 0, .int .i64 0]), 3, 24) := by kernel_rfl
theorem etT : ET 53 56 3 24 := ET.of Try.underlying53 Try.infoT rfl (by decide)

/-- one element is appended to a row that the call owns, inside a fence -/
theorem pushIn {F : Fence} {nF : Nat} {ops : Array Oper} {rest : List Oper} {o : Oper} {a : Act} {Q : Exit → Act → World → Prop} {w0 : World} {t e : TypeId} {size bytes : Nat} (E : ET t e size bytes) (hgd : o.guard = none) (s x : Operand)
    (ho : o.op = .call { callee := .builtin .append, args := #[s, x], argTypes := #[t, t] }) (base : Nat) (v : Value) (n : Nat) (xs : List Value) (hown : w0.ownsRow base e size v n xs) (hs : a.eval s = v)
    (news : Array Value) (N : Nat) (hx : a.eval x = .slice (some ⟨N, 0, none⟩) 1 1) (hN : w0.heap.size = N) (hsz : news.size = size) (h1 : ∀ u ∈ news.toList, u.oneCell' = true)
    (hn : (n + 1) * bytes ≤ 140737488355328) (hm : n + 1 ≤ 9223372036854775807) (hbase : base ≤ w0.heap.size)
    (h : ∀ (g cap : Nat) (w1 : World), w1.ownsRow base e size (.slice (some ⟨g, 0, none⟩) (n + 1 : Nat) cap) (n + 1) (xs ++ news.toList) → (w0.alloc (.cells news e)).grownBy w1 v.ownBlock →
      wpListIn F nF Try.prog ops Q rest (a.put o.dst (.slice (some ⟨g, 0, none⟩) (n + 1 : Nat) cap)) w1) : wpListIn F nF Try.prog ops Q (o :: rest) a (w0.alloc (.cells news e)) := by
  subst hN
  obtain ⟨i, z, hi, hz, h2, h3, h4⟩ := E.info
  refine wpListIn_append_own _ hgd s x t ho base e i z size bytes E.ht hi hz h2 h3 h4 E.pos v n xs hs (hown.alloc _) ⟨w0.heap.size, 0, none⟩ 1 1 news.toList hx (by simp [hsz]) ?_ h1 (by unfold maxLen; omega) hn (by simp; omega) ?_
  · intro j u hu
    rw [add_mk, Nat.zero_add]
    have := heap_alloc_new w0 (.cells news e)
    simp only [World.cell?, this, Option.isSome_none, Bool.false_eq_true, if_false]
    rw [Array.getElem?_toList] at hu; exact hu
  · intro v' w1 hown' hg _
    obtain ⟨g, cap, rfl⟩ := ownsRow_succ hown'
    exact h g cap w1 hown' hg

/-- a block of cells that lies as it lay -/
theorem cells_own (B : Nat) (c : Array Value) (t : TypeId) : Own (fun (_ : Unit) W => W.heap[B]? = some (.cells c t (0, 0))) := fun _ X Y row hs hg hrow =>
  (hg.block B (Array.getElem?_eq_some_iff.1 hs).1 (fun e' => by obtain ⟨o, ho, hc⟩ := hrow B e'.symm; rw [hs] at ho; cases ho; cases hc)).trans hs

theorem kt_grown {n₀ : Nat} {w0 w1 : World} {e : TypeId} {base size n : Nat} {v : Value} {xs : List Value} {tmp : Obj} (hown : w0.ownsRow base e size v n xs) (h1 : e ≠ 3) (h2 : e ≠ 48) (h0 : n₀ ≤ base) (hb : n₀ ≤ w0.heap.size)
    (hg : (w0.alloc tmp).grownBy w1 v.ownBlock) : KT n₀ w0 w1 := by
  have hne : ∀ (k : Nat) (c : Array Value) (t : TypeId), t ≠ e → w0.heap[k]? = some (.cells c t (0, 0)) → w1.heap[k]? = w0.heap[k]? := fun k c t ht hc => by
    have hl := (Array.getElem?_eq_some_iff.1 hc).1
    refine (hg.block k (by simp; omega) (fun ee => ?_)).trans (Below.heap_alloc _ _ _ hl)
    rcases hown.2 with ⟨rfl, _⟩ | ⟨g, cap, cur, rfl, _, hgb, _⟩
    · cases ee
    · have : k = g := by simpa [Value.ownBlock] using ee
      subst this
      rw [hgb] at hc
      simp at hc; exact ht hc.2.symm
  exact ⟨((Below.refl _ _).alloc hb tmp).grown hg (by simp; omega) (fun j ej => Nat.le_trans h0 (by
      rcases hown.2 with ⟨rfl, _⟩ | ⟨g, cap, cur, rfl, hbs, _⟩
      · cases ej
      · have : g = j := by simpa [Value.ownBlock] using ej
        omega)),
    fun k c hc => hne k c _ (fun e => h1 e.symm) hc, fun k c hc => hne k c _ (fun e => h2 e.symm) hc⟩

/-- the triangles that a list in memory holds -/
def OwnTri (base : Nat) (l : List (Int × Int × Int)) (w : World) (e : Ending) (w' : World) : Prop :=
  ∃ v, e = .returned v ∧ w'.ownsRow base 56 3 v l.length (flat (tC l) l.length 3) ∧ Below w.heap.size w w'
/-- where List stands between two rounds -/
structure LSt (w : World) (most : Int) (pre : List (Int × Int × Int)) (W : World) : Prop where
  most : Boxed W w.heap.size 3 (.int .i64 most)
  list : ∃ v, Boxed W (w.heap.size + 1) 53 v ∧ W.ownsRow w.heap.size 56 3 v pre.length (flat (tC pre) pre.length 3) ∧ True
  size : w.heap.size + 3 ≤ W.heap.size
theorem lst_own (w : World) (most : Int) : Own (LSt w most) := fun s X Y row hs hg hr =>
  ⟨boxed_own w.heap.size 3 (fun _ => .int .i64 most) s X Y row hs.most hg hr,
   holdsRow_own w.heap.size (w.heap.size + 1) 53 56 3 (fun pre : List (Int × Int × Int) => pre.length) (fun pre => flat (tC pre) pre.length 3) (fun _ _ => True) s X Y row hs.list hg hr,
   Nat.le_trans hs.size hg.size⟩
theorem LSt.alloc {w W : World} {most : Int} {pre : List (Int × Int × Int)} (h : LSt w most pre W) (o : Obj) : LSt w most pre (W.alloc o) := by
  obtain ⟨v, h1, h2, h3⟩ := h.list
  exact ⟨h.most.alloc o, ⟨v, h1.alloc o, h2.alloc o, h3⟩, by have := h.size; simp; omega⟩

set_option maxRecDepth 100000 in
set_option maxHeartbeats 2000000 in
theorem list_any (B : Nat) (g : Option Addr) (o : Option (Nat × List Ed)) (most : Int) (w : World) (hg : GV w B (.pointer g) o) (hB : B ≤ w.heap.size) :
    Calls Try.prog 27 #[.pointer g, .int .i64 most] w (OwnTri w.heap.size ((tri o).take most.toNat) w) := by
  by_cases hm : most < 1
  · have H := Lib.hid (show (tri o).take most.toNat = [] by rw [show most.toNat = 0 by omega]; rfl)
    go_enter Try.func27, Try.ntmps27
    go_wp2_with fail
    go_ret
    exact ⟨_, rfl, by rw [H.out]; exact World.ownsRow_nil _ _ _ _, (Below.refl _ _).alloc (Nat.le_refl _) _⟩
  refine (callsIn_wide (n := 8)).1 ?_
  have hG := hg.good
  have hlen := tri_len hG
  refine callsIn_of_wp_marks Try.func27 rfl trivial ?_ rfl
  simp only [Try.ntmps27, List.size_toArray, List.length_cons, List.length_nil, Nat.reduceAdd, Nat.reduceSub, Array.replicate_succ, Array.replicate_zero, List.push_toArray, List.append_toArray, List.nil_append, List.cons_append]
  gi_wp2_with (refine ⟨trivial, ?_⟩; gi_at_call 30; refine (callsIn_wide.2 (tri_call _ _)).mono ?_; rintro e w' ⟨rfl, rfl⟩)
  have hb1 := Boxed.new w 3 (.int .i64 most)
  have hb2 := Boxed.new (w.alloc (.cells #[.int .i64 most] 3)) 53 (.slice none 0 0)
  have hb3 := heap_alloc_new ((w.alloc (.cells #[.int .i64 most] 3)).alloc (.cells #[.slice none 0 0] 53)) (.cells #[.pointer g] 25)
  simp only [World.size_alloc] at hb2 hb3
  obtain ⟨W0, hW0⟩ : ∃ W0, ((w.alloc (.cells #[.int .i64 most] 3)).alloc (.cells #[.slice none 0 0] 53)).alloc (.cells #[.pointer g] 25) = W0 := ⟨_, rfl⟩
  have hB0 : Below w.heap.size w W0 := by rw [← hW0]; exact (((Below.refl _ w).alloc (Nat.le_refl _) _).alloc (by simp) _).alloc (by simp; omega) _
  have hs0 : W0.heap.size = w.heap.size + 3 := by rw [← hW0]; simp
  have hL0 : LSt w most [] W0 := ⟨by rw [← hW0]; exact (hb1.alloc _).alloc _, ⟨_, by rw [← hW0]; exact hb2.alloc _, World.ownsRow_nil _ _ _ _, trivial⟩, by omega⟩
  have hg0 : GV W0 w.heap.size (.pointer g) o := (hg.below (hB0.mono hB)).mono hB
  rw [hW0] at hb3 ⊢
  clear hW0 hb1 hb2
  refine rangeR (F := Fence.wide) rfl (by omega) (gf := 45) (lb := #[.pointer (some ⟨w.heap.size + 1 + 1, 0, none⟩)]) rfl trivial (enters_of Try.func45 (by kernel_rfl) rfl)
    (tri_stops 7 (by omega) (w.heap.size + 1 + 1) w.heap.size g o W0 hg0 hb3 (by omega)) KT.trans (kt_b (by omega)) (Below.refl _ _) (fun _ => rfl)
    (fun pre W => (LSt w most pre W ∧ Hid ((pre.length : Int) < most)) ∧ Below w.heap.size w W)
    (fun c pre W => (c = .exit 0 ∧ pre <+: tri o ∧ (pre.length : Int) = most) ∧ LSt w most pre W ∧ Below w.heap.size w W)
    (OwnFrom.and (OwnFrom.and (Own.from (lst_own w most) _) (fun s A B row hs _ _ => hs)) (ownFrom_below (Nat.le_refl _) (by omega)))
    (fun c => OwnFrom.and (fun s A B row hs _ _ => hs) (OwnFrom.and (Own.from (lst_own w most) _) (ownFrom_below (Nat.le_refl _) (by omega))))
    ⟨⟨hL0, Lib.hid (show ((0 : Nat) : Int) < most by omega)⟩, hB0⟩
    (fun _ x a' W => ∃ Bx, W.heap[Bx]? = some (.cells #[.int .i64 x.1, .int .i64 x.2.1, .int .i64 x.2.2] 56 (0, 0)) ∧ a' = { tmps := #[.pointer g, .int .i64 most, undef, .pointer (some ⟨w.heap.size, 0, none⟩), .slice none 0 0, .pointer (some ⟨w.heap.size + 1, 0, none⟩), .pointer (some ⟨Bx, 0, none⟩), .int .i64 most, .bool false, .pointer g, .func (.func 45) #[] #[.pointer (some ⟨w.heap.size + 1 + 1, 0, none⟩)], .agg #[.int .i64 x.1, .int .i64 x.2.1, .int .i64 x.2.2], undef, undef, undef, undef, undef, undef, undef, undef, undef], defers := [] })
    (fun pre x a' s A B row hs hg hr => by
      obtain ⟨Bx, h1, h2⟩ := hs
      exact ⟨Bx, (Own.from (cells_own Bx _ _) _) s A B row h1 hg hr, h2⟩) ?assign ?body ?done ?stop
  case assign =>
    rintro l pre x W K ⟨⟨hL, hN⟩, hB⟩ hR hK
    gi_wp2
    have hs := hL.size
    exact hK _ _ ((KeepsOthers.alloc _ _).from _) (KT.of_below ((Below.refl _ _).alloc (Nat.le_refl _) _) (by omega)) ⟨⟨hL.alloc _, hN⟩, hB.alloc (by omega) _⟩ ⟨W.heap.size, heap_alloc_new _ _, rfl⟩
  case body =>
    rintro l pre x a' W hl - ⟨⟨hL, hN⟩, hB⟩ ⟨Bx, hX, rfl⟩ hR
    have hp : pre.length < 68719476736 := by have := hR.length_le; simp at this; omega
    obtain ⟨v, hv, hrow, -⟩ := hL.list
    have hsz := hL.size
    have cm := hL.most.cell
    have cl := hv.cell
    have x0 : W.cell? ⟨Bx, 0, none⟩ = some (.int .i64 x.1) := by simp [World.cell?, hX]
    have x1 : W.cell? ⟨Bx, 1, none⟩ = some (.int .i64 x.2.1) := by simp [World.cell?, hX]
    have x2 : W.cell? ⟨Bx, 2, none⟩ = some (.int .i64 x.2.2) := by simp [World.cell?, hX]
    clear hX
    by_cases hlast : (pre.length : Int) + 1 < most
    · gi_wp2_with (gi_at_builtin; refine pushIn etT rfl _ _ rfl w.heap.size _ _ _ hrow rfl #[.int .i64 x.1, .int .i64 x.2.1, .int .i64 x.2.2] _ rfl rfl rfl (by simp [Value.oneCell']) (by omega) (by omega) (by omega) ?_; intro g2 cap2 w1 hown' hgrow; obtain ⟨hv1, hv2, hr2, hk2, hb2⟩ := hv.appended (by decide) hrow (by omega) (by omega) hown' hgrow; have hc1 := hv1.cell; have hf1 := hv1.frozen; have hm1 := (hL.most.alloc _).kept hgrow (hL.most.not_row (by decide) hrow); have hcm := hm1.cell)
      have hkt : KT w.heap.size W (w1.setCell ⟨w.heap.size + 1, 0, none⟩ (.slice (some ⟨g2, 0, none⟩) (pre.length + 1) cap2)) :=
        (kt_grown hrow (by decide) (by decide) (Nat.le_refl _) (by omega) hgrow).trans (kt_set hv1 (by omega) (by decide) (by decide) _)
      have hL2 : LSt w most (pre ++ [x]) (w1.setCell ⟨w.heap.size + 1, 0, none⟩ (.slice (some ⟨g2, 0, none⟩) (pre.length + 1) cap2)) :=
        ⟨hm1.other (by omega) _, ⟨_, hv2, by rw [tC_snoc, List.length_append]; exact hr2, trivial⟩, by have := hb2.size; omega⟩
      exact ⟨hk2.from _, hkt, ⟨hL2, Lib.hid (by rw [List.length_append]; simpa using hlast)⟩, hB.trans hb2⟩
    · have hN' := hN.out
      have hge : most ≤ (pre.length : Int) + 1 := by omega
      clear hN'
      gi_wp2_with (gi_at_builtin; refine pushIn etT rfl _ _ rfl w.heap.size _ _ _ hrow rfl #[.int .i64 x.1, .int .i64 x.2.1, .int .i64 x.2.2] _ rfl rfl rfl (by simp [Value.oneCell']) (by omega) (by omega) (by omega) ?_; intro g2 cap2 w1 hown' hgrow; obtain ⟨hv1, hv2, hr2, hk2, hb2⟩ := hv.appended (by decide) hrow (by omega) (by omega) hown' hgrow; have hc1 := hv1.cell; have hf1 := hv1.frozen; have hm1 := (hL.most.alloc _).kept hgrow (hL.most.not_row (by decide) hrow); have hcm := hm1.cell)
      have hkt : KT w.heap.size W (w1.setCell ⟨w.heap.size + 1, 0, none⟩ (.slice (some ⟨g2, 0, none⟩) (pre.length + 1) cap2)) :=
        (kt_grown hrow (by decide) (by decide) (Nat.le_refl _) (by omega) hgrow).trans (kt_set hv1 (by omega) (by decide) (by decide) _)
      have hL2 : LSt w most (pre ++ [x]) (w1.setCell ⟨w.heap.size + 1, 0, none⟩ (.slice (some ⟨g2, 0, none⟩) (pre.length + 1) cap2)) :=
        ⟨hm1.other (by omega) _, ⟨_, hv2, by rw [tC_snoc, List.length_append]; exact hr2, trivial⟩, by have := hb2.size; omega⟩
      exact ⟨hk2.from _, ⟨rfl, hR, by rw [List.length_append]; have := hN.out; simp; omega⟩, hL2, hB.trans hb2⟩
  case done =>
    rintro D xs W hD rfl ⟨⟨hL, hN⟩, hB⟩ hK
    obtain ⟨v, hv, hrow, -⟩ := hL.list
    have cl := hv.cell
    have hN' := hN.out
    have H := Lib.hid (show (tri o).take most.toNat = tri o from List.take_of_length_le (by omega))
    clear hN'
    gi_wp2
    refine ⟨by simp, .inl ⟨_, _, rfl, run_takeDeferred hK, ?_⟩⟩
    exact ⟨_, results_tmp rfl _ _ _, v, rfl, by rw [H.out]; exact ownsRow_putObj hrow _ hK rfl, hB.trans (belowK_b (w := w) (Nat.le_refl _) W D _ _ (by omega) hK rfl rfl)⟩
  case stop =>
    rintro D c pre W hD ⟨⟨rfl, hp, hlen2⟩, hL, hB⟩ hK
    obtain ⟨v, hv, hrow, -⟩ := hL.list
    have cl := hv.cell
    have H := Lib.hid (show (tri o).take most.toNat = pre by rw [← hlen2, Int.toNat_natCast]; exact (List.prefix_iff_eq_take.1 hp).symm)
    clear hlen2 hp
    gi_wp2
    refine ⟨by simp, .inl ⟨_, _, rfl, run_takeDeferred hK, ?_⟩⟩
    exact ⟨_, results_tmp rfl _ _ _, v, rfl, by rw [H.out]; exact ownsRow_putObj hrow _ hK rfl, hB.trans (belowK_b (w := w) (Nat.le_refl _) W D _ _ (by omega) hK rfl rfl)⟩
end Go.Proofs.Ytjdpkjjlcbgnbaa
