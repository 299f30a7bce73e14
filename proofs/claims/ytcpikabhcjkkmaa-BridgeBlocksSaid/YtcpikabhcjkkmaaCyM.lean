/- What Cycle of package bridge answers, and its memory. No conditions. -/
import Derived.Test.YtcpikabhcjkkmaaCyc
import Derived.Test.YtcpikabhcjkkmaaBrDs
import Derived.Test.YtcpikabhcjkkmaaBrL
namespace Go.Proofs.Ytcpikabhcjkkmaa
open Go.RowKit Go.Shelf
attribute [local go_sem] Oper.semAt_some

/-- the cycle through an edge, as a list -/
def CycL (n : Nat) (E : List Ed) (x : Int) (l : List Nat) : Prop :=
  (¬ (0 ≤ x ∧ x < E.length) → l = []) ∧ ∀ p : Nat, x = p → p < E.length → ∃ d, DistF E (NE E p) n (edP E p).2 d ∧ l = cyc E p d (edP E p).1
/-- what Cycle answers -/
def CyRes (n : Nat) (E : List Ed) (x : Int) (w : World) (e : Ending) (w' : World) : Prop := ∃ v l, e = .returned v ∧ CycL n E x l ∧ RdI w' w'.heap.size v l ∧ Below w.heap.size w w'
theorem cycL_of {n : Nat} {E : List Ed} {p : Nat} {d : Nat → Int} (hp : p < E.length) (h : DistF E (NE E p) n (edP E p).2 d) : CycL n E (p : Nat) (cyc E p d (edP E p).1) :=
  ⟨fun c => absurd (by omega) c, fun q hq _ => by
    have : q = p := by omega
    subst this
    exact ⟨d, h, rfl⟩⟩
/-- a copy of the edges that the call owns -/
def GEdO (o : Option (Nat × List Ed)) (w : World) (e : Ending) (w' : World) : Prop :=
  ∃ a cap A, e = .returned (.slice a (gE o).length cap) ∧ ES w' w'.heap.size (.slice a (gE o).length cap) (gE o) A ∧ Below w.heap.size w w' ∧ (0 < (gE o).length → ∃ g, a = some ⟨g, 0, none⟩ ∧ OwnE w.heap.size (.slice (some ⟨g, 0, none⟩) (gE o).length cap) (gE o) w')
set_option maxHeartbeats 400000 in
theorem edgesO_any (B : Nat) (v : Value) (o : Option (Nat × List Ed)) (w : World) (h : GV w B v o) (hB : B ≤ w.heap.size) :
    Calls Try.prog 46 #[v] w (GEdO o w) := by
  cases o with
  | none =>
    refine (edges_any B v none w h hB).mono ?_
    rintro e w' ⟨a, cap, A, h1, h2, h3⟩
    exact ⟨a, cap, A, h1, h2, h3, fun h => absurd h (by simp [gE])⟩
  | some x =>
    have hv := Lib.hid (valid_is (x := true) rfl h)
    obtain ⟨b, rfl, h2⟩ := h
    obtain ⟨sb, lb, a, cap, f, A, -, -, h3, -, -, -, hS⟩ := h2.mem
    have c1 : w.cell? ⟨b, 1, none⟩ = some (.slice a x.2.length cap) := h3.cell (by omega)
    have hml := h2.ok.m_le
    have HC := Lib.hid (cloneE B a cap x.2.length A (edC x.2) w hS hB (fun i _ j _ => edC_one x.2 i j) (by omega))
    clear h2 h3 hS
    go_enter Try.func46, Try.ntmps46
    go_wp2_with fail
    refine hv.out.mono ?_
    rintro e w' ⟨rfl, rfl⟩
    go_wp2_with fail
    refine HC.out.mono ?_
    rintro e w2 ⟨a2, cap2, A2, rfl, S2, b2, hO⟩
    go_wp2_with fail
    go_ret
    refine ⟨a2, cap2, A2, rfl, S2, b2, fun h0 => ?_⟩
    rcases hO with rfl | ⟨g, rfl, _, hO⟩
    · obtain ⟨_, h1, _⟩ := S2.view etE h0; cases h1
    · exact ⟨g, rfl, hO⟩
/-- what holds at each stop of the way back -/
structure CyMem (w : World) (pb db xb lb lo p n : Nat) (d : Nat → Int) (lv : Value) (L : List Nat) : Prop where
  h1 : pb < db
  h2 : db < xb
  h3 : xb < lo
  h4 : lo ≤ lb
  pbx : Boxed w pb 3 (.int .i64 (p : Nat))
  row : DRow w db n d
  box : Boxed w xb 29 (.slice (some ⟨db, 0, none⟩) n n)
  lbx : Boxed w lb 29 lv
  que : QOwn lo lv L w
section
variable {w w' : World} {pb db xb lb lo p n : Nat} {d : Nat → Int} {lv : Value} {L : List Nat}
theorem CyMem.keep (h : CyMem w pb db xb lb lo p n d lv L) (hk : ∀ b, b = pb ∨ b = db ∨ b = xb ∨ b = lb ∨ lv.ownBlock = some b → w'.heap[b]? = w.heap[b]?) : CyMem w' pb db xb lb lo p n d lv L :=
  ⟨h.h1, h.h2, h.h3, h.h4, (hk _ (.inl rfl)).trans h.pbx, h.row.of_block (hk _ (.inr (.inl rfl))), (hk _ (.inr (.inr (.inl rfl)))).trans h.box, (hk _ (.inr (.inr (.inr (.inl rfl))))).trans h.lbx, h.que.keep fun b hb => hk b (.inr (.inr (.inr (.inr hb))))⟩
theorem CyMem.lt (h : CyMem w pb db xb lb lo p n d lv L) {b : Nat} (hb : b = pb ∨ b = db ∨ b = xb ∨ b = lb ∨ lv.ownBlock = some b) : b < w.heap.size := by
  rcases hb with rfl | rfl | rfl | rfl | hb
  · exact h.pbx.lt
  · exact h.row.lt
  · exact h.box.lt
  · exact h.lbx.lt
  · exact (h.que.lt hb).2
theorem CyMem.below (h : CyMem w pb db xb lb lo p n d lv L) (hb : Below w.heap.size w w') : CyMem w' pb db xb lb lo p n d lv L := h.keep fun b hb' => hb.block b (h.lt hb')
theorem CyMem.own (h : CyMem w pb db xb lb lo p n d lv L) {row : Option Nat} (hg : w.grownBy w' row) (hr : ∀ r, row = some r → ∃ o : Obj, w.heap[r]? = some o ∧ o.isCells = false) : CyMem w' pb db xb lb lo p n d lv L :=
  ⟨h.h1, h.h2, h.h3, h.h4, boxed_own _ _ (fun _ : Unit => .int .i64 (p : Nat)) () w w' row h.pbx hg hr, row_own h.row hg hr, boxed_own _ _ (fun _ : Unit => .slice (some ⟨db, 0, none⟩) n n) () w w' row h.box hg hr, boxed_own _ _ (fun _ : Unit => lv) () w w' row h.lbx hg hr, h.que.own hg hr⟩
theorem CyMem.push {w5 : World} {v' : Value} {L2 : List Nat} (h : CyMem w pb db xb lb lo p n d lv L) (hg : w.grownBy w5 lv.ownBlock) (hq : QOwn lo v' L2 w5) : CyMem (w5.setCell ⟨lb, 0, none⟩ v') pb db xb lb lo p n d v' L2 := by
  have h1 := h.h1
  have h2 := h.h2
  have h3 := h.h3
  have h4 := h.h4
  have hn := h.que.not_box h.lbx (by decide)
  have hlo : ∀ b, lv.ownBlock = some b → lo ≤ b := fun b hb => (h.que.lt hb).1
  have e0 : w5.heap[pb]? = w.heap[pb]? := hg.block pb h.pbx.lt fun c => by have := hlo _ c.symm; omega
  have e1 : w5.heap[db]? = w.heap[db]? := hg.block db h.row.lt fun c => by have := hlo _ c.symm; omega
  have e2 : w5.heap[xb]? = w.heap[xb]? := hg.block xb h.box.lt fun c => by have := hlo _ c.symm; omega
  have e3 : w5.heap[lb]? = w.heap[lb]? := hg.block lb h.lbx.lt fun c => hn c.symm
  have hx5 : Boxed w5 lb 29 lv := e3.trans h.lbx
  have hn5 := hq.not_box hx5 (by decide)
  exact ⟨h.h1, h.h2, h.h3, h.h4, box_far (show Boxed w5 pb 3 _ from e0.trans h.pbx) (by show pb ≠ lb; omega) _, (h.row.of_block e1).setOther (by show db ≠ lb; omega) _, box_far (show Boxed w5 xb 29 _ from e2.trans h.box) (by show xb ≠ lb; omega) _, hx5.set v', hq.keep fun b hb => Below.heap_setCell _ _ _ _ (by show b ≠ lb; intro c; rw [c] at hb; exact hn5 hb)⟩
/-- a store into a box of a number -/
theorem CyMem.far (h : CyMem w pb db xb lb lo p n d lv L) {b : Nat} {u : Value} (hb : Boxed w b 3 u) (hp : b ≠ pb) (hd : b ≠ db) (v : Value) (hq : lv.ownBlock ≠ some b) : CyMem (w.setCell ⟨b, 0, none⟩ v) pb db xb lb lo p n d lv L := by
  refine h.keep fun c hc => Below.heap_setCell _ _ _ _ (fun e => ?_)
  have e : c = b := e
  subst e
  have hb : w.heap[c]? = _ := hb
  rcases hc with rfl | rfl | rfl | rfl | hc
  · exact hp rfl
  · exact hd rfl
  · have := h.box; rw [show w.heap[c]? = _ from this] at hb; simp at hb
  · have := h.lbx; rw [show w.heap[c]? = _ from this] at hb; simp at hb
  · exact hq hc
end
theorem QOwn.took {lo : Nat} {w w' : World} {base : Nat} {v : Value} {l : List Nat} (h : QOwn base v l w) (ht : Took lo w w') : QOwn base v l w' := by
  obtain ⟨g, off, cap, cur, rfl, h1, h2, h3⟩ := h
  exact ⟨g, off, cap, cur, rfl, h1, ht.same _ _ h2 (fun d e => by cases e), h3⟩
/-- how far it is still, as a world tells it -/
def mC (d : Nat → Int) (a : Act) (w : World) : Nat := match a.tmps.getD 12 undef with
  | .pointer (some ad) => match w.cell? ad with
    | some (.int _ z) => (d z.toNat).toNat
    | _ => 0
  | _ => 0
theorem mC_eq {d : Nat → Int} {a : Act} {w : World} {vb v : Nat} (h : a.tmps.getD 12 undef = .pointer (some ⟨vb, 0, none⟩)) (hb : Boxed w vb 3 (.int .i64 (v : Nat))) : mC d a w = (d v).toNat := by
  unfold mC
  rw [h]
  dsimp only
  rw [hb.cell]
  rfl
theorem QOwn.rd {w : World} {base : Nat} {v : Value} {l : List Nat} (h : QOwn base v l w) : RdI w w.heap.size v l := by
  obtain ⟨g, off, cap, cur, rfl, h1, h2, h3, h4, h5⟩ := h
  refine ⟨some ⟨g, off, none⟩, cap, fun i => (⟨g, off, none⟩ : Addr).add (i * 1), rfl, Rd.addr etI (fun _ => (Array.getElem?_eq_some_iff.1 h2).1) fun i hi j hj => ?_⟩
  obtain rfl : j = 0 := by omega
  rw [add_mk, Nat.mul_one, Nat.add_zero]
  unfold nums
  rw [intsN_nth]
  simp [World.cell?, h2, h4 i hi]
end Go.Proofs.Ytcpikabhcjkkmaa
