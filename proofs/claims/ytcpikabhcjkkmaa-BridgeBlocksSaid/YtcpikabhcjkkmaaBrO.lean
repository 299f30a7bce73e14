/- The walk of Blocks of package bridge. Conditions: the graph was made by New, or it is nil or zero. -/
import Derived.Test.YtcpikabhcjkkmaaBrQ
import Derived.Test.YtcpikabhcjkkmaaMe
namespace Go.Proofs.Ytcpikabhcjkkmaa
open Go.RowKit Go.Shelf Go.Maps
open Go.Sort hiding Below

/-- the blocks: increasing lists, by their first edges; each a class; all edges -/
structure BlkL (E : List Ed) (X : List (List Nat)) : Prop where
  cls : ∀ B, B ∈ X → B.Pairwise (· < ·) ∧ ∃ e, e ∈ B ∧ e < E.length ∧ ∀ f, f ∈ B ↔ NearC E e f
  ord : X.Pairwise fun B C => B.headD 0 < C.headD 0
  all : ∀ i, i < E.length → ∃ B, B ∈ X ∧ i ∈ B
theorem sortWorld_other {α : Type} [Inhabited α] (enc : α → Value) (w : World) (blk off n : Nat) (dk : Array α) (os : Array Obj) {k : Nat} (hk : k < w.heap.size) (hne : k ≠ blk) : (sortWorld enc w blk off n dk os).heap[k]? = w.heap[k]? := by
  unfold sortWorld
  have hs : (putRow enc (Sort.ahead w n) blk off dk).heap.size = w.heap.size := size_putRow _ _ _ _ _
  refine (Go.Sort.heap_grow_old _ os (by rw [hs]; omega)).trans ?_
  show (w.heap.modify blk _)[k]? = w.heap[k]?
  rw [Array.getElem?_modify, if_neg (fun c => hne c.symm)]
theorem sortWorld_sst {α : Type} [Inhabited α] (enc : α → Value) (w : World) (blk off n : Nat) (dk : Array α) (os : Array Obj) : Sst w (sortWorld enc w blk off n dk os) := by
  unfold sortWorld
  have hs : (putRow enc (Sort.ahead w n) blk off dk).heap.size = w.heap.size := size_putRow _ _ _ _ _
  refine ⟨rfl, rfl, rfl, ?_⟩
  show w.heap.size ≤ ((putRow enc (Sort.ahead w n) blk off dk).heap ++ os).size
  rw [Array.size_append]; omega
theorem sortWorld_holds {α : Type} [Inhabited α] (enc : α → Value) (w : World) (blk n : Nat) (d dk : Array α) (os : Array Obj) (hb : blk < w.heap.size) (hH : Holds enc w blk 0 d) (hs : dk.size = d.size) : Holds enc (sortWorld enc w blk 0 n dk os) blk 0 dk := by
  unfold sortWorld
  have hH' : Holds enc (Sort.ahead w n) blk 0 d := hH
  exact holds_grow enc _ os blk 0 _ (by rw [size_putRow]; exact hb) (holds_putRow enc (Sort.ahead w n) blk 0 d dk hH' hs)
theorem finRange_at {m j : Nat} [Inhabited (Fin m)] (hj : j < m) : ((List.finRange m).toArray)[j]! = (⟨j, hj⟩ : Fin m) := by
  rw [getElem!_pos _ j (by simpa using hj)]
  simp
set_option maxRecDepth 100000 in
set_option maxHeartbeats 1000000 in
theorem bkCmp_any (g1 l1 c1 g2 l2 c2 x1 x2 : Nat) (W : World) (h1 : 0 < l1) (h2 : 0 < l2) (k1 : W.cell? ⟨g1, 0, none⟩ = some (.int .i64 (x1 : Nat))) (k2 : W.cell? ⟨g2, 0, none⟩ = some (.int .i64 (x2 : Nat))) (b1 : x1 ≤ 16384) (b2 : x2 ≤ 16384) :
    Calls Try.prog 52 #[.slice (some ⟨g1, 0, none⟩) l1 c1, .slice (some ⟨g2, 0, none⟩) l2 c2] W fun e w' => e = .returned (.int .i64 ((x1 : Int) - (x2 : Int))) ∧ ∃ q, w' = W.drewN q := by
  have i1 : (0 : Int) ≤ 0 ∧ (0 : Int) < l1 := by omega
  have i2 : (0 : Int) ≤ 0 ∧ (0 : Int) < l2 := by omega
  go_enter Try.func52, Try.ntmps52
  go_wp2_with fail
  go_quiet (fail)
  go_wp2_with fail
  go_ret
  exact ⟨rfl, _, rfl⟩
theorem nearC_lt {E : List Ed} {a b : Nat} (h : NearC E a b) (ha : a < E.length) : b < E.length := by
  cases h with
  | refl => exact ha
  | step _ k => exact k.2.1
theorem headD_mem {l : List Nat} (h : 0 < l.length) : l.headD 0 ∈ l := by
  cases l with
  | nil => simp at h
  | cons a l => simp
/-- the blocks that the search leaves, in the order of their first edges -/
theorem blk_sorted {E : List Ed} {Bs : List (List Nat)} (h1 : ∀ B, B ∈ Bs → B.Nodup ∧ ∃ e, e ∈ B ∧ e < E.length ∧ ∀ f, f ∈ B ↔ NearC E e f) (h3 : ∀ i, i < E.length → ∃ B, B ∈ Bs ∧ i ∈ B)
    {L : List (Fin Bs.length)} (hp : L.Perm (List.finRange Bs.length)) (hs : L.Pairwise fun x y => (srtN Bs[x]).headD 0 < (srtN Bs[y]).headD 0) : BlkL E (L.map fun x => srtN Bs[x]) := by
  refine ⟨fun B hB => ?_, ?_, fun i hi => ?_⟩
  · obtain ⟨x, _, rfl⟩ := List.mem_map.1 hB
    obtain ⟨k1, e, k2, k3, k4⟩ := h1 Bs[x] (List.getElem_mem x.isLt)
    exact ⟨srtN_lt k1, e, (srtN_perm _).mem_iff.2 k2, k3, fun f => by rw [(srtN_perm _).mem_iff]; exact k4 f⟩
  · rw [List.pairwise_map]; exact hs
  · obtain ⟨B, hB, hiB⟩ := h3 i hi
    obtain ⟨k, hk, rfl⟩ := List.getElem_of_mem hB
    exact ⟨srtN Bs[k], List.mem_map.2 ⟨⟨k, hk⟩, hp.mem_iff.2 (List.mem_finRange _), rfl⟩, (srtN_perm _).mem_iff.2 hiB⟩
theorem getD0 (l : List Nat) : l.getD 0 0 = l.headD 0 := by cases l <;> rfl
/-- what Blocks answers -/
def BkRes (E : List Ed) (w : World) (e : Ending) (w' : World) : Prop := ∃ v X, e = .returned v ∧ BlkL E X ∧ BMem w' w'.heap.size v X ∧ Below w.heap.size w w'
set_option maxRecDepth 100000 in
set_option maxHeartbeats 2000000 in
theorem sortRows_any {E : List Ed} (lo ob kb base : Nat) (O : List Nat) (Bs : List (List Nat)) (L0 : List Nat) (w : World) (ov kv : Value) (Vs : List Value) (h : BlK lo ob kb O Bs L0 w ov kv Vs) (hm : Bs.length ≤ 16384) (hE : E.length ≤ 16384) (hb : base ≤ lo)
    (h1 : ∀ B, B ∈ Bs → B.Nodup ∧ ∃ e, e ∈ B ∧ e < E.length ∧ ∀ f, f ∈ B ↔ NearC E e f) (h2 : Bs.Pairwise fun B B' => ∀ i, i ∈ B → i ∉ B') (h3 : ∀ i, i < E.length → ∃ B, B ∈ Bs ∧ i ∈ B) (hlt : ∀ B, B ∈ Bs → ∀ i, i ∈ B → i < E.length) :
    Calls Try.prog 51 #[kv, .func (.func 52) #[] #[]] w fun e w' => e = .returned (.tuple #[]) ∧ (∃ X, BlkL E X ∧ BMem w' w'.heap.size kv X) ∧ Below base w w' ∧ w'.heap[kb]? = w.heap[kb]? := by
  have hlen := h.len
  rcases Nat.eq_zero_or_pos Bs.length with h0 | hp
  · have hnil : Bs = [] := List.eq_nil_of_length_eq_zero h0
    have hv0 : Vs.length = 0 := by omega
    obtain ⟨a, cap, rfl⟩ : ∃ a cap, kv = .slice a 0 cap := by
      rcases h.ok.2 with ⟨e1, _⟩ | ⟨g, cap, cur, e1, _⟩
      · exact ⟨none, 0, e1⟩
      · exact ⟨_, cap, by rw [e1, hv0]⟩
    refine (AnyF.slices_SortFunc_none { Try.sortRowsA with } a cap _ w).mono ?_
    rintro e w' ⟨rfl, rfl⟩
    refine ⟨rfl, ⟨[], ⟨fun B hB => absurd hB (by simp), List.Pairwise.nil, fun i hi => ?_⟩, a, cap, fun _ => ⟨0, 0, none⟩, fun _ => .bool false, rfl, Rd.nil _, fun i hi => absurd hi (by simp)⟩, Below.refl _ _, rfl⟩
    obtain ⟨B, hB, _⟩ := h3 i hi
    rw [hnil] at hB; exact absurd hB (by simp)
  · haveI : Inhabited (Fin Bs.length) := ⟨⟨0, hp⟩⟩
    obtain ⟨gk, ck, cur, rfl, hgk, hcur, hck, -⟩ : ∃ g cap cur, kv = .slice (some ⟨g, 0, none⟩) Vs.length cap ∧ lo ≤ g ∧ w.heap[g]? = some (.cells cur 29 (0, 0)) ∧ Vs.length ≤ cap ∧ True := by
      rcases h.ok.2 with ⟨_, e2⟩ | ⟨g, cap, cur, e1, e2, e3, e4, _⟩
      · omega
      · exact ⟨g, cap, cur, e1, e2, e3, e4, trivial⟩
    have hgw : gk < w.heap.size := (Array.getElem?_eq_some_iff.1 hcur).1
    have hrow := Row.owned h.ok
    obtain ⟨enc, henc⟩ : ∃ enc : Fin Bs.length → Value, enc = fun x => Vs.getD x.val (.bool false) := ⟨_, rfl⟩
    have rows : ∀ x : Fin Bs.length, ∃ g c, enc x = .slice (some ⟨g, 0, none⟩) (srtN Bs[x]).length c ∧ lo ≤ g ∧ g < w.heap.size ∧ g ≠ gk ∧ g ≠ kb ∧ Row w g (srtN Bs[x]).length (fun j => .int .i64 ((srtN Bs[x]).getD j 0 : Nat)) ∧ (srtN Bs[x]).length ≤ c := fun x => by
      obtain ⟨g, c, e1, e2, hcc, e3⟩ := h.rows x.val x.isLt
      have e4 : Bs.getD x.val [] = Bs[x] := by simp [List.getD]
      rw [e4] at e1 e3 hcc
      have h5 := h.sep x.val g x.isLt (by rw [e1]; rfl)
      have := h.l2
      refine ⟨g, c, by rw [henc]; exact e1, e2, e3.lt, fun c => h5.2 (by rw [c]; rfl), by omega, e3, hcc⟩
    have hne : ∀ x : Fin Bs.length, 0 < (srtN Bs[x]).length := fun x => by
      obtain ⟨_, e, k2, _⟩ := h1 Bs[x] (List.getElem_mem x.isLt)
      rw [srtN_len]
      exact List.length_pos_of_mem k2
    obtain ⟨fst, hfst⟩ : ∃ fst : Fin Bs.length → Nat, fst = fun x => (srtN Bs[x]).headD 0 := ⟨_, rfl⟩
    have fmem : ∀ x, fst x ∈ Bs[x] := fun x => by rw [hfst]; exact (srtN_perm _).mem_iff.1 (headD_mem (hne x))
    have finj : ∀ x y, fst x = fst y → x = y := fun x y hxy => by
      have a1 := fmem x
      have a2 := fmem y
      rw [hxy] at a1
      rcases Nat.lt_trichotomy x.val y.val with c | c | c
      · exact absurd a2 (List.pairwise_iff_getElem.1 h2 x.val y.val x.isLt y.isLt c _ a1)
      · exact Fin.ext c
      · exact absurd a1 (List.pairwise_iff_getElem.1 h2 y.val x.val y.isLt x.isLt c _ a2)
    have fb : ∀ x, fst x ≤ 16384 := fun x => by have := hlt Bs[x] (List.getElem_mem x.isLt) _ (fmem x); omega
    have hlt2 : ∀ x y : Fin Bs.length, ltOf (fun x y : Fin Bs.length => (fst x : Int) - fst y) x y = decide (fst x < fst y) := fun x y => by
      unfold ltOf
      rw [Bool.eq_iff_iff]
      simp only [decide_eq_true_eq]
      omega
    have hO : SWO (ltOf (fun x y : Fin Bs.length => (fst x : Int) - fst y)) := {
      irrefl := fun x => by rw [hlt2]; exact decide_eq_false (by omega)
      trans := fun x y z h1 h2 => by rw [hlt2] at *; simp at *; omega
      ntrans := fun x y z h1 h2 => by rw [hlt2] at *; simp only [decide_eq_false_iff_not] at *; omega }
    have hT : ∀ x y : Fin Bs.length, ltOf (fun x y : Fin Bs.length => (fst x : Int) - fst y) x y = false → ltOf (fun x y : Fin Bs.length => (fst x : Int) - fst y) y x = false → x = y := fun x y h1 h2 => by
      rw [hlt2] at h1 h2
      simp only [decide_eq_false_iff_not] at h1 h2
      exact finj x y (by omega)
    have hH : Holds enc w gk 0 (List.finRange Bs.length).toArray := fun j hj => by
      have hj' : j < Bs.length := by simpa using hj
      rw [finRange_at hj', Nat.zero_add, henc]
      refine ⟨?_, hrow.frozen j⟩
      rw [hrow.cell (by omega)]
      have hjv : j < Vs.length := by omega
      simp [List.getD, hjv]
    have hoc : OneCell enc := fun x => by obtain ⟨g, c, e1, _⟩ := rows x; rw [e1]; rfl
    have hcmp : CmpLays1 Try.prog 52 #[] enc (fun x y : Fin Bs.length => (fst x : Int) - fst y) gk 0 (List.finRange Bs.length).toArray.size w := fun k os dk _ x y => by
      obtain ⟨g1, c1, e1, -, l1, n1, -, r1, -⟩ := rows x
      obtain ⟨g2, c2, e2, -, l2, n2, -, r2, -⟩ := rows y
      rw [e1, e2]
      have q1 := (r1.of_block (sortWorld_other enc w gk 0 k dk os l1 n1)).cell (i := 0) (hne x)
      have q2 := (r2.of_block (sortWorld_other enc w gk 0 k dk os l2 n2)).cell (i := 0) (hne y)
      have f1 : (srtN Bs[x]).getD 0 0 = fst x := by rw [hfst]; exact getD0 _
      have f2 : (srtN Bs[y]).getD 0 0 = fst y := by rw [hfst]; exact getD0 _
      rw [f1] at q1; rw [f2] at q2
      refine (bkCmp_any g1 _ c1 g2 _ c2 (fst x) (fst y) _ (hne x) (hne y) q1 q2 (fb x) (fb y)).mono ?_
      rintro e w' ⟨rfl, q, rfl⟩
      exact ⟨rfl, q, #[], by rw [grow_empty]⟩
    have eg : ∀ args w, (callFunc 52 args).run Try.prog w = .ok (.enter 52 args) w := enters_of Try.func52 (by kernel_rfl) rfl
    have hsz : (List.finRange Bs.length).toArray.size = Bs.length := by simp
    have hcon := Any.slices_SortFunc_total Try.sortRowsA enc hoc _ hO 52 #[] gk 0 ck (List.finRange Bs.length).toArray w eg hcmp hH hgw (by rw [hsz]; omega) hT
    rw [hsz] at hcon
    rw [hlen]
    refine Calls.mono hcon ?_
    rintro e w' ⟨rfl, n, os, rfl⟩
    generalize hL : ((List.finRange Bs.length).toArray.toList.mergeSort fun x y => !ltOf (fun x y : Fin Bs.length => (fst x : Int) - fst y) y x) = L
    have hperm : L.Perm (List.finRange Bs.length) := by rw [← hL]; exact List.mergeSort_perm _ _
    have hLl : L.length = Bs.length := by rw [hperm.length_eq, List.length_finRange]
    have hsort : L.Pairwise (fun x y => fst x ≤ fst y) := by
      have : L.Pairwise (fun x y => (!ltOf (fun x y : Fin Bs.length => (fst x : Int) - fst y) y x) = true) := by
        rw [← hL]
        refine List.pairwise_mergeSort (fun x y z h1 h2 => ?_) (fun x y => ?_) _
        · rw [hlt2] at *
          simp only [Bool.not_eq_true', decide_eq_false_iff_not] at *
          omega
        · rw [hlt2, hlt2]
          simp only [Bool.or_eq_true, Bool.not_eq_true', decide_eq_false_iff_not]
          omega
      refine this.imp fun {x y} hh => ?_
      rw [hlt2] at hh
      simp only [Bool.not_eq_true', decide_eq_false_iff_not] at hh
      omega
    have hnd : L.Nodup := hperm.nodup_iff.2 (by
      refine List.pairwise_iff_getElem.2 fun i j hi hj hij => ?_
      simp only [List.getElem_finRange]
      intro h
      have := congrArg Fin.val h
      simp at this
      omega)
    have hX := blk_sorted h1 h3 hperm ((hsort.and hnd).imp fun {x y} hh => by
      have h5 : fst x ≠ fst y := fun c => hh.2 (finj x y c)
      have h6 := hh.1
      rw [hfst] at h5 h6
      dsimp only at h5 h6
      omega)
    have hH2 := sortWorld_holds enc w gk n _ L.toArray os hgw hH (by simp [hLl])
    have hst := sortWorld_sst enc w gk 0 n L.toArray os
    have hbl := h.l2
    refine ⟨rfl, ⟨_, hX, ?_⟩, ⟨hst.os, hst.tape, hst.output, hst.size, fun k hk => sortWorld_other enc w gk 0 n L.toArray os (by omega) (by omega)⟩, sortWorld_other enc w gk 0 n L.toArray os h.bk.lt (by omega)⟩
    refine ⟨some ⟨gk, 0, none⟩, ck, fun i => (⟨gk, 0, none⟩ : Addr).add (i * 1), fun i => enc (L.toArray[i]!), by rw [List.length_map, hLl], ?_, fun i hi => ?_⟩
    · rw [List.length_map, hLl]
      refine Rd.addr etRw (fun _ => Nat.lt_of_lt_of_le hgw hst.size) fun i hi j hj => ?_
      obtain rfl : j = 0 := by omega
      have h5 := (hH2 i (by simp; omega)).1
      rw [Nat.zero_add] at h5
      rw [add_mk, Nat.mul_one, Nat.add_zero, Nat.zero_add]
      exact h5
    · rw [List.length_map] at hi
      have hi2 : L.toArray[i]! = L[i] := by rw [getElem!_pos _ i (by simpa using hi)]; simp
      have hi3 : (L.map fun x => srtN Bs[x]).getD i [] = srtN Bs[L[i]] := by simp [List.getD, hi]
      rw [hi3]
      dsimp only
      rw [hi2]
      obtain ⟨g1, c1, e1, -, l1, n1, -, r1, hc1⟩ := rows L[i]
      rw [e1]
      have r2 := r1.of_block (sortWorld_other enc w gk 0 n L.toArray os l1 n1)
      refine ⟨⟨_, c1, fun j => (⟨g1, 0, none⟩ : Addr).add (j * 1), rfl, Rd.addr etI (fun _ => r2.lt) fun j hj jj hjj => ?_⟩, ⟨_, c1, rfl, hc1⟩⟩
      obtain rfl : jj = 0 := by omega
      rw [add_mk, Nat.mul_one, Nat.add_zero, Nat.zero_add, r2.cell hj]
      unfold nums
      rw [intsN_nth]
set_option maxRecDepth 100000 in
set_option maxHeartbeats 1000000 in
theorem blocks_any (B : Nat) (g : Option Addr) (n : Nat) (E : List Ed) (o : Option (Nat × List Ed)) (ho : o = some (n, E) ∨ o = none ∧ n = 0 ∧ E = []) (w : World) (h : GV w B (.pointer g) o) (hB : B ≤ w.heap.size) :
    Calls Try.prog 22 #[.pointer g] w (BkRes E w) := by
  have G : GOk n E := by
    rcases ho with rfl | ⟨rfl, rfl, rfl⟩
    · exact h.good
    · exact ⟨by decide, by decide, fun i hi => absurd hi (by simp)⟩
  have hb2 : Below w.heap.size w ((w.alloc (.cells #[.slice none 0 0] 33)).alloc (.cells #[.slice none 0 0] 29)) := ((Below.refl _ w).alloc (Nat.le_refl _) _).alloc (by simp) _
  have h1 : BlC (w.heap.size + 2) (w.heap.size + 1) w.heap.size [] [w.heap.size + 1, w.heap.size] ((w.alloc (.cells #[.slice none 0 0] 33)).alloc (.cells #[.slice none 0 0] 29)) := by
    have r2 := row_one (w.alloc (.cells #[.slice none 0 0] 33)) (.slice none 0 0) 29
    rw [World.size_alloc] at r2
    exact ⟨.slice none 0 0, .slice none 0 0, [], by omega, by omega, by omega, by simp, r2, World.ownsRow_nil _ _ _ _, (row_one w _ _).alloc _, World.ownsRow_nil _ _ _ _, rfl, fun i hi => absurd hi (by simp [bkS]), fun i g hi => absurd hi (by simp [bkS]), rfl⟩
  have HSr := Lib.hid (search_any B g n E o ho _ (h.below (hb2.mono hB)) (Nat.le_trans hB hb2.size) _ _ _ _ _ (bkClt G (w.heap.size + 2) (w.heap.size + 1) w.heap.size) _ h1)
  have HB2 := Lib.hid hb2
  clear h1 h ho hb2
  go_enter Try.func22, Try.ntmps22
  go_wp2_with fail
  refine HSr.out.mono ?_
  clear HSr
  rintro e w2 ⟨⟨r, rfl⟩, s, evs, L, D, ⟨ov, kv, Vs, hK⟩, hO⟩
  have B2 := Lib.hid (HB2.out.trans (hO.below (B := w.heap.size) (by simp only [World.size_alloc]; omega) (fun b hb => by simp at hb; omega)))
  obtain ⟨d1, d2, d3⟩ := D.blk G
  have hm := G.m_le
  have HR := Lib.hid hK.bk
  have ckb := hK.bk.cell (i := 0) (by omega)
  have hbl : (bkS evs).2.length ≤ 16384 := by
    have hh : ((bkS evs).2.map fun D => D.headD 0).Nodup := by
      rw [List.Nodup, List.pairwise_map]
      refine (d2.imp_of_mem fun {D D'} hD hD' hd c => ?_)
      have hne : ∀ D, D ∈ (bkS evs).2 → D.headD 0 ∈ D := fun D hD => by
        obtain ⟨_, e0, he0, -⟩ := d1 D hD
        exact headD_mem (List.length_pos_of_mem he0)
      exact hd _ (hne D hD) (by rw [c]; exact hne D' hD')
    have := nodup_lt (m := E.length) hh fun x hx => by
      obtain ⟨D', hD, rfl⟩ := List.mem_map.1 hx
      obtain ⟨_, e0, he0, hel, hcl⟩ := d1 D' hD
      have hmem := headD_mem (List.length_pos_of_mem he0)
      exact nearC_lt ((hcl _).1 hmem) hel
    simp only [List.length_map] at this
    omega
  have HSo := Lib.hid (sortRows_any (E := E) (w.heap.size + 2) (w.heap.size + 1) w.heap.size w.heap.size (bkS evs).1 (bkS evs).2 L w2 ov kv Vs hK hbl hm (by omega) d1 d2 d3 fun B hB i hi => by
    obtain ⟨_, e0, he0, hel, hcl⟩ := d1 B hB
    exact nearC_lt ((hcl i).1 hi) hel)
  clear hK hO D d1 d2 d3 HB2
  go_wp2_with fail
  refine HSo.out.mono ?_
  clear HSo
  rintro e w3 ⟨rfl, ⟨X, hX, hM⟩, hb3, hk3⟩
  have ckb3 := (HR.out.of_block hk3).cell (i := 0) (by omega)
  have B3 := Lib.hid (B2.out.trans hb3)
  have HX := Lib.hid hX
  have HM := Lib.hid hM
  clear hX hM hb3 hk3 HR B2 ckb
  go_wp2_with fail
  go_ret
  exact ⟨kv, X, rfl, HX.out, HM.out, B3.out⟩
end Go.Proofs.Ytcpikabhcjkkmaa
