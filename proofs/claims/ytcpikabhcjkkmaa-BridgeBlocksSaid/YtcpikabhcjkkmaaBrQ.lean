/- The walks of the functions that Blocks of package bridge hands to the search. Conditions: numbers in range. -/
import Derived.Test.YtcpikabhcjkkmaaBrP
import Derived.Test.YtcpikabhcjkkmaaMe
namespace Go.Proofs.Ytcpikabhcjkkmaa
open Go.RowKit Go.Shelf

section
variable {n : Nat} {E : List Ed} {s : Dfs} {evs : List Ev}
theorem Run.open_lt (G : GOk n E) (h : Run n E s evs) : (bkS evs).1.length ≤ E.length ∧ (bkS evs).1.Nodup := by
  obtain ⟨-, h2, h3, -, -, -⟩ := h.blk G
  exact ⟨nodup_lt h3 fun x hx => ((h.inv G).ml x ((h2 x).2 (.inl hx))).1, h3⟩
theorem Run.leave_open (G : GOk n E) (h : Run n E s evs) : ∀ evs0 u v e a b, evs = evs0 ++ [.leave u v e a b] → (b = false → e ∈ (bkS evs0).1) ∧ (bkS evs0).1.Nodup ∧ (bkS evs0).1.length ≤ E.length ∧ (bkS evs0).2.length ≤ E.length := by
  induction h with
  | start => intro evs0 u v e a b hh; simp at hh
  | root _ _ _ _ _ ih => exact ih
  | skip _ _ _ _ ih => exact ih
  | down _ _ _ _ _ ih => intro evs0 u v e a b hh; have := List.append_inj_right' hh rfl; simp at this
  | back _ _ _ _ _ ih => intro evs0 u v e a b hh; have := List.append_inj_right' hh rfl; simp at this
  | @up s evs p q r h' hs hn ih =>
    intro evs0 u v e a b hh
    obtain rfl := List.append_inj_left' hh rfl
    have h2 := List.append_inj_right' hh rfl
    simp only [List.cons.injEq, Ev.leave.injEq, and_true] at h2
    obtain ⟨rfl, rfl, rfl, rfl, rfl⟩ := h2
    obtain ⟨k1, k2⟩ := h'.open_lt G
    obtain ⟨m1, m2, m3, m4, m5, m6⟩ := h'.blk G
    rw [hs] at m1
    obtain ⟨A, B, e1, -⟩ := m1
    refine ⟨fun _ => by rw [e1]; simp, k2, k1, ?_⟩
    -- as many blocks as first members
    have : ((bkS evs).2.map fun D => D.headD 0).Nodup := by
      rw [List.Nodup, List.pairwise_map]
      refine (m6.imp_of_mem fun {D D'} hD hD' hd c => ?_)
      have hne : ∀ D, D ∈ (bkS evs).2 → D.headD 0 ∈ D := fun D hD => by
        obtain ⟨_, e0, he0, -⟩ := m5 D hD
        cases D with
        | nil => exact absurd he0 (by simp)
        | cons x D => simp
      exact hd _ (hne D hD) (by rw [c]; exact hne D' hD')
    have h3 := nodup_lt (m := E.length) this fun x hx => by
      obtain ⟨D, hD, rfl⟩ := List.mem_map.1 hx
      obtain ⟨_, e0, he0, -⟩ := m5 D hD
      have : D.headD 0 ∈ D := by
        cases D with
        | nil => exact absurd he0 (by simp)
        | cons x D => simp
      exact ((h'.inv G).ml _ ((m2 _).2 (.inr ⟨D, hD, this⟩))).1
    simpa using h3
  | out _ _ _ ih => exact ih
end
/-- rows that hold lists, told one after the other -/
def BRow (w : World) (lo : Nat) (V : Value) (l : List Nat) : Prop := ∃ g cap, V = .slice (some ⟨g, 0, none⟩) l.length cap ∧ lo ≤ g ∧ l.length ≤ cap ∧ Row w g l.length (fun j => .int .i64 (l.getD j 0 : Nat))
/-- what Blocks holds while it searches: the open edges, the blocks, and their boxes -/
structure BlK (lo ob kb : Nat) (O : List Nat) (Bs : List (List Nat)) (L : List Nat) (w : World) (ov kv : Value) (Vs : List Value) : Prop where
  l1 : ob < lo
  l2 : kb < lo
  hne : ob ≠ kb
  sz : lo ≤ w.heap.size
  bo : Row w ob 1 (fun _ => ov)
  oo : OwnI lo ov O w
  bk : Row w kb 1 (fun _ => kv)
  ok : w.ownsRow lo 29 1 kv Vs.length Vs
  len : Vs.length = Bs.length
  rows : ∀ i, i < Bs.length → BRow w lo (Vs.getD i (.bool false)) (srtN (Bs.getD i []))
  sep : ∀ i g, i < Bs.length → (Vs.getD i (.bool false)).ownBlock = some g → ov.ownBlock ≠ some g ∧ kv.ownBlock ≠ some g
  eqL : L = ob :: kb :: (ov.ownBlock.toList ++ kv.ownBlock.toList ++ Vs.filterMap (·.ownBlock))
def BlC (lo ob kb : Nat) (evs : List Ev) (L : List Nat) (w : World) : Prop := ∃ ov kv Vs, BlK lo ob kb (bkS evs).1 (bkS evs).2 L w ov kv Vs
theorem own_types {w : World} {lo n m : Nat} {v v' : Value} {xs ys : List Value} {t t' : TypeId} (h : w.ownsRow lo t 1 v n xs) (h' : w.ownsRow lo t' 1 v' m ys) (ht : t ≠ t') {g : Nat} (hg : v.ownBlock = some g) : v'.ownBlock ≠ some g := by
  intro hg'
  rcases h.2 with ⟨e1, _⟩ | ⟨g1, c1, cur1, e1, _, e3, _⟩
  · rw [e1] at hg; cases hg
  · rcases h'.2 with ⟨f1, _⟩ | ⟨g2, c2, cur2, f1, _, f3, _⟩
    · rw [f1] at hg'; cases hg'
    · rw [e1] at hg; rw [f1] at hg'
      have a1 : g1 = g := Option.some.inj hg
      have a2 : g2 = g := Option.some.inj hg'
      subst a1; subst a2
      rw [e3] at f3
      simp at f3
      exact ht f3.2
section
variable {lo ob kb : Nat} {O : List Nat} {Bs : List (List Nat)} {L : List Nat} {w w' : World} {ov kv : Value} {Vs : List Value}
theorem BRow.blk {V : Value} {l : List Nat} (h : BRow w lo V l) : ∃ g, V.ownBlock = some g ∧ lo ≤ g ∧ g < w.heap.size := by
  obtain ⟨g, cap, rfl, h1, -, h2⟩ := h
  exact ⟨g, rfl, h1, h2.lt⟩
theorem BRow.keep {V : Value} {l : List Nat} (h : BRow w lo V l) (hk : ∀ g, V.ownBlock = some g → w'.heap[g]? = w.heap[g]?) : BRow w' lo V l := by
  obtain ⟨g, cap, rfl, h1, hc, h2⟩ := h
  exact ⟨g, cap, rfl, h1, hc, h2.of_block (hk g rfl)⟩
theorem BlK.memL (h : BlK lo ob kb O Bs L w ov kv Vs) {b : Nat} : b ∈ L ↔ b = ob ∨ b = kb ∨ ov.ownBlock = some b ∨ kv.ownBlock = some b ∨ ∃ i, i < Bs.length ∧ (Vs.getD i (.bool false)).ownBlock = some b := by
  rw [h.eqL]
  simp only [List.mem_cons, List.mem_append, Option.mem_toList, List.mem_filterMap, or_assoc]
  have : (∃ a, a ∈ Vs ∧ a.ownBlock = some b) ↔ ∃ i, i < Bs.length ∧ (Vs.getD i (.bool false)).ownBlock = some b := by
    constructor
    · rintro ⟨a, ha, hb⟩
      obtain ⟨i, hi, e⟩ := List.getElem_of_mem ha
      exact ⟨i, by rw [← h.len]; exact hi, by simp [List.getD, hi, e, hb]⟩
    · rintro ⟨i, hi, hb⟩
      have hi' : i < Vs.length := by rw [h.len]; exact hi
      refine ⟨Vs[i], List.getElem_mem hi', ?_⟩
      simpa [List.getD, hi'] using hb
  rw [this]
theorem BlK.lt (h : BlK lo ob kb O Bs L w ov kv Vs) {b : Nat} (hb : b ∈ L) : b < w.heap.size := by
  rcases h.memL.1 hb with rfl | rfl | hb | hb | ⟨i, hi, hb⟩
  · exact h.bo.lt
  · exact h.bk.lt
  · exact (World.ownsRow.lt h.oo b hb).2
  · exact (World.ownsRow.lt h.ok b hb).2
  · obtain ⟨g, h1, _, h2⟩ := (h.rows i hi).blk
    rw [h1] at hb; cases hb; exact h2
theorem own_keep {base size k : Nat} {e : TypeId} {v : Value} {xs : List Value} (h : w.ownsRow base e size v k xs) (hk : ∀ g, v.ownBlock = some g → w'.heap[g]? = w.heap[g]?) : w'.ownsRow base e size v k xs := by
  refine ⟨h.1, h.2.imp id ?_⟩
  rintro ⟨g, cap, cur, e1, e2, e3, e4⟩
  exact ⟨g, cap, cur, e1, e2, (hk g (by rw [e1]; rfl)).trans e3, e4⟩
theorem BlK.keep (h : BlK lo ob kb O Bs L w ov kv Vs) (hz : w.heap.size ≤ w'.heap.size) (hk : ∀ b, b ∈ L → w'.heap[b]? = w.heap[b]?) : BlK lo ob kb O Bs L w' ov kv Vs :=
  ⟨h.l1, h.l2, h.hne, Nat.le_trans h.sz hz, h.bo.of_block (hk _ (h.memL.2 (.inl rfl))), own_keep h.oo fun g hg => hk g (h.memL.2 (.inr (.inr (.inl hg)))), h.bk.of_block (hk _ (h.memL.2 (.inr (.inl rfl)))), own_keep h.ok fun g hg => hk g (h.memL.2 (.inr (.inr (.inr (.inl hg))))), h.len,
    fun i hi => (h.rows i hi).keep fun g hg => hk g (h.memL.2 (.inr (.inr (.inr (.inr ⟨i, hi, hg⟩))))), h.sep, h.eqL⟩
/-- the open edges have another slice -/
theorem BlK.newO {O' : List Nat} {ov' : Value} (h : BlK lo ob kb O Bs L w ov kv Vs) (hz : w.heap.size ≤ w'.heap.size) (hs : ∀ k, (k < lo → k ≠ ob → w'.heap[k]? = w.heap[k]?) ∧ (lo ≤ k → k < w.heap.size → ov.ownBlock ≠ some k → w'.heap[k]? = w.heap[k]?))
    (hb : Row w' ob 1 (fun _ => ov')) (ho : OwnI lo ov' O' w') (hn : ∀ g, ov'.ownBlock = some g → ov.ownBlock = some g ∨ w.heap.size ≤ g) : BlK lo ob kb O' Bs (ob :: kb :: (ov'.ownBlock.toList ++ kv.ownBlock.toList ++ Vs.filterMap (·.ownBlock))) w' ov' kv Vs := by
  refine ⟨h.l1, h.l2, h.hne, Nat.le_trans h.sz hz, hb, ho, h.bk.of_block ((hs kb).1 h.l2 (fun c => h.hne c.symm)), own_keep h.ok fun g hg => ?_, h.len, fun i hi => (h.rows i hi).keep fun g hg => ?_, fun i g hi hg => ⟨fun c => ?_, (h.sep i g hi hg).2⟩, rfl⟩
  · have := World.ownsRow.lt h.ok g hg
    exact (hs g).2 this.1 this.2 fun c => own_types h.oo h.ok (by decide) c hg
  · obtain ⟨g', h1, h2, h3⟩ := (h.rows i hi).blk
    rw [hg] at h1; cases h1
    exact (hs g).2 h2 h3 (h.sep i g hi hg).1
  · rcases hn g c with d | d
    · exact (h.sep i g hi hg).1 d
    · obtain ⟨g', h1, h2, h3⟩ := (h.rows i hi).blk
      rw [hg] at h1; cases h1; omega
/-- one block more -/
theorem BlK.newB {D : List Nat} {V kv' : Value} (h : BlK lo ob kb O Bs L w ov kv Vs) (hz : w.heap.size ≤ w'.heap.size) (hr : BRow w lo V (srtN D)) (hov : ∀ g, V.ownBlock = some g → ov.ownBlock ≠ some g ∧ kv.ownBlock ≠ some g) (hs : ∀ k, k ≠ kb → k < w.heap.size → kv.ownBlock ≠ some k → w'.heap[k]? = w.heap[k]?)
    (hb : Row w' kb 1 (fun _ => kv')) (ho : w'.ownsRow lo 29 1 kv' (Vs.length + 1) (Vs ++ [V])) (hn : ∀ g, kv'.ownBlock = some g → kv.ownBlock = some g ∨ w.heap.size ≤ g) : BlK lo ob kb O (Bs ++ [D]) (ob :: kb :: (ov.ownBlock.toList ++ kv'.ownBlock.toList ++ (Vs ++ [V]).filterMap (·.ownBlock))) w' ov kv' (Vs ++ [V]) := by
  have hlo : ∀ g, kv.ownBlock = some g → lo ≤ g := fun g hg => (World.ownsRow.lt h.ok g hg).1
  have hkl := h.l2
  have hol := h.l1
  have hlen := h.len
  have row : ∀ i, i < (Bs ++ [D]).length → BRow w lo ((Vs ++ [V]).getD i (.bool false)) (srtN ((Bs ++ [D]).getD i [])) ∧ ∀ g, ((Vs ++ [V]).getD i (.bool false)).ownBlock = some g → ov.ownBlock ≠ some g ∧ kv.ownBlock ≠ some g := fun i hi => by
    rw [List.length_append, List.length_singleton] at hi
    by_cases c : i < Bs.length
    · have e1 : (Vs ++ [V]).getD i (.bool false) = Vs.getD i (.bool false) := by rw [List.getD_eq_getElem?_getD, List.getElem?_append_left (by omega), List.getD_eq_getElem?_getD]
      have e2 : (Bs ++ [D]).getD i [] = Bs.getD i [] := by rw [List.getD_eq_getElem?_getD, List.getElem?_append_left c, List.getD_eq_getElem?_getD]
      rw [e1, e2]
      exact ⟨h.rows i c, fun g hg => h.sep i g c hg⟩
    · have e0 : i = Bs.length := by omega
      have e1 : (Vs ++ [V]).getD i (.bool false) = V := by rw [e0, ← hlen]; simp [List.getD]
      have e2 : (Bs ++ [D]).getD i [] = D := by rw [e0]; simp [List.getD]
      rw [e1, e2]
      exact ⟨hr, hov⟩
  refine ⟨h.l1, h.l2, h.hne, Nat.le_trans h.sz hz, h.bo.of_block (hs ob h.hne h.bo.lt fun c => by have := hlo _ c; omega), own_keep h.oo fun g hg => hs g (fun c => ?_) (World.ownsRow.lt h.oo g hg).2 fun c => own_types h.oo h.ok (by decide) hg c, hb, by rw [List.length_append]; exact ho, by rw [List.length_append, List.length_append, hlen]; rfl, fun i hi => ?_, fun i g hi hg => ⟨((row i hi).2 g hg).1, fun c => ?_⟩, rfl⟩
  · have := (World.ownsRow.lt h.oo g hg).1; omega
  · refine (row i hi).1.keep fun g hg => ?_
    obtain ⟨g', h1, h2, h3⟩ := (row i hi).1.blk
    rw [hg] at h1; cases h1
    exact hs g (by omega) h3 ((row i hi).2 g hg).2
  · rcases hn g c with d | d
    · exact ((row i hi).2 g hg).2 d
    · obtain ⟨g', h1, h2, h3⟩ := (row i hi).1.blk
      rw [hg] at h1; cases h1; omega
end
theorem Try.infoRw : (Try.prog.info? 29).map (fun i => (i.zero, i.size, i.bytes)) = some (some (.slice none 0 0), 1, 24) := by kernel_rfl
theorem etRw : ET 33 29 1 24 := ET.of Try.underlying33 Try.infoRw rfl (by decide)
/-- the rest of a slice -/
theorem run_cutR {t e : TypeId} {bytes : Nat} (E : ET t e 1 bytes) {g n cap lo : Nat} (h : lo < n) (hn : n ≤ cap) (w' : World) : (Instr.slice t (.slice (some ⟨g, 0, none⟩) n cap) (some (.int .i64 (lo : Nat))) none none).run Try.prog w' = .ok (.slice (some ⟨g, lo, none⟩) (n - lo : Nat) (cap - lo : Nat)) w' := by
  simp [Instr.slice, run_underlying E.ht, Instr.sliceBounds, Instr.sliceBound, asIntOf, E.size, go_sem]
  have h1 : lo ≤ n := by omega
  have h2 : cap ≠ lo := by omega
  simp [h1, h2]
set_option maxRecDepth 100000 in
set_option maxHeartbeats 1000000 in
theorem bkMeet_any (lo ob kb : Nat) (evs : List Ev) (L : List Nat) (i : Nat) (w : World) (h : BlC lo ob kb evs L w) (hl : (bkS evs).1.length ≤ 16384) :
    Calls Try.prog 48 #[.int .i64 (i : Nat), .pointer (some ⟨ob, 0, none⟩)] w fun e' w' => (∃ r, e' = .returned r) ∧ ∃ L', BlC lo ob kb (evs ++ [.meet i]) L' w' ∧ Own L L' w w' := by
  obtain ⟨ov, kv, Vs, hK⟩ := h
  have HK := Lib.hid hK
  have cb := hK.bo.cell (i := 0) (by omega)
  have hown : w.ownsRow lo 3 1 ov (bkS evs).1.length ((intsN (bkS evs).1).map (Value.int .i64)) := hK.oo
  have hsz : lo ≤ w.heap.size := hK.sz
  have hol := hK.l1
  have hnb : ov.ownBlock ≠ some ob := fun c => by have := (World.ownsRow.lt hown _ c).1; omega
  clear hK
  go_enter Try.func48, Try.ntmps48
  go_wp2_with (at_builtin; refine push etI rfl _ _ rfl lo _ _ _ hown rfl #[.int .i64 (i : Nat)] _ rfl rfl rfl (by simp [Value.oneCell']) (by omega) (by omega) hsz ?_; intro g cp w5 hown5 hg5 hv5; refine Hid.out ?_)
  have hb5 := HK.out.bo.of_block (w' := w5) (hg5.block ob HK.out.bo.lt fun c => hnb c.symm)
  have c5 := hb5.cell (i := 0) (by omega)
  have f5 := hb5.frozen 0
  have hsz5 : (w5.setCell ⟨ob, 0, none⟩ (.slice (some ⟨g, 0, none⟩) ((bkS evs).1.length + 1 : Nat) cp)).heap.size = w5.heap.size := by simp [World.setCell]
  have hs5 : ∀ k, k ≠ ob → k < w.heap.size → ov.ownBlock ≠ some k → (w5.setCell ⟨ob, 0, none⟩ (.slice (some ⟨g, 0, none⟩) ((bkS evs).1.length + 1 : Nat) cp)).heap[k]? = w.heap[k]? := fun k h1 h2 h3 =>
    (Below.heap_setCell _ _ _ _ h1).trans (hg5.block k h2 fun c => h3 c.symm)
  have hmv : ∀ k, (Value.slice (some ⟨g, 0, none⟩) ((bkS evs).1.length + 1 : Nat) cp).ownBlock = some k → ov.ownBlock = some k ∨ w.heap.size ≤ k := fun k hk => by
    have hk : g = k := Option.some.inj hk
    subst hk
    exact hv5
  have HF := HK.out.newO (O' := (bkS evs).1 ++ [i]) (ov' := .slice (some ⟨g, 0, none⟩) ((bkS evs).1.length + 1 : Nat) cp) (w' := w5.setCell ⟨ob, 0, none⟩ (.slice (some ⟨g, 0, none⟩) ((bkS evs).1.length + 1 : Nat) cp)) (by rw [hsz5]; exact hg5.size) (fun k => ⟨fun h1 h2 => hs5 k h2 (by omega) fun c => by have := (World.ownsRow.lt hown _ c).1; omega, fun h1 h2 h3 => hs5 k (by omega) h2 h3⟩)
    ((hb5.set 0 _).congr (fun i hi => by rw [if_pos (by omega)])) (by
      unfold OwnI
      rw [intsN_snoc, List.map_append, List.length_append]
      exact own_high hown5 fun k hk => Below.heap_setCell _ _ _ _ (by show k ≠ ob; omega)) hmv
  generalize hL1 : (ob :: kb :: ((Value.slice (some ⟨g, 0, none⟩) ((bkS evs).1.length + 1 : Nat) cp).ownBlock.toList ++ kv.ownBlock.toList ++ Vs.filterMap (·.ownBlock))) = L1 at HF
  have HB : Hid (BlC lo ob kb (evs ++ [.meet i]) L1 (w5.setCell ⟨ob, 0, none⟩ (.slice (some ⟨g, 0, none⟩) ((bkS evs).1.length + 1 : Nat) cp))) := Lib.hid ⟨_, _, _, by rw [bkS_snoc, bkStep]; exact HF⟩
  have HO : Hid (Own L L1 w (w5.setCell ⟨ob, 0, none⟩ (.slice (some ⟨g, 0, none⟩) ((bkS evs).1.length + 1 : Nat) cp))) := Lib.hid (by
    refine ⟨(Sst.grown hg5).trans (Sst.setCell _ _ _), fun b hb hL => ?_, fun b hb => ?_⟩
    rotate_left
    · exact HF.memL.1 hb |>.elim (fun c => .inl (HK.out.memL.2 (.inl c))) fun c => c.elim (fun c => .inl (HK.out.memL.2 (.inr (.inl c)))) fun c => c.elim (fun c => (hmv b c).imp (fun d => HK.out.memL.2 (.inr (.inr (.inl d)))) id) fun c => .inl (HK.out.memL.2 (.inr (.inr (.inr c))))
    · exact hs5 b (fun c => hL (HK.out.memL.2 (.inl c))) hb fun c => hL (HK.out.memL.2 (.inr (.inr (.inl c)))))
  clear HF hown5 hg5 hv5 hs5 hmv hsz5 hb5
  refine Lib.hid ?_
  go_wp2_with fail
  go_end0
  exact ⟨⟨_, rfl⟩, _, HB.out, HO.out⟩
set_option maxRecDepth 100000 in
set_option maxHeartbeats 1000000 in
theorem bkLeave_any (lo ob kb : Nat) (evs : List Ev) (L : List Nat) (u v e : Nat) (a b : Bool) (w : World) (h : BlC lo ob kb evs L w) (hl : (bkS evs).1.length ≤ 16384) (hl2 : (bkS evs).2.length ≤ 16384) (he : b = false → e ∈ (bkS evs).1) (hnd : (bkS evs).1.Nodup) :
    Calls Try.prog 49 #[.agg #[.int .i64 (u : Nat), .int .i64 (v : Nat), .int .i64 (e : Nat), .bool a, .bool b], .pointer (some ⟨ob, 0, none⟩), .pointer (some ⟨kb, 0, none⟩)] w fun e' w' => (∃ r, e' = .returned r) ∧ ∃ L', BlC lo ob kb (evs ++ [.leave u v e a b]) L' w' ∧ Own L L' w w' := by
  obtain ⟨ov, kv, Vs, hK⟩ := h
  obtain ⟨w1, hw1⟩ : ∃ w1, w.alloc (.cells #[.int .i64 (u : Nat), .int .i64 (v : Nat), .int .i64 (e : Nat), .bool a, .bool b] 68) = w1 := ⟨_, rfl⟩
  have hK1 : BlK lo ob kb (bkS evs).1 (bkS evs).2 L w1 ov kv Vs := hK.keep (by rw [← hw1]; simp) fun k hk => by rw [← hw1]; exact Below.heap_alloc _ _ _ (hK.lt hk)
  have hO1 : Own L L w w1 := by rw [← hw1]; exact Own.alloc _ _ _
  have hst : Row w1 w.heap.size 5 (fun i => (#[.int .i64 (u : Nat), .int .i64 (v : Nat), .int .i64 (e : Nat), .bool a, .bool b] : Array Value).getD i (.bool false)) := by
    rw [← hw1]
    exact Row.lit w _ _ (by simp) (fun i hi => by
      match i, hi with
      | 0, _ => rfl
      | 1, _ => rfl
      | 2, _ => rfl
      | 3, _ => rfl
      | 4, _ => rfl
      | q + 5, h => omega)
  have s2 := hst.cell (i := 2) (by omega)
  have s4 := hst.cell (i := 4) (by omega)
  simp only [List.getElem?_toArray, Array.getD_eq_getD_getElem?, List.getElem?_cons_zero, List.getElem?_cons_succ, Option.getD_some] at s2 s4
  cases b with
  | true =>
    have HB : Hid (BlC lo ob kb (evs ++ [.leave u v e a true]) L w1) := Lib.hid ⟨_, _, _, by rw [bkS_snoc, bkStep, if_pos rfl]; exact hK1⟩
    have HO := Lib.hid hO1
    clear hK hK1 hO1 hst
    go_enter Try.func49, Try.ntmps49
    go_wp2_with fail
    refine bodyPost_ret (results_none rfl _ _ _) rfl ?_
    exact ⟨⟨_, rfl⟩, _, HB.out, HO.out⟩
  | false =>
    have hmem := he rfl
    have hBk : bkS (evs ++ [.leave u v e a false]) = ((bkS evs).1.take ((bkS evs).1.idxOf e), (bkS evs).2 ++ [(bkS evs).1.drop ((bkS evs).1.idxOf e)]) := by rw [bkS_snoc, bkStep, if_neg (by simp)]
    unfold BlC
    rw [hBk]
    generalize (bkS evs).1 = O at *
    generalize (bkS evs).2 = Bs at *
    obtain ⟨k, hk⟩ : ∃ k, O.idxOf e = k := ⟨_, rfl⟩
    have hkl : k < O.length := by rw [← hk]; exact List.idxOf_lt_length_of_mem hmem
    have hke : O[k] = e := by simp only [← hk]; exact List.getElem_idxOf (by rw [hk]; exact hkl)
    have huni : ∀ j, (hj : j < O.length) → O[j] = e → j = k := fun j hj h => by
      rw [← hke] at h
      exact (List.getElem_inj hnd).1 h
    rw [hk]
    obtain ⟨go, co, cur, rfl, hgo, hcur, hco, -, -, -⟩ : ∃ g cap cur, ov = .slice (some ⟨g, 0, none⟩) O.length cap ∧ lo ≤ g ∧ w1.heap[g]? = some (.cells cur 3 (0, 0)) ∧ O.length ≤ cap ∧ cap ≤ maxLen ∧ cur.size = cap * 1 ∧ cur.toList.take (O.length * 1) = (intsN O).map (Value.int .i64) := by
      rcases hK1.oo.2 with ⟨_, e2⟩ | h
      · omega
      · exact h
    have cob := hK1.bo.cell (i := 0) (by omega)
    have hcells : Hid (∀ j, (hj : j < O.length) → w1.cell? ⟨go, j, none⟩ = some (.int .i64 (O[j] : Nat))) := Lib.hid fun j hj => by
      have := (own_cell hK1.oo (i := j) (intsN_at hj)).1
      rw [this]
      simp [List.getD, hj]
    have HK1 := Lib.hid hK1
    have HO1 := Lib.hid hO1
    have Hun := Lib.hid huni
    have Hke := Lib.hid hke
    have hgw : go < w1.heap.size := (Array.getElem?_eq_some_iff.1 hcur).1
    have hpos : (0 : Int) < (O.length : Nat) := by omega
    clear hK hK1 hO1 hst huni hke hmem hk hnd he hcur hBk
    go_enter Try.func49, Try.ntmps49
    go_wp2_with fail
    go_loopw [4] (fun i wr => ∃ j : Nat, k ≤ j ∧ j < O.length ∧ i = .int .i64 (j : Nat) ∧ ∃ m, wr = w1.drewN m) (fun i _ => (intOf i).toNat)
    case atStart => exact ⟨O.length - 1, by omega, by omega, by go_num, 0, rfl⟩
    case round =>
      obtain ⟨j, hkj, hjl, rfl, m, rfl⟩ := hrel
      have cj := hcells.out j hjl
      have hjn : (0 : Int) ≤ j ∧ (j : Int) < O.length := by omega
      by_cases hjk : j = k
      · subst hjk
        have hoj : ((O[j] : Nat) : Int) = (e : Nat) := by rw [Hke.out]
        rw [hoj] at cj
        have d6 : (((e : Nat) : Int) != (e : Nat)) = false := by simp
        have hcR := run_cutR etI (g := go) (n := O.length) (cap := co) (lo := j) hjl hco
        have HCl : Hid (∀ q, Calls Try.prog 50 #[.slice (some ⟨go, j, none⟩) (O.length - j : Nat) (co - j : Nat)] (w1.drewN q) (CopyPost 29 3 1 (O.length - j) (nums .i64 (intsN (O.drop j))) (w1.drewN q))) := Lib.hid fun q =>
          cloneI w1.heap.size (some ⟨go, j, none⟩) (co - j) (O.length - j) (fun i => (⟨go, j, none⟩ : Addr).add (i * 1)) (nums .i64 (intsN (O.drop j))) (w1.drewN q) (Rd.addr etI (fun _ => hgw) fun i hi jj hjj => by
            obtain rfl : jj = 0 := by omega
            have h := hcells.out (j + i) (by omega)
            rw [add_mk, Nat.mul_one, Nat.add_zero]
            have h2 : (w1.drewN q).cell? ⟨go, j + i, none⟩ = some (.int .i64 (O[j + i] : Nat)) := h
            rw [h2]
            unfold nums
            rw [intsN_nth]
            congr 3
            rw [List.getD_eq_getElem?_getD, List.getElem?_drop, List.getElem?_eq_getElem (by omega)]; rfl) (Nat.le_refl _) (fun i _ jj _ => rfl) (by omega)
        rcases Nat.eq_zero_or_pos j with h0 | h0
        · have d1 : decide ((0 : Int) < (j : Nat)) = false := decide_eq_false (by omega)
          have d2 : decide ((j : Int) > 0) = false := decide_eq_false (by omega)
          have d0 : decide (0 < j) = false := decide_eq_false (by omega)
          clear h0 d1 d2
          go_wp2_with fail
          go_quiet (fail)
          go_wp2_with fail
          refine (HCl.out _).mono ?_
          clear HCl
          rintro e5 w2 ⟨a2, c2, A2, rfl, hR2, hb2, hown2⟩
          obtain ⟨g2, rfl, hg2, ho2⟩ : ∃ g2, a2 = some ⟨g2, 0, none⟩ ∧ w1.heap.size ≤ g2 ∧ w2.ownsRow w1.heap.size 3 1 (.slice (some ⟨g2, 0, none⟩) (O.length - j : Nat) c2) (O.length - j) (flat (nums .i64 (intsN (O.drop j))) (O.length - j) 1) := by
            rcases hown2 with rfl | h
            · obtain ⟨ad, h1, _⟩ := hR2.view etI (by omega); cases h1
            · exact h
          have hsz12 : w1.heap.size ≤ w2.heap.size := hb2.size
          have HK2 : Hid (BlK lo ob kb O Bs L w2 (.slice (some ⟨go, 0, none⟩) O.length co) kv Vs) := Lib.hid (HK1.out.keep hsz12 fun b hb => hb2.block b (HK1.out.lt hb))
          have hb2' : Hid (∀ b, b < w1.heap.size → w2.heap[b]? = w1.heap[b]?) := Lib.hid fun b hb => hb2.block b hb
          have HS2 : Hid (Sst w1 w2) := Lib.hid ⟨hb2.os, hb2.tape, hb2.output, hb2.size⟩
          have cob2 := HK2.out.bo.cell (i := 0) (by omega)
          have fob2 := HK2.out.bo.frozen 0
          have hcut := run_cut0 etI (g := go) (cap := co) (k := O.length) (hi := j) (by omega)
          have hsl3 : (w2.setCell ⟨ob, 0, none⟩ (.slice (some ⟨go, 0, none⟩) j co)).heap.size = w2.heap.size := by simp [World.setCell]
          have HK3 : Hid (BlK lo ob kb (O.take j) Bs L (w2.setCell ⟨ob, 0, none⟩ (.slice (some ⟨go, 0, none⟩) j co)) (.slice (some ⟨go, 0, none⟩) j co) kv Vs) := Lib.hid (by
            have h := HK2.out.newO (O' := O.take j) (ov' := .slice (some ⟨go, 0, none⟩) j co) (w' := w2.setCell ⟨ob, 0, none⟩ (.slice (some ⟨go, 0, none⟩) j co)) (by rw [hsl3]; exact Nat.le_refl _) (fun k => ⟨fun _ h2 => Below.heap_setCell _ _ _ _ h2, fun h1 _ _ => Below.heap_setCell _ _ _ _ (by have := HK2.out.l1; show k ≠ ob; omega)⟩)
              ((HK2.out.bo.set 0 _).congr (fun i hi => by rw [if_pos (by omega)])) (by
                have h := ownN_take (m := j) HK2.out.oo (by omega)
                have e1 : (O.take j).length = j := by rw [List.length_take]; omega
                have e2 : ((intsN O).map (Value.int .i64)).take (j * 1) = (intsN (O.take j)).map (Value.int .i64) := by rw [Nat.mul_one, ← List.map_take]; unfold intsN; rw [← List.map_take]
                rw [e2] at h
                unfold OwnI
                rw [e1]
                exact own_high h fun k hk => Below.heap_setCell _ _ _ _ (by have := HK2.out.l1; show k ≠ ob; omega)) (fun g hg => .inl hg)
            have hLe := HK2.out.eqL
            rw [hLe]; exact h)
          have ho2' : OwnI w1.heap.size (.slice (some ⟨g2, 0, none⟩) (O.length - j : Nat) c2) (O.drop j) (w2.setCell ⟨ob, 0, none⟩ (.slice (some ⟨go, 0, none⟩) j co)) := by
            have hfl := flat_nums .i64 (intsN (O.drop j))
            rw [intsN_len, List.length_drop] at hfl
            rw [hfl] at ho2
            unfold OwnI
            rw [List.length_drop]
            exact own_high ho2 fun k hk => Below.heap_setCell _ _ _ _ (by have := HK2.out.l1; have := HK1.out.sz; show k ≠ ob; omega)
          have HSo := Lib.hid (sort_own _ _ _ _ ho2' (by rw [List.length_drop]; omega))
          clear hR2 hb2 hown2 ho2 ho2'
          go_wp2_with fail
          refine HSo.out.mono ?_
          clear HSo
          rintro e6 w4 ⟨rfl, ho4, hg4⟩
          have hlt3 : ∀ b, b < w1.heap.size → w4.heap[b]? = (w2.setCell ⟨ob, 0, none⟩ (.slice (some ⟨go, 0, none⟩) j co)).heap[b]? := fun b hb => hg4.block b (by rw [hsl3]; omega) fun c => by have c : b = g2 := Option.some.inj c; omega
          have hsz34 := hg4.size
          rw [hsl3] at hsz34
          have HK4 : Hid (BlK lo ob kb (O.take j) Bs L w4 (.slice (some ⟨go, 0, none⟩) j co) kv Vs) := Lib.hid (HK3.out.keep hg4.size fun b hb => hlt3 b (HK1.out.lt hb))
          have hS4 : Sst w1 w4 := (HS2.out.trans (Sst.setCell _ _ _)).trans (Sst.grown hg4)
          have HB4 : Hid (∀ b, b < w1.heap.size → b ≠ ob → w4.heap[b]? = w1.heap[b]?) := Lib.hid fun b hb hne => (hlt3 b hb).trans ((Below.heap_setCell _ _ _ _ hne).trans (hb2'.out b hb))
          have HS4 := Lib.hid hS4
          have HR4 : Hid (BRow w4 lo (.slice (some ⟨g2, 0, none⟩) (O.length - j : Nat) c2) (srtN (O.drop j))) := Lib.hid (by
            refine ⟨g2, c2, by rw [srtN_len, List.length_drop], by have := HK1.out.sz; omega, by have := ho4; unfold OwnI at this; rw [srtN_len, List.length_drop] at this; have := own_cap this; rw [srtN_len, List.length_drop]; exact this, ?_⟩
            have hr := Row.owned (by have := ho4; unfold OwnI at this; rw [srtN_len, List.length_drop] at this; exact this)
            rw [srtN_len, List.length_drop]
            refine hr.congr fun i hi => ?_
            have hi' : i < (srtN (O.drop j)).length := by rw [srtN_len, List.length_drop]; exact hi
            have := intsN_at hi'
            rw [List.getD_eq_getElem?_getD, this]; rfl)
          have hgr2 : g2 < w4.heap.size := by obtain ⟨g', h1, -, h2⟩ := HR4.out.blk; have h1 : g2 = g' := Option.some.inj h1; omega
          have ckb := HK4.out.bk.cell (i := 0) (by omega)
          have hokv : w4.ownsRow lo 29 1 kv Vs.length Vs := HK4.out.ok
          have hlo4 : lo ≤ w4.heap.size := HK4.out.sz
          have hvl : Vs.length ≤ 16384 := by rw [HK4.out.len]; exact hl2
          clear hg4 ho4 hlt3 HK3 HK2 hsl3 hS4 HS2 hb2' cob2 fob2
          go_wp2_with (at_builtin; refine push etRw rfl _ _ rfl lo _ _ _ hokv rfl #[.slice (some ⟨g2, 0, none⟩) (O.length - j : Nat) c2] _ rfl rfl rfl (by simp [Value.oneCell']) (by omega) (by omega) hlo4 ?_; intro g5 cp5 w5 hown5 hg5 hv5; refine Hid.out ?_)
          have hnk : kv.ownBlock ≠ some kb := fun c => by have := (World.ownsRow.lt hokv _ c).1; have := HK1.out.l2; omega
          have hbk5 := HK4.out.bk.of_block (w' := w5) (hg5.block kb HK4.out.bk.lt fun c => hnk c.symm)
          have ckb5 := hbk5.cell (i := 0) (by omega)
          have fkb5 := hbk5.frozen 0
          have hsl6 : (w5.setCell ⟨kb, 0, none⟩ (.slice (some ⟨g5, 0, none⟩) (Vs.length + 1 : Nat) cp5)).heap.size = w5.heap.size := by simp [World.setCell]
          have hs6 : ∀ b, b ≠ kb → b < w4.heap.size → kv.ownBlock ≠ some b → (w5.setCell ⟨kb, 0, none⟩ (.slice (some ⟨g5, 0, none⟩) (Vs.length + 1 : Nat) cp5)).heap[b]? = w4.heap[b]? := fun b h1 h2 h3 =>
            (Below.heap_setCell _ _ _ _ h1).trans (hg5.block b h2 fun c => h3 c.symm)
          have hmv : ∀ b, (Value.slice (some ⟨g5, 0, none⟩) (Vs.length + 1 : Nat) cp5).ownBlock = some b → kv.ownBlock = some b ∨ w4.heap.size ≤ b := fun b hb => by
            have hb : g5 = b := Option.some.inj hb
            subst hb
            exact hv5
          have hg5k : w1.heap.size ≤ w4.heap.size := HS4.out.size
          have HF := HK4.out.newB (D := O.drop j) (V := .slice (some ⟨g2, 0, none⟩) (O.length - j : Nat) c2) (kv' := .slice (some ⟨g5, 0, none⟩) (Vs.length + 1 : Nat) cp5) (w' := w5.setCell ⟨kb, 0, none⟩ (.slice (some ⟨g5, 0, none⟩) (Vs.length + 1 : Nat) cp5)) (by rw [hsl6]; exact hg5.size) HR4.out
            (fun b hb => by
              have hb : g2 = b := Option.some.inj hb
              refine ⟨fun c => ?_, fun c => ?_⟩
              · have c : go = b := Option.some.inj c
                omega
              · have := HK1.out.lt (HK1.out.memL.2 (.inr (.inr (.inr (.inl c)))))
                omega) hs6 ((hbk5.set 0 _).congr (fun i hi => by rw [if_pos (by omega)])) (own_high hown5 fun b hb => Below.heap_setCell _ _ _ _ (by have := HK1.out.l2; show b ≠ kb; omega)) hmv
          generalize hL1 : (ob :: kb :: ((Value.slice (some ⟨go, 0, none⟩) j co).ownBlock.toList ++ (Value.slice (some ⟨g5, 0, none⟩) (Vs.length + 1 : Nat) cp5).ownBlock.toList ++ (Vs ++ [Value.slice (some ⟨g2, 0, none⟩) (O.length - j : Nat) c2]).filterMap Value.ownBlock)) = L1 at HF
          have HB : Hid (∃ ov kv' Vs', BlK lo ob kb (O.take j) (Bs ++ [O.drop j]) L1 (w5.setCell ⟨kb, 0, none⟩ (.slice (some ⟨g5, 0, none⟩) (Vs.length + 1 : Nat) cp5)) ov kv' Vs') := Lib.hid ⟨_, _, _, HF⟩
          have hw01 : w.heap.size ≤ w1.heap.size := HO1.out.st.size
          have HO : Hid (Own L L1 w (w5.setCell ⟨kb, 0, none⟩ (.slice (some ⟨g5, 0, none⟩) (Vs.length + 1 : Nat) cp5))) := Lib.hid (by
            refine ⟨((HO1.out.st.trans HS4.out).trans (Sst.grown hg5)).trans (Sst.setCell _ _ _), fun b hb hL => ?_, fun b hb => ?_⟩
            · exact (hs6 b (fun c => hL (HK1.out.memL.2 (.inr (.inl c)))) (by omega) fun c => hL (HK1.out.memL.2 (.inr (.inr (.inr (.inl c)))))).trans ((HB4.out b (by omega) fun c => hL (HK1.out.memL.2 (.inl c))).trans (HO1.out.blk b hb hL))
            · rcases HF.memL.1 hb with c | c | c | c | ⟨i, hi, c⟩
              · exact .inl (HK1.out.memL.2 (.inl c))
              · exact .inl (HK1.out.memL.2 (.inr (.inl c)))
              · exact .inl (HK1.out.memL.2 (.inr (.inr (.inl c))))
              · rcases hmv b c with d | d
                · exact .inl (HK1.out.memL.2 (.inr (.inr (.inr (.inl d)))))
                · exact .inr (by omega)
              · rw [List.length_append, List.length_singleton] at hi
                have hlen := HK1.out.len
                by_cases ci : i < Bs.length
                · refine .inl (HK1.out.memL.2 (.inr (.inr (.inr (.inr ⟨i, ci, ?_⟩)))))
                  rw [List.getD_eq_getElem?_getD, List.getElem?_append_left (by omega), ← List.getD_eq_getElem?_getD] at c
                  exact c
                · have e0 : i = Vs.length := by omega
                  rw [e0] at c
                  simp only [List.getD_eq_getElem?_getD, List.getElem?_append_right (Nat.le_refl _), Nat.sub_self, List.getElem?_cons_zero, Option.getD_some] at c
                  have c : g2 = b := Option.some.inj c
                  exact .inr (by omega))
          clear HF hown5 hg5 hv5 hs6 hmv hsl6 hbk5 hokv ckb
          refine Lib.hid ?_
          go_wp2_with fail
          go_end0
          exact ⟨⟨_, rfl⟩, _, HB.out, HO.out⟩
        · have d1 : decide ((0 : Int) < (j : Nat)) = true := decide_eq_true (by omega)
          have d2 : decide ((j : Int) > 0) = true := decide_eq_true (by omega)
          have d0 : decide (0 < j) = true := decide_eq_true h0
          have d9 : (e != e) = false := by simp
          clear h0 d1 d2
          go_wp2_with fail
          go_quiet (fail)
          go_wp2_with fail
          refine (HCl.out _).mono ?_
          clear HCl
          rintro e5 w2 ⟨a2, c2, A2, rfl, hR2, hb2, hown2⟩
          obtain ⟨g2, rfl, hg2, ho2⟩ : ∃ g2, a2 = some ⟨g2, 0, none⟩ ∧ w1.heap.size ≤ g2 ∧ w2.ownsRow w1.heap.size 3 1 (.slice (some ⟨g2, 0, none⟩) (O.length - j : Nat) c2) (O.length - j) (flat (nums .i64 (intsN (O.drop j))) (O.length - j) 1) := by
            rcases hown2 with rfl | h
            · obtain ⟨ad, h1, _⟩ := hR2.view etI (by omega); cases h1
            · exact h
          have hsz12 : w1.heap.size ≤ w2.heap.size := hb2.size
          have HK2 : Hid (BlK lo ob kb O Bs L w2 (.slice (some ⟨go, 0, none⟩) O.length co) kv Vs) := Lib.hid (HK1.out.keep hsz12 fun b hb => hb2.block b (HK1.out.lt hb))
          have hb2' : Hid (∀ b, b < w1.heap.size → w2.heap[b]? = w1.heap[b]?) := Lib.hid fun b hb => hb2.block b hb
          have HS2 : Hid (Sst w1 w2) := Lib.hid ⟨hb2.os, hb2.tape, hb2.output, hb2.size⟩
          have cob2 := HK2.out.bo.cell (i := 0) (by omega)
          have fob2 := HK2.out.bo.frozen 0
          have hcut := run_cut0 etI (g := go) (cap := co) (k := O.length) (hi := j) (by omega)
          have hsl3 : (w2.setCell ⟨ob, 0, none⟩ (.slice (some ⟨go, 0, none⟩) j co)).heap.size = w2.heap.size := by simp [World.setCell]
          have HK3 : Hid (BlK lo ob kb (O.take j) Bs L (w2.setCell ⟨ob, 0, none⟩ (.slice (some ⟨go, 0, none⟩) j co)) (.slice (some ⟨go, 0, none⟩) j co) kv Vs) := Lib.hid (by
            have h := HK2.out.newO (O' := O.take j) (ov' := .slice (some ⟨go, 0, none⟩) j co) (w' := w2.setCell ⟨ob, 0, none⟩ (.slice (some ⟨go, 0, none⟩) j co)) (by rw [hsl3]; exact Nat.le_refl _) (fun k => ⟨fun _ h2 => Below.heap_setCell _ _ _ _ h2, fun h1 _ _ => Below.heap_setCell _ _ _ _ (by have := HK2.out.l1; show k ≠ ob; omega)⟩)
              ((HK2.out.bo.set 0 _).congr (fun i hi => by rw [if_pos (by omega)])) (by
                have h := ownN_take (m := j) HK2.out.oo (by omega)
                have e1 : (O.take j).length = j := by rw [List.length_take]; omega
                have e2 : ((intsN O).map (Value.int .i64)).take (j * 1) = (intsN (O.take j)).map (Value.int .i64) := by rw [Nat.mul_one, ← List.map_take]; unfold intsN; rw [← List.map_take]
                rw [e2] at h
                unfold OwnI
                rw [e1]
                exact own_high h fun k hk => Below.heap_setCell _ _ _ _ (by have := HK2.out.l1; show k ≠ ob; omega)) (fun g hg => .inl hg)
            have hLe := HK2.out.eqL
            rw [hLe]; exact h)
          have ho2' : OwnI w1.heap.size (.slice (some ⟨g2, 0, none⟩) (O.length - j : Nat) c2) (O.drop j) (w2.setCell ⟨ob, 0, none⟩ (.slice (some ⟨go, 0, none⟩) j co)) := by
            have hfl := flat_nums .i64 (intsN (O.drop j))
            rw [intsN_len, List.length_drop] at hfl
            rw [hfl] at ho2
            unfold OwnI
            rw [List.length_drop]
            exact own_high ho2 fun k hk => Below.heap_setCell _ _ _ _ (by have := HK2.out.l1; have := HK1.out.sz; show k ≠ ob; omega)
          have HSo := Lib.hid (sort_own _ _ _ _ ho2' (by rw [List.length_drop]; omega))
          clear hR2 hb2 hown2 ho2 ho2'
          go_wp2_with fail
          refine HSo.out.mono ?_
          clear HSo
          rintro e6 w4 ⟨rfl, ho4, hg4⟩
          have hlt3 : ∀ b, b < w1.heap.size → w4.heap[b]? = (w2.setCell ⟨ob, 0, none⟩ (.slice (some ⟨go, 0, none⟩) j co)).heap[b]? := fun b hb => hg4.block b (by rw [hsl3]; omega) fun c => by have c : b = g2 := Option.some.inj c; omega
          have hsz34 := hg4.size
          rw [hsl3] at hsz34
          have HK4 : Hid (BlK lo ob kb (O.take j) Bs L w4 (.slice (some ⟨go, 0, none⟩) j co) kv Vs) := Lib.hid (HK3.out.keep hg4.size fun b hb => hlt3 b (HK1.out.lt hb))
          have hS4 : Sst w1 w4 := (HS2.out.trans (Sst.setCell _ _ _)).trans (Sst.grown hg4)
          have HB4 : Hid (∀ b, b < w1.heap.size → b ≠ ob → w4.heap[b]? = w1.heap[b]?) := Lib.hid fun b hb hne => (hlt3 b hb).trans ((Below.heap_setCell _ _ _ _ hne).trans (hb2'.out b hb))
          have HS4 := Lib.hid hS4
          have HR4 : Hid (BRow w4 lo (.slice (some ⟨g2, 0, none⟩) (O.length - j : Nat) c2) (srtN (O.drop j))) := Lib.hid (by
            refine ⟨g2, c2, by rw [srtN_len, List.length_drop], by have := HK1.out.sz; omega, by have := ho4; unfold OwnI at this; rw [srtN_len, List.length_drop] at this; have := own_cap this; rw [srtN_len, List.length_drop]; exact this, ?_⟩
            have hr := Row.owned (by have := ho4; unfold OwnI at this; rw [srtN_len, List.length_drop] at this; exact this)
            rw [srtN_len, List.length_drop]
            refine hr.congr fun i hi => ?_
            have hi' : i < (srtN (O.drop j)).length := by rw [srtN_len, List.length_drop]; exact hi
            have := intsN_at hi'
            rw [List.getD_eq_getElem?_getD, this]; rfl)
          have hgr2 : g2 < w4.heap.size := by obtain ⟨g', h1, -, h2⟩ := HR4.out.blk; have h1 : g2 = g' := Option.some.inj h1; omega
          have ckb := HK4.out.bk.cell (i := 0) (by omega)
          have hokv : w4.ownsRow lo 29 1 kv Vs.length Vs := HK4.out.ok
          have hlo4 : lo ≤ w4.heap.size := HK4.out.sz
          have hvl : Vs.length ≤ 16384 := by rw [HK4.out.len]; exact hl2
          clear hg4 ho4 hlt3 HK3 HK2 hsl3 hS4 HS2 hb2' cob2 fob2
          go_wp2_with (at_builtin; refine push etRw rfl _ _ rfl lo _ _ _ hokv rfl #[.slice (some ⟨g2, 0, none⟩) (O.length - j : Nat) c2] _ rfl rfl rfl (by simp [Value.oneCell']) (by omega) (by omega) hlo4 ?_; intro g5 cp5 w5 hown5 hg5 hv5; refine Hid.out ?_)
          have hnk : kv.ownBlock ≠ some kb := fun c => by have := (World.ownsRow.lt hokv _ c).1; have := HK1.out.l2; omega
          have hbk5 := HK4.out.bk.of_block (w' := w5) (hg5.block kb HK4.out.bk.lt fun c => hnk c.symm)
          have ckb5 := hbk5.cell (i := 0) (by omega)
          have fkb5 := hbk5.frozen 0
          have hsl6 : (w5.setCell ⟨kb, 0, none⟩ (.slice (some ⟨g5, 0, none⟩) (Vs.length + 1 : Nat) cp5)).heap.size = w5.heap.size := by simp [World.setCell]
          have hs6 : ∀ b, b ≠ kb → b < w4.heap.size → kv.ownBlock ≠ some b → (w5.setCell ⟨kb, 0, none⟩ (.slice (some ⟨g5, 0, none⟩) (Vs.length + 1 : Nat) cp5)).heap[b]? = w4.heap[b]? := fun b h1 h2 h3 =>
            (Below.heap_setCell _ _ _ _ h1).trans (hg5.block b h2 fun c => h3 c.symm)
          have hmv : ∀ b, (Value.slice (some ⟨g5, 0, none⟩) (Vs.length + 1 : Nat) cp5).ownBlock = some b → kv.ownBlock = some b ∨ w4.heap.size ≤ b := fun b hb => by
            have hb : g5 = b := Option.some.inj hb
            subst hb
            exact hv5
          have hg5k : w1.heap.size ≤ w4.heap.size := HS4.out.size
          have HF := HK4.out.newB (D := O.drop j) (V := .slice (some ⟨g2, 0, none⟩) (O.length - j : Nat) c2) (kv' := .slice (some ⟨g5, 0, none⟩) (Vs.length + 1 : Nat) cp5) (w' := w5.setCell ⟨kb, 0, none⟩ (.slice (some ⟨g5, 0, none⟩) (Vs.length + 1 : Nat) cp5)) (by rw [hsl6]; exact hg5.size) HR4.out
            (fun b hb => by
              have hb : g2 = b := Option.some.inj hb
              refine ⟨fun c => ?_, fun c => ?_⟩
              · have c : go = b := Option.some.inj c
                omega
              · have := HK1.out.lt (HK1.out.memL.2 (.inr (.inr (.inr (.inl c)))))
                omega) hs6 ((hbk5.set 0 _).congr (fun i hi => by rw [if_pos (by omega)])) (own_high hown5 fun b hb => Below.heap_setCell _ _ _ _ (by have := HK1.out.l2; show b ≠ kb; omega)) hmv
          generalize hL1 : (ob :: kb :: ((Value.slice (some ⟨go, 0, none⟩) j co).ownBlock.toList ++ (Value.slice (some ⟨g5, 0, none⟩) (Vs.length + 1 : Nat) cp5).ownBlock.toList ++ (Vs ++ [Value.slice (some ⟨g2, 0, none⟩) (O.length - j : Nat) c2]).filterMap Value.ownBlock)) = L1 at HF
          have HB : Hid (∃ ov kv' Vs', BlK lo ob kb (O.take j) (Bs ++ [O.drop j]) L1 (w5.setCell ⟨kb, 0, none⟩ (.slice (some ⟨g5, 0, none⟩) (Vs.length + 1 : Nat) cp5)) ov kv' Vs') := Lib.hid ⟨_, _, _, HF⟩
          have hw01 : w.heap.size ≤ w1.heap.size := HO1.out.st.size
          have HO : Hid (Own L L1 w (w5.setCell ⟨kb, 0, none⟩ (.slice (some ⟨g5, 0, none⟩) (Vs.length + 1 : Nat) cp5))) := Lib.hid (by
            refine ⟨((HO1.out.st.trans HS4.out).trans (Sst.grown hg5)).trans (Sst.setCell _ _ _), fun b hb hL => ?_, fun b hb => ?_⟩
            · exact (hs6 b (fun c => hL (HK1.out.memL.2 (.inr (.inl c)))) (by omega) fun c => hL (HK1.out.memL.2 (.inr (.inr (.inr (.inl c)))))).trans ((HB4.out b (by omega) fun c => hL (HK1.out.memL.2 (.inl c))).trans (HO1.out.blk b hb hL))
            · rcases HF.memL.1 hb with c | c | c | c | ⟨i, hi, c⟩
              · exact .inl (HK1.out.memL.2 (.inl c))
              · exact .inl (HK1.out.memL.2 (.inr (.inl c)))
              · exact .inl (HK1.out.memL.2 (.inr (.inr (.inl c))))
              · rcases hmv b c with d | d
                · exact .inl (HK1.out.memL.2 (.inr (.inr (.inr (.inl d)))))
                · exact .inr (by omega)
              · rw [List.length_append, List.length_singleton] at hi
                have hlen := HK1.out.len
                by_cases ci : i < Bs.length
                · refine .inl (HK1.out.memL.2 (.inr (.inr (.inr (.inr ⟨i, ci, ?_⟩)))))
                  rw [List.getD_eq_getElem?_getD, List.getElem?_append_left (by omega), ← List.getD_eq_getElem?_getD] at c
                  exact c
                · have e0 : i = Vs.length := by omega
                  rw [e0] at c
                  simp only [List.getD_eq_getElem?_getD, List.getElem?_append_right (Nat.le_refl _), Nat.sub_self, List.getElem?_cons_zero, Option.getD_some] at c
                  have c : g2 = b := Option.some.inj c
                  exact .inr (by omega))
          clear HF hown5 hg5 hv5 hs6 hmv hsl6 hbk5 hokv ckb
          refine Lib.hid ?_
          go_wp2_with fail
          go_end0
          exact ⟨⟨_, rfl⟩, _, HB.out, HO.out⟩
      · have hne : O[j] ≠ e := fun c => hjk (Hun.out j hjl c)
        have hj0 : 0 < j := by omega
        have d1 : decide ((0 : Int) < (j : Nat)) = true := decide_eq_true (by omega)
        have d2 : decide ((j : Int) > 0) = true := decide_eq_true (by omega)
        have d3 : (0 : Int) < (j : Nat) := by omega
        have d4 : ((O[j] : Nat) : Int) ≠ (e : Nat) := by omega
        have d5 : decide (((O[j] : Nat) : Int) = (e : Nat)) = false := decide_eq_false d4
        have d6 : (((O[j] : Nat) : Int) == (e : Nat)) = false := beq_eq_false_iff_ne.2 d4
        have d7 : (((O[j] : Nat) : Int) != (e : Nat)) = true := by rw [bne, d6]; rfl
        have d8 : decide (O[j] = e) = false := decide_eq_false hne
        generalize O[j] = oj at *
        go_wp2_with fail
        go_quiet (fail)
        go_wp2_with fail
        exact ⟨⟨j - 1, by omega, by omega, by go_num, _, rfl⟩, by simp only [intOf]; omega⟩
theorem bkClt {n : Nat} {E : List Ed} (G : GOk n E) (lo ob kb : Nat) : Clt n E 48 49 #[.pointer (some ⟨ob, 0, none⟩)] #[.pointer (some ⟨ob, 0, none⟩), .pointer (some ⟨kb, 0, none⟩)] (BlC lo ob kb) := by
  refine ⟨fun evs L w h b hb => ?_, fun evs L w w' h hs hk => ?_, enters_of Try.func48 (by kernel_rfl) rfl, enters_of Try.func49 (by kernel_rfl) rfl, fun s evs i L w hr h => ?_, fun s evs u v e a b L w hr h => ?_⟩
  · obtain ⟨ov, kv, Vs, h⟩ := h
    exact h.lt hb
  · obtain ⟨ov, kv, Vs, h⟩ := h
    exact ⟨ov, kv, Vs, h.keep hs.size hk⟩
  · refine bkMeet_any lo ob kb evs L i w h ?_
    have h1 := (hr.open_lt G).1
    rw [bkS_snoc, bkStep] at h1
    simp only [List.length_append] at h1
    have := G.m_le
    omega
  · obtain ⟨h1, h2, h3, h4⟩ := hr.leave_open G evs u v e a b rfl
    have := G.m_le
    exact bkLeave_any lo ob kb evs L u v e a b w h (by omega) (by omega) h1 h2
end Go.Proofs.Ytcpikabhcjkkmaa
