/- The walk of Bridges of package bridge. Conditions: the graph was made by New, or it is nil or zero. -/
import Derived.Test.YtcpikabhcjkkmaaBrW
import Derived.Test.YtcpikabhcjkkmaaSrt
namespace Go.Proofs.Ytcpikabhcjkkmaa
open Go.RowKit Go.Shelf

theorem lvE_len {n : Nat} {E : List Ed} {s : Dfs} {evs : List Ev} (G : GOk n E) (h : Run n E s evs) : (lvE evs).length ≤ E.length := by
  obtain ⟨h1, h2, -, -⟩ := h.br G
  have hI := h.inv G
  have : (lvE evs).Nodup := (List.nodup_append.1 h1).2.1
  exact nodup_lt this fun x hx => (hI.ml x (h2 x (List.mem_append_right _ hx))).1
theorem brE_meet (evs : List Ev) (i : Nat) : brE (evs ++ [.meet i]) = brE evs := by simp [brE]
theorem brE_leave (evs : List Ev) (u v e : Nat) (a b : Bool) : brE (evs ++ [.leave u v e a b]) = if a then brE evs else brE evs ++ [e] := by cases a <;> simp [brE]
/-- what Bridges holds while it searches: the list, in its box -/
def BrC (bx : Nat) (evs : List Ev) (L : List Nat) (w : World) : Prop := ∃ v, L = bx :: v.ownBlock.toList ∧ Row w bx 1 (fun _ => v) ∧ OwnI (bx + 1) v (brE evs) w
set_option maxRecDepth 100000 in
set_option maxHeartbeats 1000000 in
theorem meet0_any (x : Value) (w : World) : Calls Try.prog 37 #[x] w fun e w' => (∃ r, e = .returned r) ∧ w' = w := by
  go_enter Try.func37, Try.ntmps37
  go_wp2_with fail
  go_end0
  exact ⟨⟨_, rfl⟩, rfl⟩
theorem Own.refl (L : List Nat) (w : World) : Own L L w w := ⟨Sst.refl w, fun _ _ _ => rfl, fun _ h => .inl h⟩
theorem Own.alloc (L : List Nat) (w : World) (o : Obj) : Own L L w (w.alloc o) := ⟨Sst.alloc w o, fun _ hb _ => Below.heap_alloc _ _ _ hb, fun _ h => .inl h⟩
theorem Own.push {w w1 : World} {bx g : Nat} {sv u : Value} {o : Obj} (hg : (w.alloc o).grownBy w1 sv.ownBlock) (hm : Moved (w.alloc o) sv g) : Own (bx :: sv.ownBlock.toList) [bx, g] w (w1.setCell ⟨bx, 0, none⟩ u) := by
  refine ⟨((Sst.alloc w o).trans (Sst.grown hg)).trans (Sst.setCell _ _ _), fun b hb hL => ?_, fun b hb => ?_⟩
  · rw [List.mem_cons, not_or] at hL
    refine (Below.heap_setCell _ _ _ _ (by show b ≠ bx; exact hL.1)).trans ((hg.block b (by rw [World.size_alloc]; omega) fun c => hL.2 ?_).trans (Below.heap_alloc _ _ _ hb))
    rw [← c]; simp
  · rcases List.mem_cons.1 hb with rfl | hb
    · exact .inl (List.mem_cons_self ..)
    · rw [List.mem_singleton.1 hb]
      rcases hm with c | c
      · left; rw [c]; simp
      · right; rw [World.size_alloc] at c; omega
set_option maxRecDepth 100000 in
set_option maxHeartbeats 1000000 in
theorem brLeave_any (bx : Nat) (evs : List Ev) (L : List Nat) (u v e : Nat) (a b : Bool) (w : World) (h : BrC bx evs L w) (hl : (brE evs).length ≤ 16384) :
    Calls Try.prog 38 #[.agg #[.int .i64 (u : Nat), .int .i64 (v : Nat), .int .i64 (e : Nat), .bool a, .bool b], .pointer (some ⟨bx, 0, none⟩)] w fun e' w' => (∃ r, e' = .returned r) ∧ ∃ L', BrC bx (evs ++ [.leave u v e a b]) L' w' ∧ Own L L' w w' := by
  obtain ⟨sv, rfl, hb, ho⟩ := h
  have hbl := hb.lt
  cases a with
  | true =>
    have HF : Hid (∃ L', BrC bx (evs ++ [.leave u v e true b]) L' (w.alloc (.cells #[.int .i64 (u : Nat), .int .i64 (v : Nat), .int .i64 (e : Nat), .bool true, .bool b] 68)) ∧ Own (bx :: sv.ownBlock.toList) L' w (w.alloc (.cells #[.int .i64 (u : Nat), .int .i64 (v : Nat), .int .i64 (e : Nat), .bool true, .bool b] 68))) :=
      Lib.hid ⟨_, ⟨sv, rfl, hb.alloc _, by rw [brE_leave, if_pos rfl]; exact World.ownsRow.alloc ho _⟩, Own.alloc _ _ _⟩
    clear hb ho
    go_enter Try.func38, Try.ntmps38
    go_wp2_with fail
    go_end0
    exact ⟨⟨_, rfl⟩, HF.out⟩
  | false =>
    obtain ⟨o, hoo⟩ : ∃ o : Obj, Obj.cells #[.int .i64 (u : Nat), .int .i64 (v : Nat), .int .i64 (e : Nat), .bool false, .bool b] 68 = o := ⟨_, rfl⟩
    have cbx : (w.alloc (.cells #[.int .i64 (u : Nat), .int .i64 (v : Nat), .int .i64 (e : Nat), .bool false, .bool b] 68)).cell? ⟨bx, 0, none⟩ = some sv := (hb.alloc _).cell (by omega)
    have hown : (w.alloc (.cells #[.int .i64 (u : Nat), .int .i64 (v : Nat), .int .i64 (e : Nat), .bool false, .bool b] 68)).ownsRow (bx + 1) 3 1 sv (brE evs).length ((intsN (brE evs)).map (Value.int .i64)) := World.ownsRow.alloc ho _
    have hsz : bx + 1 ≤ (w.alloc (.cells #[.int .i64 (u : Nat), .int .i64 (v : Nat), .int .i64 (e : Nat), .bool false, .bool b] 68)).heap.size := by rw [World.size_alloc]; omega
    have hnb : sv.ownBlock ≠ some bx := fun c => by have := (World.ownsRow.lt hown bx c).1; omega
    have HB := Lib.hid hb
    clear hoo ho
    go_enter Try.func38, Try.ntmps38
    go_wp2_with (at_builtin; refine push etI rfl _ _ rfl (bx + 1) _ _ _ hown rfl #[.int .i64 (e : Nat)] _ rfl (by simp) rfl (by simp [Value.oneCell']) (by omega) (by omega) hsz ?_; intro g cp w5 hown5 hg5 hv5; refine Hid.out ?_)
    have hb5 := (HB.out.alloc (.cells #[.int .i64 (u : Nat), .int .i64 (v : Nat), .int .i64 (e : Nat), .bool false, .bool b] 68)).of_block (w' := w5) (hg5.block bx (by rw [World.size_alloc]; omega) fun c => hnb c.symm)
    have c5 := hb5.cell (i := 0) (by omega)
    have f5 := hb5.frozen 0
    have HO : Hid (Own (bx :: sv.ownBlock.toList) [bx, g] w (w5.setCell ⟨bx, 0, none⟩ (.slice (some ⟨g, 0, none⟩) ((brE evs).length + 1 : Nat) cp))) := Lib.hid (Own.push hg5 hv5)
    have HC : Hid (BrC bx (evs ++ [.leave u v e false b]) [bx, g] (w5.setCell ⟨bx, 0, none⟩ (.slice (some ⟨g, 0, none⟩) ((brE evs).length + 1 : Nat) cp))) := Lib.hid (by
      refine ⟨.slice (some ⟨g, 0, none⟩) ((brE evs).length + 1 : Nat) cp, rfl, (hb5.set 0 _).congr (fun i hi => by rw [if_pos (by omega)]), ?_⟩
      rw [brE_leave, if_neg (by simp)]
      unfold OwnI
      rw [intsN_snoc, List.map_append, List.length_append]
      exact own_high hown5 fun k hk => Below.heap_setCell _ _ _ _ (by show k ≠ bx; omega))
    clear hown5 hg5 hv5 hown hsz hb5 cbx
    refine Lib.hid ?_
    go_wp2_with fail
    go_end0
    exact ⟨⟨_, rfl⟩, _, HC.out, HO.out⟩
theorem brClt {n : Nat} {E : List Ed} (G : GOk n E) (bx : Nat) : Clt n E 37 38 #[] #[.pointer (some ⟨bx, 0, none⟩)] (BrC bx) := by
  refine ⟨fun evs L w h b hb => ?_, fun evs L w w' h hs hk => ?_, enters_of Try.func37 (by kernel_rfl) rfl, enters_of Try.func38 (by kernel_rfl) rfl, fun s evs i L w hr h => ?_, fun s evs u v e a b L w hr h => ?_⟩
  · obtain ⟨sv, rfl, h1, h2⟩ := h
    rcases List.mem_cons.1 hb with rfl | hb
    · exact h1.lt
    · exact (World.ownsRow.lt h2 b (by cases hc : sv.ownBlock with
        | none => rw [hc] at hb; simp at hb
        | some x => rw [hc] at hb; simp at hb; rw [hb])).2
  · obtain ⟨sv, rfl, h1, h2⟩ := h
    refine ⟨sv, rfl, h1.of_block (hk bx (List.mem_cons_self ..)), h2.1, h2.2.imp id ?_⟩
    rintro ⟨g, cap, cur, e1, e2, e3, e4⟩
    exact ⟨g, cap, cur, e1, e2, (hk g (by rw [e1]; simp [Value.ownBlock])).trans e3, e4⟩
  · refine (meet0_any _ w).mono ?_
    rintro e w' ⟨hr, rfl⟩
    obtain ⟨sv, rfl, h1, h2⟩ := h
    exact ⟨hr, _, ⟨sv, rfl, h1, by rw [brE_meet]; exact h2⟩, Own.refl _ _⟩
  · have hle : (brE evs).length ≤ 16384 := by
      have h1 := (brE_sub evs).length_le
      have h2 := lvE_len G hr
      rw [lvE_leave, List.length_append] at h2
      have := G.m_le
      omega
    exact brLeave_any bx evs L u v e a b w h hle
end Go.Proofs.Ytcpikabhcjkkmaa
