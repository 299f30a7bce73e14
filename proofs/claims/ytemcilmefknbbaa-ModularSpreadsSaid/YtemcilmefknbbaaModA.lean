/- The walk of around of package modular, an iterator over the labels of the neighbours of a vertex in rising order. Conditions: the state was made by begin. -/
import Derived.Test.YtemcilmefknbbaaModGa
namespace Go.Proofs.Ytemcilmefknbbaa
open Go.RowKit Go.Shelf Go.Maps Go.Sort
attribute [local go_sem] Oper.semAt_some

/-- what a round leaves as it was: what lay before block n₀; of the rest, all cells but two boxes -/
structure KX (n₀ bb bg : Nat) (W W' : World) : Prop where
  below : Below n₀ W W'
  cells : ∀ (k : Nat) (c : Array Value) (t : TypeId), k ≠ bb → k ≠ bg → W.heap[k]? = some (.cells c t (0, 0)) → W'.heap[k]? = W.heap[k]?
section
variable {n₀ bb bg : Nat} {w w' w'' : World}
theorem KX.refl (n₀ bb bg : Nat) (w : World) : KX n₀ bb bg w w := ⟨Below.refl _ _, fun _ _ _ _ _ _ => rfl⟩
theorem KX.trans (h : KX n₀ bb bg w w') (k : KX n₀ bb bg w' w'') : KX n₀ bb bg w w'' :=
  ⟨h.below.trans k.below, fun b c t h1 h2 hc => (k.cells b c t h1 h2 ((h.cells b c t h1 h2 hc).trans hc)).trans (h.cells b c t h1 h2 hc)⟩
theorem KX.of_below (hb : Below w.heap.size w w') (h0 : n₀ ≤ w.heap.size) : KX n₀ bb bg w w' :=
  ⟨hb.mono h0, fun k _ _ _ _ hc => hb.block k (Array.getElem?_eq_some_iff.1 hc).1⟩
theorem kx_b (h0 : n₀ ≤ w.heap.size) (W : World) (l : Nat) (o o' : Obj) (hl : w.heap.size ≤ l) (ho : W.heap[l]? = some o) (hc : o.isCells = false) (hw : o.isWalk = false) : KX n₀ bb bg W (W.putObj l o') :=
  ⟨belowK_b h0 W l o o' hl ho hc hw, fun k c t _ _ h => World.putObj_heap_other (fun e => by subst e; rw [h] at ho; cases ho; cases hc)⟩
end
/-- a row of numbers, whichever block it lies in -/
def RT0 (w : World) (lo : Nat) (v : Value) (l : List Int) : Prop := (v = .slice none 0 0 ∧ l = []) ∨ ∃ g cap, v = .slice (some ⟨g, 0, none⟩) l.length cap ∧ lo ≤ g ∧ Row w g l.length (fun i => .int .i64 (nth l i))
theorem RT0.own {w : World} {base : Nat} {v : Value} {l : List Int} (h : w.ownsRow base 3 1 v l.length (l.map (Value.int .i64))) : RT0 w base v l := by
  rcases h.2 with ⟨h1, h2⟩ | ⟨g, cap, cur, h1, h2, h3⟩
  · exact .inl ⟨h1, List.length_eq_zero_iff.1 h2⟩
  · refine .inr ⟨g, cap, h1, h2, ?_⟩
    rw [h1] at h
    refine (Row.owned h).congr fun i hi => ?_
    simp [nth, List.getD, hi]
theorem RT0.keep {n₀ bb bg : Nat} {w w' : World} {lo : Nat} {v : Value} {l : List Int} (h : RT0 w lo v l) (hk : KX n₀ bb bg w w') (h1 : bb < lo) (h2 : bg < lo) : RT0 w' lo v l := by
  rcases h with h | ⟨g, cap, e1, e2, e3⟩
  · exact .inl h
  · obtain ⟨c, t, hb, hc⟩ := e3
    exact .inr ⟨g, cap, e1, e2, c, t, (hk.cells g c t (by omega) (by omega) hb).trans hb, hc⟩
theorem RT0.rd {w : World} {lo : Nat} {v : Value} {l : List Int} (h : RT0 w lo v l) : ∃ a cap A, v = .slice a l.length cap ∧ Sl 23 .i64 w w.heap.size v l A := by
  rcases h with ⟨rfl, rfl⟩ | ⟨g, cap, rfl, _, h4⟩
  · exact ⟨none, 0, fun _ => ⟨0, 0, none⟩, rfl, Rd.nil _⟩
  · refine ⟨_, cap, _, rfl, Rd.addr etI (fun _ => h4.lt) fun i hi j hj => ?_⟩
    obtain rfl : j = 0 := by omega
    rw [add_mk, Nat.mul_one, Nat.add_zero, Nat.zero_add]
    exact h4.cell hi
theorem abides_below {β : Type} {B : Nat} {J : β → World → Prop} (hJ : AbidesFrom B J) {s : β} {W W' : World} (hs : J s W) (hb : Below W.heap.size W W') : J s W' :=
  hJ s W W' none hs ⟨hb.os, hb.tape, hb.output, hb.size, fun k hk _ => hb.block k hk⟩ (fun r e => by cases e)
/-- slices.Sort's two contracts, at the fence that asks nothing -/
theorem sortsA (m : Nat) : AnyZI.SortsIn Try.prog Try.sortedA_ren Fence.wide m :=
  ⟨fun blk off cap ss W hH hblk hsz => callsIn_wide.2 (AnyM.slices_Sort_int Try.sortA blk off cap ss W hH hblk hsz),
   fun p cap W => callsIn_wide.2 (AnyM.slices_Sort_int_none Try.sortA p cap W)⟩

set_option maxHeartbeats 400000 in
theorem lab_call (s : Value) (v : Int) (sb : Nat) (hs : s = .pointer (some ⟨sb, 0, none⟩)) (w : World) :
    Calls Try.prog 61 #[s, .int .i64 v] w fun e w' => e = .returned (.func (.func 75) #[] #[.pointer (some ⟨w.heap.size, 0, none⟩), .pointer (some ⟨w.heap.size + 1, 0, none⟩)]) ∧ (w.alloc (.cells #[s] 68)).alloc (.cells #[.int .i64 v] 3) = w' := by
  subst hs
  go_enter Try.func61, Try.ntmps61
  go_wp2
  go_ret
  exact ⟨rfl, rfl⟩
theorem take_pre1 {l : List Int} {k : Nat} (h : k < l.length) : l.take (k + 1) = l.take k ++ [nth l k] := by
  rw [List.take_succ_eq_append_getElem h, nth_eq h]

set_option maxRecDepth 100000 in
set_option maxHeartbeats 2000000 in
theorem lab_stops (m : Nat) (hm : 5 ≤ m) (B1 B2 n₀ bb bg base sb : Nat) (g : Option Addr) (n : Nat) (E : List Ed) (L : List Int) (ed : Int) (N : Nat) (f : Int → Int) (v : Nat) (w : World) (hst : StAt w base sb (.pointer g) L ed N f) (hg : GV w w.heap.size (.pointer g) (some (n, E))) (hn : L.length = n) (hW : LWf L) (hv : v < n)
    (hB1 : w.heap[B1]? = some (.cells #[.pointer (some ⟨sb, 0, none⟩)] 68 (0, 0))) (hB2 : w.heap[B2]? = some (.cells #[.int .i64 (v : Nat)] 3 (0, 0))) (hbb : bb < w.heap.size) (hbg : bg < w.heap.size) :
    SeqR Fence.wide m Try.prog 75 #[.pointer (some ⟨B1, 0, none⟩), .pointer (some ⟨B2, 0, none⟩)] (fun x : Int => #[.int .i64 x]) (KX n₀ bb bg) (fun pre x => x ∈ nl E L v ∧ ∀ y, y ∈ pre → y < x) (fun xs => ∀ y, y ∈ xs ↔ y ∈ nl E L v) w := fun l J Jx W hWb hJ hJx hY h0 => by
  have hl1 := (Array.getElem?_eq_some_iff.1 hB1).1
  have hl2 := (Array.getElem?_eq_some_iff.1 hB2).1
  have hstW := hst.below hWb
  have hgW : GV W W.heap.size (.pointer g) (some (n, E)) := (hg.below hWb).mono hWb.size
  have hsz := hWb.size
  have c1 : W.cell? ⟨B1, 0, none⟩ = some (.pointer (some ⟨sb, 0, none⟩)) := by simp [World.cell?, (hWb.block B1 hl1).trans hB1]
  have c2 : W.cell? ⟨B2, 0, none⟩ = some (.int .i64 (v : Nat)) := by simp [World.cell?, (hWb.block B2 hl2).trans hB2]
  have HC := Lib.hid (counts_any base sb g n E L ed N f v W hstW hgW hn hW hv)
  have hdl : (nl E L v).length ≤ 16384 := by
    have h1 := deg_le E v
    have h2 := (show GOk n E from hg.good).m_le
    unfold nl; rw [List.length_map]
    exact Nat.le_trans h1 h2
  clear hWb hst hg hJx hstW hgW hB1 hB2 hn hW
  have hm1 : 1 ≤ m := by omega
  refine callsIn_of_wp Try.func75 rfl trivial ?_ rfl
  simp only [Try.ntmps75, List.size_toArray, List.length_cons, List.length_nil, Nat.reduceAdd, Nat.reduceSub, Array.replicate_succ, Array.replicate_zero, List.push_toArray, List.append_toArray, List.nil_append, List.cons_append]
  gi_wp2_with fail
  refine ⟨trivial, ?_⟩
  refine (callsIn_wide.2 HC.out).mono ?_
  rintro e w2 ⟨mb, D, rfl, hmb, hown, hD, hb2⟩
  have hJ2 : J [] w2 := abides_below hJ h0 hb2
  have hs2 := hb2.size
  have hlb := hD.labs
  obtain ⟨hk1, hk2, hk3⟩ := intKeys_nodup hD.a.tidy hD.a.ints
  have hsize : Maps.size D ≤ 16384 := Nat.le_trans (hown.size_le) hdl
  have cK : ∀ mb W, CallsIn Fence.wide (m - 1) Try.prog 77 #[.map mb] W fun e w' => e = .returned (.func (.func 83) #[] #[.pointer (some ⟨W.heap.size, 0, none⟩)]) ∧ w' = W.alloc (.cells #[.map mb] 70) := fun mb W => AnyZI.keys_in Try.keysA Fence.wide (m - 1) trivial rfl mb W
  have hseq : SeqGives Fence.wide (m - 1 - 1 - 1 - 1) Try.prog 83 #[.pointer (some ⟨w2.heap.size, 0, none⟩)] encZ (fun ss => ss.Perm (intKeys D)) (Maps.size D) (w2.alloc (.cells #[.map (some mb)] 70)) :=
    AnyZI.keys_gives (ρ := Try.keysA_ren) { Try.keysA with } Fence.wide _ trivial rfl (by omega) w2.heap.size mb _ _ _ (by simp) (by simp) (hown.alloc _)
  have cS := AnyZI.sorted_in Try.sortedA Fence.wide (m - 1) trivial trivial trivial trivial rfl (by omega) (sortsA _) (enters_of Try.func67 (by kernel_rfl) rfl) 83 #[.pointer (some ⟨w2.heap.size, 0, none⟩)] trivial (enters_of Try.func83 (by kernel_rfl) rfl) _ _ (by unfold maxLen; omega) (by omega) _ hseq
  change CallsIn _ _ Try.prog 76 _ _ _ at cS
  clear hseq
  gi_wp2_with fail
  refine ⟨trivial, ?_⟩
  refine (cK _ _).mono ?_
  rintro e w' ⟨rfl, rfl⟩
  gi_wp2_with fail
  refine ⟨trivial, ?_⟩
  refine cS.mono ?_
  rintro e w3 ⟨x, ss, rfl, hS, hrow, hnil, hb⟩
  have hb3 : Below w2.heap.size w2 w3 := ((Below.refl _ w2).alloc (Nat.le_refl _) _).trans (hb.mono (by simp))
  have hJ3 : J [] w3 := abides_below hJ hJ2 hb3
  have es : ss.mergeSort (fun x y => decide (x ≤ y)) = labs D := mergeSort_of_perm_i hS
  have el : ss.length = (labs D).length := by rw [← es, List.length_mergeSort]
  rw [es, el] at hrow
  have hlen : (labs D).length ≤ 16384 := by rw [← el, hS.length_eq, hk3]; exact hsize
  have hR := RT0.own hrow
  have hs3 := hb3.size
  have hR3 : RT0 w3 W.heap.size x (labs D) := by
    rcases hR with h | ⟨g, cap, e1, e2, e3⟩
    · exact .inl h
    · exact .inr ⟨g, cap, e1, by simp at e2; omega, e3⟩
  generalize labs D = S at *
  obtain ⟨a, cap, A, rfl, -⟩ := hR3.rd
  have HR3 := Lib.hid hR3
  clear cK cS hrow hnil hb hJ2 hb3 hS es el hR hR3 hk1 hk2 hk3 hsize hown hD hb2
  gi_wp2_with fail
  gi_loopw [12] (fun p wr => ∃ k : Nat, k ≤ S.length ∧ p = .int .i64 k ∧ J (S.take k) wr ∧ Hid (RT0 wr W.heap.size (.slice a S.length cap) S)) (fun p _ => S.length - (intOf p).toNat)
  case atStart => exact ⟨0, Nat.zero_le _, rfl, hJ3, HR3⟩
  case round =>
    clear hJ3 HR3
    obtain ⟨k, hk, rfl, hJr, Hr⟩ := hrel
    by_cases hlt : k < S.length
    · obtain ⟨a', cap', A, hv2, hA⟩ := Hr.out.rd
      cases hv2
      have ix := hA.ix k hlt
      have hc := Sl.at hA hlt
      have htk := Lib.hid (take_pre1 hlt)
      have hmem : nth S k ∈ nl E L v := (hlb.2 _).1 (by rw [nth_eq hlt]; exact List.getElem_mem hlt)
      have hord : ∀ y, y ∈ S.take k → y < nth S k := fun y hy => by
        obtain ⟨i, hi, rfl⟩ := List.mem_iff_getElem.1 hy
        rw [List.length_take] at hi
        rw [List.getElem_take, nth_eq hlt]
        exact List.pairwise_iff_getElem.1 hlb.1 i k (by omega) hlt (by omega)
      obtain ⟨fn, tmps, assign, body, hy, hR⟩ := hY _ _ wr hJr ⟨hmem, hord⟩
      clear hmem hord hA hJr
      gi_wp2
      refine hR.mono ?_
      rintro e W3 (⟨rfl, hJ4, hk4⟩ | ⟨rfl, hJx4⟩)
      · gi_wp2
        go_roundw
        case rel => exact ⟨k + 1, by omega, by go_num, by rw [htk.out]; exact hJ4, Lib.hid (Hr.out.keep hk4 (by omega) (by omega))⟩
        case measure => simp only [intOf]; omega
      · gi_wp2
        refine bodyPost_ret (results_none rfl _ _ _) rfl ?_
        exact ⟨⟨_, rfl⟩, .inr ⟨_, hJx4⟩⟩
    · obtain rfl : k = S.length := by omega
      gi_wp2_with fail
      go_end0
      exact ⟨⟨_, rfl⟩, .inl ⟨S, hlb.2, by have := hJr; rwa [List.take_length] at this⟩⟩
end Go.Proofs.Ytemcilmefknbbaa
