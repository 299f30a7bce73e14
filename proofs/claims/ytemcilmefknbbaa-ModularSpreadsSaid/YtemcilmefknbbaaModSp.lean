/- The walk of Spread of package modular: the lists of neighbours. Conditions: the graph was made by New, or it is nil or zero; labels are given as cells, and are numbers of Go's int. -/
import Derived.Test.YtemcilmefknbbaaModP
import Derived.Test.YtemcilmefknbbaaModFr
import Derived.Test.YtemcilmefknbbaaModSd
import Derived.Test.YtemcilmefknbbaaRegR
import Derived.Test.YtemcilmefknbbaaEqual
import Derived.Test.YtemcilmefknbbaaOwnR
namespace Go.Proofs.Ytemcilmefknbbaa
open Go.RowKit Go.Shelf Go.Maps Go.Sort
attribute [local go_sem] Oper.semAt_some

theorem Try.infoSI : (Try.prog.info? 23).map (fun i => (i.zero, i.size, i.bytes)) = some (some (.slice none 0 0), 1, 24) := by kernel_rfl
/-- the other ends of the edges of a vertex -/
def nbE (E : List Ed) (v : Nat) : List Int := (adj E v).map (oth E (v : Int))
abbrev EndsR (base eb n : Nat) (R : Nat → List Int) (w : World) : Prop := OwnRows 23 3 1 encI base eb n R w
/-- where the first loop of Spread stands -/
def SSt (g : Option Addr) (n : Nat) (E : List Ed) (la : Option Addr) (lc : Nat) (L : List Int) (rounds : Nat) (w : World) (a : Act) (wr : World) : Prop :=
  ∃ (k : Nat) (Ds : List Nat) (u10 u11 u12 u34 u35 u36 u37 u38 u39 u40 u41 u42 u43 u44 u45 u46 u47 u48 u49 u50 u51 : Value), k ≤ n ∧ EndsR w.heap.size w.heap.size n (fun i => if i < k then nbE E i else []) wr ∧ Boxed wr (w.heap.size + 1) 87 (.slice (some ⟨w.heap.size, 0, none⟩) n n) ∧ Below w.heap.size w wr ∧ Marks w.heap.size Ds wr ∧ a = { tmps := #[.pointer g, .slice la L.length lc, .int .i64 (rounds : Nat), undef, undef, undef, .slice none 0 0, .int .i64 0, .int .i64 0, .pointer (some ⟨w.heap.size + 1, 0, none⟩), u10, u11, u12, undef, undef, undef, .pointer g, .slice la L.length lc, .int .i64 0, .int .i64 0, .bool false, undef, .int .i64 (rounds : Nat), .bool false, .bool false, .int .i64 (rounds : Nat), .bool false, .bool false, .pointer g, .int .i64 (n : Nat), .slice (some ⟨w.heap.size, 0, none⟩) n n, .slice (some ⟨w.heap.size, 0, none⟩) n n, .int .i64 (n : Nat), .int .i64 (k : Nat), u34, u35, u36, u37, u38, u39, u40, u41, u42, u43, u44, u45, u46, u47, u48, u49, u50, u51, undef, undef, undef, undef, undef, undef, undef, undef, undef, undef, undef, undef, undef, undef, undef, undef, undef, undef, undef, undef, undef, undef, undef, undef, undef, undef, undef, undef, undef, undef, undef, undef], defers := colD Ds }
theorem around_nb {n : Nat} {E : List Ed} {v : Nat} (hv : v < n) : (around (some (n, E)) (v : Int)).map (·.2) = nbE E v := by
  unfold around nbE
  rw [gAdj, if_pos (gHas_yes (show 0 ≤ (v : Int) ∧ (v : Int) < (n : Int) by omega)), List.map_map]
  rfl
theorem nbE_nl (E : List Ed) (L : List Int) (v : Nat) : labsOf L (nbE E v) = nl E L v := by
  unfold labsOf nbE nl
  rw [List.map_map]; rfl
theorem rd_took {t : TypeId} {size B n lo : Nat} {v : Value} {f : Nat → Nat → Value} {A : Nat → Addr} {w w' : World} (h : Rd t size w B v n f A) (ht : Took lo w w') : Rd t size w' B v n f A :=
  ⟨h.ix, h.lt, fun i hi j hj => by
    have h1 := h.cell i hi j hj
    obtain ⟨o, ho, hc⟩ := cells_of_cell h1
    exact (World.cell?_of_block ((ht.same _ o ho (fun d e => by subst e; cases hc)).trans ho.symm)).trans h1⟩
theorem nbE_lt {n : Nat} {E : List Ed} (G : GOk n E) {v : Nat} {i : Nat} (hi : i < (nbE E v).length) : ∃ x : Nat, nth (nbE E v) i = x ∧ x < n := by
  have hm : nth (nbE E v) i ∈ nbE E v := by rw [nth_eq hi]; exact List.getElem_mem hi
  unfold nbE at hm
  obtain ⟨k, hk, he⟩ := List.mem_map.1 hm
  obtain ⟨h1, h2⟩ := mem_adj.1 hk
  have h3 := G.ends k h1
  simp only [inc, decide_eq_true_eq] at h2
  refine ⟨(nth (nbE E v) i).toNat, ?_, ?_⟩
  · unfold nbE; rw [← he]; unfold oth; split <;> omega
  · unfold nbE; rw [← he]; unfold oth; split <;> omega
/-- what Spread answers -/
def SRes (E : List Ed) (L : List Int) (rounds : Nat) (w : World) (e : Ending) (w' : World) : Prop :=
  ∃ a c A, e = .returned (.tuple #[.slice a L.length c, .int .i64 0]) ∧ Rd 23 1 w' w'.heap.size (.slice a L.length c) L.length (nums .i64 (spr E rounds L)) A ∧ Below w.heap.size w w'
set_option maxRecDepth 100000 in
set_option maxHeartbeats 4000000 in
theorem spread_any (B : Nat) (g : Option Addr) (n : Nat) (E : List Ed) (la : Option Addr) (lc : Nat) (LA : Nat → Addr) (L : List Int) (rounds : Nat) (w : World) (h : GV w B (.pointer g) (some (n, E))) (hL : Sl 23 .i64 w B (.slice la L.length lc) L LA) (hB : B ≤ w.heap.size) (hn : L.length = n) (hr : rounds ≤ 1000) :
    Calls Try.prog 27 #[.pointer g, .slice la L.length lc, .int .i64 rounds] w (SRes E L rounds w) := by
  refine (callsIn_wide (n := 12)).1 ?_
  have hz : mErr (some (n, E)) L.length = 0 := by unfold mErr; simp [gN, hn]
  have HV := Lib.hid (mvalid_is (a := la) (cap := lc) hz h)
  have hgn : n ≤ 4096 := (show GOk n E from h.good).n_le
  have HGN := n_any B (.pointer g) (some (n, E)) w h
  rw [show gN (some (n, E)) = n from rfl] at HGN
  have HGN := Lib.hid HGN
  have hmk : ∀ w, (Instr.makeSlice 87 (.int .i64 (n : Nat)) (.int .i64 (n : Nat))).run Try.prog w = .ok (.slice (some ⟨w.heap.size, 0, none⟩) n n) (w.alloc (.cells (madeCells #[.slice none 0 0] n) 23)) := fun w =>
    run_make_row' (P := Try.prog) 87 23 (.slice none 0 0) 24 Try.underlying87 Try.infoSI rfl .i64 .i64 n (by omega) (by omega) w
  have k1 : decide ((rounds : Int) < 0) = false := decide_eq_false (by omega)
  have k2 : decide ((rounds : Int) > 1000) = false := decide_eq_false (by omega)
  have Hn := Lib.hid hn
  have HG := Lib.hid h
  have HLs := Lib.hid hL
  have hg0 := h.good
  clear hL hn h
  refine callsIn_of_wp_marks Try.func27 rfl trivial ?_ rfl
  simp only [Try.ntmps27, List.size_toArray, List.length_cons, List.length_nil, Nat.reduceAdd, Nat.reduceSub, Array.replicate_succ, Array.replicate_zero, List.push_toArray, List.append_toArray, List.nil_append, List.cons_append]
  gi_wp2_with fail
  refine ⟨trivial, ?_⟩
  refine (callsIn_wide.2 HV.out).mono ?_
  rintro e w' ⟨rfl, rfl⟩
  gi_wp2_with fail
  refine ⟨trivial, ?_⟩
  refine (callsIn_wide.2 HGN.out).mono ?_
  rintro e w' ⟨rfl, rfl⟩
  gi_wp2_with fail
  have R0 : EndsR w.heap.size w.heap.size n (fun i => if i < 0 then nbE E i else []) (((w.alloc (.cells (madeCells #[.slice none 0 0] n) 23)).alloc (.cells #[.slice (some ⟨w.heap.size, 0, none⟩) n n] 87))) :=
    ((OwnRows.start 23 3 1 encI w.heap.size n w (Nat.le_refl _) (by decide)).below ((Below.refl _ _).alloc (Nat.le_refl _) _)).congr fun i _ => by rw [if_neg (by omega)]
  have X0 : Boxed (((w.alloc (.cells (madeCells #[.slice none 0 0] n) 23)).alloc (.cells #[.slice (some ⟨w.heap.size, 0, none⟩) n n] 87))) (w.heap.size + 1) 87 (.slice (some ⟨w.heap.size, 0, none⟩) n n) := by
    have := Boxed.new (w.alloc (.cells (madeCells #[.slice none 0 0] n) 23)) 87 (.slice (some ⟨w.heap.size, 0, none⟩) n n)
    rwa [World.size_alloc] at this
  have B0 : Below w.heap.size w (((w.alloc (.cells (madeCells #[.slice none 0 0] n) 23)).alloc (.cells #[.slice (some ⟨w.heap.size, 0, none⟩) n n] 87))) := ((Below.refl _ w).alloc (Nat.le_refl _) _).alloc (by simp) _
  refine wpIn_loop (fun a wr => SSt g n E la lc L rounds w a wr) (fun a _ => n - (intOf (a.tmps.getD 33 undef)).toNat) ?_ ?_
  · exact ⟨0, [], _, _, _, _, _, _, _, _, _, _, _, _, _, _, _, _, _, _, _, _, _, Nat.zero_le _, R0, X0, B0, Marks.nil _ _, rfl⟩
  rintro a wr ⟨k, Ds, u10, u11, u12, u34, u35, u36, u37, u38, u39, u40, u41, u42, u43, u44, u45, u46, u47, u48, u49, u50, u51, hk, R, X, bel, hM, rfl⟩
  clear R0 X0 B0 hmk
  by_cases hlt : k < n
  · have hszr := bel.size
    have hlb := R.lt
    have hxb := X.lt
    have hgr := HG.out.below (bel.mono hB)
    gi_wp2_with fail
    refine ⟨trivial, ?_⟩
    refine (callsIn_wide.2 (around_call _ _ _)).mono ?_
    rintro e w' ⟨rfl, rfl⟩
    gi_wp2_with fail
    obtain ⟨W0, hW0⟩ : ∃ W0, (((wr.alloc (.cells #[.int .i64 (k : Nat)] 3)).alloc (.cells #[.pointer g] 28)).alloc (.cells #[.int .i64 (k : Nat)] 3)) = W0 := ⟨_, rfl⟩
    have hs0 : W0.heap.size = wr.heap.size + 3 := by rw [← hW0]; simp
    have hB0 : Below wr.heap.size wr W0 := by rw [← hW0]; exact (((Below.refl _ wr).alloc (Nat.le_refl _) _).alloc (by simp) _).alloc (by simp; omega) _
    have q0 : Boxed W0 wr.heap.size 3 (.int .i64 (k : Nat)) := by
      rw [← hW0]; exact ((Boxed.new wr 3 (.int .i64 (k : Nat))).alloc _).alloc _
    have q1 : W0.heap[wr.heap.size + 1]? = some (.cells #[.pointer g] 28 (0, 0)) := by
      rw [← hW0, Below.heap_alloc _ _ _ (by simp only [World.size_alloc]; omega)]
      have := heap_alloc_new (wr.alloc (.cells #[.int .i64 (k : Nat)] 3)) (.cells #[.pointer g] 28)
      rwa [World.size_alloc] at this
    have q2 : W0.heap[wr.heap.size + 1 + 1]? = some (.cells #[.int .i64 (k : Nat)] 3 (0, 0)) := by
      rw [← hW0]
      have := heap_alloc_new ((wr.alloc (.cells #[.int .i64 (k : Nat)] 3)).alloc (.cells #[.pointer g] 28)) (.cells #[.int .i64 (k : Nat)] 3)
      rwa [World.size_alloc, World.size_alloc] at this
    have R0 : EndsR w.heap.size w.heap.size n (fun i => if i < k then nbE E i else if i = k then ([] : List (Nat × Int)).map (·.2) else []) W0 := (R.below hB0).congr fun i _ => by
      by_cases h1 : i < k
      · rw [if_pos h1, if_pos h1]
      · rw [if_neg h1, if_neg h1]; simp
    have X0 : Boxed W0 (w.heap.size + 1) 87 (.slice (some ⟨w.heap.size, 0, none⟩) n n) := (hB0.block _ hxb).trans X
    have hgW : GV W0 B (.pointer g) (some (n, E)) := hgr.below (hB0.mono (by omega))
    have bel0 : Below w.heap.size w W0 := bel.trans (hB0.mono hszr)
    have free0 : ∀ v b, W0.cell? ⟨w.heap.size, k, none⟩ = some v → v.ownBlock = some b → (b < wr.heap.size ∨ W0.heap.size ≤ b) ∧ w.heap.size + 1 ≠ b := fun v b hv hb => by
      obtain ⟨v0, c1, _, c2⟩ := R.at hlt
      have c3 := (hB0.cell (p := ⟨w.heap.size, k, none⟩) hlb).trans c1
      rw [hv] at c3
      cases c3
      refine ⟨.inl (c2.lt b hb).2, fun e => X.not_row (by decide) c2 (by rw [e, hb])⟩
    have hHD : ∀ D, D ∈ Ds → D < wr.heap.size := fun D hD => hM.lt hD
    have hM0 := Lib.hid (hM.keep (KeepD.of_below hB0))
    have HHD := Lib.hid hHD
    clear hM hHD R X hgr bel
    rw [hW0]
    clear hW0
    refine rangeR (F := Fence.wide) rfl (by omega) (gf := 66) (lb := #[.pointer (some ⟨wr.heap.size + 1, 0, none⟩), .pointer (some ⟨wr.heap.size + 1 + 1, 0, none⟩)]) rfl trivial (enters_of Try.func66 (by kernel_rfl) rfl)
      (around_stops 11 (by omega) (wr.heap.size + 1) (wr.heap.size + 1 + 1) B g k (some (n, E)) W0 hgW q1 q2 (by omega)) keepB_t (keepB_b (by omega) (by omega) (by omega)) (Below.refl _ _) (fun _ => rfl)
      (fun pre W => (EndsR w.heap.size w.heap.size n (fun i => if i < k then nbE E i else if i = k then pre.map (·.2) else []) W ∧ Boxed W (w.heap.size + 1) 87 (.slice (some ⟨w.heap.size, 0, none⟩) n n) ∧ Boxed W wr.heap.size 3 (.int .i64 (k : Nat)) ∧ (∀ v b, W.cell? ⟨w.heap.size, k, none⟩ = some v → v.ownBlock = some b → (b < wr.heap.size ∨ W0.heap.size ≤ b) ∧ w.heap.size + 1 ≠ b) ∧ (∀ (D : Nat) (d : Option (List Deferred)), W0.heap[D]? = some (Obj.deferred d) → W.heap[D]? = some (Obj.deferred d)) ∧ W0.heap.size ≤ W.heap.size) ∧ Below w.heap.size w W)
      (fun _ _ _ => False)
      (OwnFrom.and (fun s A B row hs hg hr => ⟨hs.1.own hg (fun r e => (hr r e).2), boxed_own _ _ (fun _ : Unit => .slice (some ⟨w.heap.size, 0, none⟩) n n) () A B row hs.2.1 hg (fun r e => (hr r e).2), boxed_own _ _ (fun _ : Unit => .int .i64 (k : Nat)) () A B row hs.2.2.1 hg (fun r e => (hr r e).2),
          fun v b hv hb => by
            obtain ⟨v0, c1, _, _⟩ := hs.1.at hlt
            have c2 := cell_kept c1 hg (fun r e => (hr r e).2)
            rw [hv] at c2; cases c2
            exact hs.2.2.2.1 v b c1 hb,
          fun D d hD => by
            have h1 := hs.2.2.2.2.1 D d hD
            have h2 := (Array.getElem?_eq_some_iff.1 hD).1
            exact (hg.block D (by have := hs.2.2.2.2.2; omega) (fun e => by have := (hr _ e.symm).1; omega)).trans h1,
          Nat.le_trans hs.2.2.2.2.2 hg.size⟩)
        (ownFrom_below (Nat.le_refl _) (by omega)))
      (fun _ _ _ _ _ hs _ _ => hs)
      ⟨⟨R0, X0, q0, free0, fun _ _ h => h, Nat.le_refl _⟩, bel0⟩
      (fun _ x a' _ => a' = { tmps := #[.pointer g, .slice la L.length lc, .int .i64 (rounds : Nat), undef, undef, undef, .slice none 0 0, .int .i64 0, .int .i64 0, .pointer (some ⟨w.heap.size + 1, 0, none⟩), .pointer (some ⟨wr.heap.size, 0, none⟩), u11, .int .i64 x.2, undef, undef, undef, .pointer g, .slice la L.length lc, .int .i64 0, .int .i64 0, .bool false, undef, .int .i64 (rounds : Nat), .bool false, .bool false, .int .i64 (rounds : Nat), .bool false, .bool false, .pointer g, .int .i64 (n : Nat), .slice (some ⟨w.heap.size, 0, none⟩) n n, .slice (some ⟨w.heap.size, 0, none⟩) n n, .int .i64 (n : Nat), .int .i64 (k : Nat), .bool true, .int .i64 (k : Nat), .pointer g, .int .i64 (k : Nat), .func (.func 66) #[] #[.pointer (some ⟨wr.heap.size + 1, 0, none⟩), .pointer (some ⟨wr.heap.size + 1 + 1, 0, none⟩)], .int .i64 (x.1 : Nat), .int .i64 x.2, u41, u42, u43, u44, u45, u46, u47, u48, u49, u50, u51, undef, undef, undef, undef, undef, undef, undef, undef, undef, undef, undef, undef, undef, undef, undef, undef, undef, undef, undef, undef, undef, undef, undef, undef, undef, undef, undef, undef, undef, undef, undef, undef], defers := [] })
      (fun _ _ _ _ _ _ _ hs _ _ => hs) ?assign ?body ?done ?stop
    case assign =>
      intro l pre x W K hI hR hK
      gi_wp2
      exact hK _ _ (KeepsFrom.refl _ _) ⟨Below.refl _ _, rfl, rfl⟩ hI rfl
    case body =>
      rintro l pre x a' W hl - ⟨⟨R, X, V, free, kd, hsW⟩, belW⟩ rfl hR
      have hki : (0 : Int) ≤ k ∧ (k : Int) < n := by omega
      have hlen : pre.length ≤ 16384 := by
        have h5 := hR.length_le
        have h6 := gAdj_len hgW (k : Int)
        simp [around] at h5
        omega
      obtain ⟨v, cv, fv, ow⟩ := R.at hlt
      rw [if_neg (Nat.lt_irrefl k), if_pos rfl, List.length_map] at ow
      have Rd : EndsR w.heap.size w.heap.size n (fun i => if i < k then nbE E i else if i = k then pre.map (·.2) else []) W.drew := R.below (Below.refl _ W).drew
      have owd : W.drew.ownsRow w.heap.size 3 1 v pre.length (List.flatMap encI (pre.map (·.2))) := ow
      have cv0 : W.drew.cell? ⟨w.heap.size, k, none⟩ = some v := cv
      have cv1 : ((W.alloc (.cells #[.int .i64 x.2] 3)).drew).cell? ⟨w.heap.size, k, none⟩ = some v := by
        have : (W.alloc (.cells #[.int .i64 x.2] 3)).cell? ⟨w.heap.size, k, none⟩ = some v := by
          rw [World.cell?_alloc_some _ _ _ (by rw [cv]; rfl)]; exact cv
        exact this
      have hbs : w.heap.size ≤ W.drew.heap.size := belW.size
      have FIN := Lib.hid (show ∀ (g1 cp : Nat) (w1 : World), w1.ownsRow w.heap.size 3 1 (.slice (some ⟨g1, 0, none⟩) (pre.length + 1 : Nat) cp) (pre.length + 1) (List.flatMap encI (pre.map (·.2)) ++ (#[Value.int .i64 x.2] : Array Value).toList) → W.drew.grownBy w1 v.ownBlock → Moved W.drew v g1 →
          (w1.cell? ⟨w.heap.size, k, none⟩ = some v ∧ w1.frozen? ⟨w.heap.size, k, none⟩ = false ∧ Boxed w1 (w.heap.size + 1) 87 (.slice (some ⟨w.heap.size, 0, none⟩) n n) ∧ Boxed w1 wr.heap.size 3 (.int .i64 (k : Nat))) ∧
          (KeepsFrom W0.heap.size W (w1.setCell ⟨w.heap.size, k, none⟩ (.slice (some ⟨g1, 0, none⟩) (pre.length + 1 : Nat) cp)) ∧ KeepB B (wr.heap.size + 1) (wr.heap.size + 1 + 1) W (w1.setCell ⟨w.heap.size, k, none⟩ (.slice (some ⟨g1, 0, none⟩) (pre.length + 1 : Nat) cp)) ∧
          (EndsR w.heap.size w.heap.size n (fun i => if i < k then nbE E i else if i = k then (pre ++ [x]).map (·.2) else []) (w1.setCell ⟨w.heap.size, k, none⟩ (.slice (some ⟨g1, 0, none⟩) (pre.length + 1 : Nat) cp)) ∧ Boxed (w1.setCell ⟨w.heap.size, k, none⟩ (.slice (some ⟨g1, 0, none⟩) (pre.length + 1 : Nat) cp)) (w.heap.size + 1) 87 (.slice (some ⟨w.heap.size, 0, none⟩) n n) ∧ Boxed (w1.setCell ⟨w.heap.size, k, none⟩ (.slice (some ⟨g1, 0, none⟩) (pre.length + 1 : Nat) cp)) wr.heap.size 3 (.int .i64 (k : Nat)) ∧ (∀ v' b, (w1.setCell ⟨w.heap.size, k, none⟩ (.slice (some ⟨g1, 0, none⟩) (pre.length + 1 : Nat) cp)).cell? ⟨w.heap.size, k, none⟩ = some v' → v'.ownBlock = some b → (b < wr.heap.size ∨ W0.heap.size ≤ b) ∧ w.heap.size + 1 ≠ b) ∧ (∀ (D : Nat) (d : Option (List Deferred)), W0.heap[D]? = some (Obj.deferred d) → (w1.setCell ⟨w.heap.size, k, none⟩ (.slice (some ⟨g1, 0, none⟩) (pre.length + 1 : Nat) cp)).heap[D]? = some (Obj.deferred d)) ∧ W0.heap.size ≤ (w1.setCell ⟨w.heap.size, k, none⟩ (.slice (some ⟨g1, 0, none⟩) (pre.length + 1 : Nat) cp)).heap.size) ∧ Below w.heap.size w (w1.setCell ⟨w.heap.size, k, none⟩ (.slice (some ⟨g1, 0, none⟩) (pre.length + 1 : Nat) cp))) from by
        intro g1 cp w1 hown1 hg1 hmv
        have hne1 : v.ownBlock ≠ some (w.heap.size + 1) := fun e => (free v _ cv e).2 rfl
        have hneB : ∀ b, wr.heap.size ≤ b → b < W0.heap.size → v.ownBlock ≠ some b := fun b h1 h2 e => by have := (free v _ cv e).1; omega
        have hsz1 : W.heap.size ≤ w1.heap.size := hg1.size
        have X1 : Boxed w1 (w.heap.size + 1) 87 (.slice (some ⟨w.heap.size, 0, none⟩) n n) := grown_box (w := W.drew) hg1 X hne1
        have V1 : Boxed w1 wr.heap.size 3 (.int .i64 (k : Nat)) := grown_box (w := W.drew) hg1 V (hneB _ (Nat.le_refl _) (by omega))
        have hnE : v.ownBlock ≠ some w.heap.size := fun e => by
          rcases ow.2 with ⟨e1, _⟩ | ⟨g, cap, cur, e1, _, e3, _⟩
          · rw [e1] at e; cases e
          · rw [e1] at e
            have e : g = w.heap.size := Option.some.inj e
            subst e
            obtain ⟨V', ⟨cc, k1, _⟩, _⟩ := R.ex
            rw [k1] at e3
            simp at e3
        have hEb : w1.heap[w.heap.size]? = W.heap[w.heap.size]? := hg1.block _ (show w.heap.size < W.heap.size by omega) (fun e => hnE e.symm)
        have c1 : w1.cell? ⟨w.heap.size, k, none⟩ = some v := (World.cell?_of_block hEb).trans cv
        have f1 : w1.frozen? ⟨w.heap.size, k, none⟩ = false := (World.frozen?_of_block hEb).trans fv
        have hp := OwnRows.push (x := x.2) (cap := cp) Rd hlt cv0 (by simp only [Nat.lt_irrefl, if_false, if_true, List.length_map]; exact hown1) (by simp only [Nat.lt_irrefl, if_false, if_true, List.length_map]) hg1 hmv
        refine ⟨⟨c1, f1, X1, V1⟩, ⟨by simpa [World.setCell] using hsz1, fun b o hb ho hc => ?_⟩, ⟨?_, ?_, ?_⟩, ⟨hp.congr fun i _ => ?_, box_far X1 (by show w.heap.size + 1 ≠ w.heap.size; omega) _, box_far V1 (by show wr.heap.size ≠ w.heap.size; omega) _, fun v' b hv' hb => ?_, fun D d hD => ?_, ?_⟩, ?_⟩
        · exact (Below.heap_setCell _ _ _ _ (by show b ≠ w.heap.size; omega)).trans (grown_others (w := W.drew) owd hg1 ho hc)
        · exact ((((Below.refl B W).drew).grown hg1 (Nat.le_trans hB hbs) (fun j e => Nat.le_trans hB (ow.lt j e).1))).setCell (p := ⟨w.heap.size, k, none⟩) hB _
        · exact (Below.heap_setCell _ _ _ _ (by show wr.heap.size + 1 ≠ w.heap.size; omega)).trans (hg1.block _ (by show _ < W.heap.size; omega) (fun e => hneB _ (by omega) (by omega) e.symm))
        · exact (Below.heap_setCell _ _ _ _ (by show wr.heap.size + 1 + 1 ≠ w.heap.size; omega)).trans (hg1.block _ (by show _ < W.heap.size; omega) (fun e => hneB _ (by omega) (by omega) e.symm))
        · by_cases e1 : i = k
          · subst e1; simp
          · simp [e1]
        · rw [World.cell?_setCell_same _ _ _ c1] at hv'
          cases hv'
          have hb : g1 = b := Option.some.inj hb
          subst hb
          rcases hmv with c | c
          · exact free v _ cv c
          · have c : W.heap.size ≤ g1 := c
            exact ⟨.inr (by omega), by omega⟩
        · refine (Below.heap_setCell _ _ _ _ (fun e => ?_)).trans (grown_others (w := W.drew) owd hg1 (kd D d hD) rfl)
          have e : D = w.heap.size := e
          subst e
          obtain ⟨V', ⟨cc, k1, _⟩, _⟩ := R.ex
          have := kd _ d hD
          rw [k1] at this; cases this
        · have : (w1.setCell ⟨w.heap.size, k, none⟩ (.slice (some ⟨g1, 0, none⟩) (pre.length + 1 : Nat) cp)).heap.size = w1.heap.size := by simp [World.setCell]
          omega
        · exact ((belW.drew).grown hg1 hbs (fun j e => (ow.lt j e).1)).setCell (p := ⟨w.heap.size, k, none⟩) (Nat.le_refl _) _)
      gi_wp2_with fail
      have HS : W.drew.cell? ⟨w.heap.size + 1, 0, none⟩ = some (.slice (some ⟨w.heap.size, 0, none⟩) n n) ∧ W.drew.cell? ⟨wr.heap.size, 0, none⟩ = some (.int .i64 (k : Nat)) := ⟨X.cell, V.cell⟩
      have HS1 : ((W.alloc (.cells #[.int .i64 x.2] 3)).drew).cell? ⟨w.heap.size + 1, 0, none⟩ = some (.slice (some ⟨w.heap.size, 0, none⟩) n n) ∧ ((W.alloc (.cells #[.int .i64 x.2] 3)).drew).cell? ⟨wr.heap.size, 0, none⟩ = some (.int .i64 (k : Nat)) := ⟨(X.alloc _).cell, (V.alloc _).cell⟩
      clear R X V free kd hR Rd ow cv fv
      refine region_round (fun w' => w'.cell? ⟨w.heap.size + 1, 0, none⟩ = some (.slice (some ⟨w.heap.size, 0, none⟩) n n) ∧ w'.cell? ⟨wr.heap.size, 0, none⟩ = some (.int .i64 (k : Nat))) (by kernel_rfl) (by kernel_rfl) ?_
      refine take_at (i := 0) (d := 41) (v := ?_) rfl rfl (by kernel_rfl) (by kernel_rfl) (by kernel_rfl) (fun _ _ _ _ => NormalOnly.any) rfl ?hy1 HS ?rest1
      case hy1 => intro w' hSw; (try dsimp only at hSw); go_simp; try (with_reducible rfl)
      try simp only [List.setIfInBounds_toArray, List.set_cons_zero, List.set_cons_succ]
      refine take_at (i := 1) (d := 42) (v := ?_) rfl rfl (by kernel_rfl) (by kernel_rfl) (by kernel_rfl) (fun _ _ _ _ => NormalOnly.any) rfl ?hy2 HS ?rest2
      case hy2 => intro w' hSw; (try dsimp only at hSw); go_simp; try (with_reducible rfl)
      try simp only [List.setIfInBounds_toArray, List.set_cons_zero, List.set_cons_succ]
      refine take_at (i := 2) (d := 43) (v := ?_) rfl rfl (by kernel_rfl) (by kernel_rfl) (by kernel_rfl) (fun _ _ _ _ => NormalOnly.any) rfl ?hy3 HS ?rest3
      case hy3 => intro w' hSw; (try dsimp only at hSw); go_simp; try (with_reducible rfl)
      try simp only [List.setIfInBounds_toArray, List.set_cons_zero, List.set_cons_succ]
      refine take_at (i := 3) (d := 44) (v := ?_) rfl rfl (by kernel_rfl) (by kernel_rfl) (by kernel_rfl) (fun _ _ _ _ => NormalOnly.any) rfl ?hy4 HS ?rest4
      case hy4 => intro w' hSw; (try dsimp only at hSw); go_simp; try (with_reducible rfl)
      try simp only [List.setIfInBounds_toArray, List.set_cons_zero, List.set_cons_succ]
      refine take_at (i := 4) (d := 45) (v := ?_) rfl rfl (by kernel_rfl) (by kernel_rfl) (by kernel_rfl) (fun _ _ _ _ => NormalOnly.any) rfl ?hy5 HS ?rest5
      case hy5 => intro w' hSw; (try dsimp only at hSw); go_simp; try (with_reducible rfl)
      try simp only [List.setIfInBounds_toArray, List.set_cons_zero, List.set_cons_succ]
      refine take_at (i := 6) (d := 47) (v := ?_) rfl rfl (by kernel_rfl) (by kernel_rfl) (by kernel_rfl) (fun _ _ _ _ => NormalOnly.any) rfl ?hy6 HS ?rest6
      case hy6 => intro w' hSw; (try dsimp only at hSw); go_simp; try (with_reducible rfl)
      try simp only [List.setIfInBounds_toArray, List.set_cons_zero, List.set_cons_succ]
      refine wpAnyH_ready (rs := [5, 7]) (by kernel_rfl) (by simp) ?_
      refine AllReadyH.cons rfl (fun K hK => ?_) (AllReadyH.cons rfl (fun K hK => ?_) AllReadyH.nil)
      · go_simp
        refine hK.out _ _ HS (fun _ => ?_)
        clear hK
        refine wpAnyH_ready (rs := [7]) (by kernel_rfl) (by simp) ?_
        refine AllReadyH.cons rfl (fun K hK => ?_) AllReadyH.nil
        go_simp
        refine hK.out _ _ HS1 (fun _ => ?_)
        clear hK
        refine wpAnyH_ready (rs := [8]) (by kernel_rfl) (by simp) ?_
        refine AllReadyH.cons rfl (fun K hK => ?_) AllReadyH.nil
        refine step_pushM (w0 := W.drew) rfl etI rfl _ _ rfl w.heap.size v pre.length _ owd rfl #[.int .i64 x.2] _ rfl rfl rfl (by simp [Value.oneCell']) (by omega) (by omega) hbs ?_
        intro g1 cp w1 hown1 hg1 hmv
        obtain ⟨⟨c1, f1, X1, V1⟩, FF⟩ := FIN.out g1 cp w1 hown1 hg1 hmv
        have FF := Lib.hid FF
        have HS := And.intro X1.cell V1.cell
        have HS2 := And.intro (box_far X1 (a := ⟨w.heap.size, k, none⟩) (by show w.heap.size + 1 ≠ w.heap.size; omega) (.slice (some ⟨g1, 0, none⟩) (pre.length + 1 : Nat) cp)).cell (box_far V1 (a := ⟨w.heap.size, k, none⟩) (by show wr.heap.size ≠ w.heap.size; omega) (.slice (some ⟨g1, 0, none⟩) (pre.length + 1 : Nat) cp)).cell
        clear X1 V1 hown1 hg1 hmv cv0 cv1 HS1 owd
        simp only [Act.put, List.setIfInBounds_toArray]
        refine hK.out _ _ HS (fun _ => ?_)
        clear hK
        refine take_at (i := 9) (d := 50) (v := ?_) rfl rfl (by kernel_rfl) (by kernel_rfl) (by kernel_rfl) (fun _ _ _ _ => NormalOnly.any) rfl ?hy7 HS ?rest7
        case hy7 => intro w' hSw; (try dsimp only at hSw); go_simp; try (with_reducible rfl)
        try simp only [List.setIfInBounds_toArray, List.set_cons_zero, List.set_cons_succ]
        refine wpAnyH_ready (rs := [10]) (by kernel_rfl) (by simp) ?_
        refine AllReadyH.cons rfl (fun K hK => ?_) AllReadyH.nil
        go_simp
        refine hK.out _ _ HS2 (fun _ => ?_)
        clear hK
        refine wpAnyH_done (by kernel_rfl) ⟨rfl, ?_⟩ _
        exact FF.out
      · go_simp
        refine hK.out _ _ HS1 (fun _ => ?_)
        clear hK
        refine wpAnyH_ready (rs := [5]) (by kernel_rfl) (by simp) ?_
        refine AllReadyH.cons rfl (fun K hK => ?_) AllReadyH.nil
        go_simp
        refine hK.out _ _ HS1 (fun _ => ?_)
        clear hK
        refine wpAnyH_ready (rs := [8]) (by kernel_rfl) (by simp) ?_
        refine AllReadyH.cons rfl (fun K hK => ?_) AllReadyH.nil
        refine step_pushM (w0 := W.drew) rfl etI rfl _ _ rfl w.heap.size v pre.length _ owd rfl #[.int .i64 x.2] _ rfl rfl rfl (by simp [Value.oneCell']) (by omega) (by omega) hbs ?_
        intro g1 cp w1 hown1 hg1 hmv
        obtain ⟨⟨c1, f1, X1, V1⟩, FF⟩ := FIN.out g1 cp w1 hown1 hg1 hmv
        have FF := Lib.hid FF
        have HS := And.intro X1.cell V1.cell
        have HS2 := And.intro (box_far X1 (a := ⟨w.heap.size, k, none⟩) (by show w.heap.size + 1 ≠ w.heap.size; omega) (.slice (some ⟨g1, 0, none⟩) (pre.length + 1 : Nat) cp)).cell (box_far V1 (a := ⟨w.heap.size, k, none⟩) (by show wr.heap.size ≠ w.heap.size; omega) (.slice (some ⟨g1, 0, none⟩) (pre.length + 1 : Nat) cp)).cell
        clear X1 V1 hown1 hg1 hmv cv0 cv1 HS1 owd
        simp only [Act.put, List.setIfInBounds_toArray]
        refine hK.out _ _ HS (fun _ => ?_)
        clear hK
        refine take_at (i := 9) (d := 50) (v := ?_) rfl rfl (by kernel_rfl) (by kernel_rfl) (by kernel_rfl) (fun _ _ _ _ => NormalOnly.any) rfl ?hy8 HS ?rest8
        case hy8 => intro w' hSw; (try dsimp only at hSw); go_simp; try (with_reducible rfl)
        try simp only [List.setIfInBounds_toArray, List.set_cons_zero, List.set_cons_succ]
        refine wpAnyH_ready (rs := [10]) (by kernel_rfl) (by simp) ?_
        refine AllReadyH.cons rfl (fun K hK => ?_) AllReadyH.nil
        go_simp
        refine hK.out _ _ HS2 (fun _ => ?_)
        clear hK
        refine wpAnyH_done (by kernel_rfl) ⟨rfl, ?_⟩ _
        exact FF.out
    case done =>
      rintro D xs W hD rfl ⟨⟨R, X, V, free, kd, hsW⟩, belW⟩ hK
      have R2 : EndsR w.heap.size w.heap.size n (fun i => if i < k + 1 then nbE E i else []) W := R.congr fun i _ => by
        by_cases e1 : i < k
        · rw [if_pos e1, if_pos (by omega)]
        · rw [if_neg e1]
          by_cases e2 : i = k
          · subst e2; rw [if_pos rfl, if_pos (by omega)]; exact around_nb hlt
          · rw [if_neg e2, if_neg (by omega)]
      have hMW : Marks w.heap.size (D :: Ds) W := (hM0.out.keep kd).cons hK (by omega) (fun h => by have := HHD.out D h; omega)
      have HMW := Lib.hid hMW
      clear R V free kd hK hMW
      gi_wp2_with fail
      refine ⟨⟨k + 1, D :: Ds, _, _, _, _, _, _, _, _, _, _, _, _, _, _, _, _, _, _, _, _, _, by omega, R2, X, belW, HMW.out, rfl⟩, ?_⟩
      simp [intOf]; omega
    case stop =>
      rintro D c pre W _ h _
      exact h.elim
  · have hkn : k = n := by omega
    subst hkn
    have hM0 := hM
    clear hM
    obtain ⟨wa, rfl⟩ : ∃ wa : World, wa = wr := ⟨_, rfl⟩
    have hLw := HLs.out.below (bel.mono hB)
    have R2 : EndsR w.heap.size w.heap.size k (nbE E) wa := R.congr fun i hi => if_pos hi
    have HC := Lib.hid (cloneI B la lc L.length LA (nums .i64 L) wa hLw (Nat.le_trans hB bel.size) (fun _ _ _ _ => rfl) (by have := Hn.out; omega))
    clear R hLw
    gi_wp2_with fail
    refine ⟨trivial, ?_⟩
    refine (callsIn_wide.2 HC.out).mono ?_
    rintro e w2 ⟨a2, c2, A2, rfl, hS2, hb2, -⟩
    have hS20 : Hid (Rd 23 1 w2 w2.heap.size (.slice a2 L.length c2) L.length (nums .i64 (spr E 0 L)) A2) := Lib.hid hS2
    clear HC hS2
    gi_wp2_with fail
    gi_loopw [13, 55] (fun now i wv => ∃ (j : Nat) (a : Option Addr) (c : Nat) (A : Nat → Addr), j ≤ rounds ∧ i = .int .i64 (j : Nat) ∧ now = .slice a L.length c ∧ Hid (Rd 23 1 wv wv.heap.size (.slice a L.length c) L.length (nums .i64 (spr E j L)) A) ∧ Below w2.heap.size w2 wv) (fun _ i _ => rounds - (intOf i).toNat)
    case atStart => exact ⟨0, a2, c2, A2, Nat.zero_le _, rfl, rfl, hS20, Below.refl _ _⟩
    case round =>
      obtain ⟨j, a, c, A, hj, rfl, rfl, hS, belv⟩ := hrel
      obtain ⟨wv, rfl⟩ : ∃ wv : World, wv = wr := ⟨_, rfl⟩
      clear hS20
      have hbv : w2.heap.size ≤ wv.heap.size := belv.size
      have hbr : wa.heap.size ≤ w2.heap.size := hb2.size
      have hbw : w.heap.size ≤ wa.heap.size := bel.size
      by_cases hlj : j < rounds
      · have HSl := Lib.hid (show (spr E j L).length = L.length from spr_len E j L)
        have HSp := Lib.hid (show spr E (j + 1) L = rnd E (spr E j L) from rfl)
        have HSt := Lib.hid (fun h => spr_still (E := E) (L := L) (j := j) h (k := rounds) hj)
        generalize spr E j L = S at *
        have HC := Lib.hid (cloneI wv.heap.size a c L.length A (nums .i64 S) wv hS.out (Nat.le_refl _) (fun _ _ _ _ => rfl) (by have := Hn.out; omega))
        gi_wp2_with fail
        refine ⟨trivial, ?_⟩
        refine (callsIn_wide.2 HC.out).mono ?_
        rintro e w3 ⟨a3, c3, A3, rfl, hS3, hb3, hown⟩
        have hg3 : ∃ g3, 0 < L.length → a3 = some ⟨g3, 0, none⟩ ∧ wv.heap.size ≤ g3 ∧ RowN w3 g3 L.length S := by
          rcases hown with rfl | ⟨g3, rfl, h1, h2⟩
          · refine ⟨0, fun hp => ?_⟩
            obtain ⟨_, h1, _⟩ := hS3.view etI hp; cases h1
          · refine ⟨g3, fun _ => ⟨rfl, h1, (Row.owned h2).congr fun i hi => ?_⟩⟩
            have := flat_at (f := nums .i64 S) (n := L.length) (size := 1) (i := i) (j := 0) hi (by omega)
            rw [Nat.mul_one, Nat.add_zero] at this
            simp [this, nums]
        obtain ⟨g3, hg3⟩ := hg3
        have HG3 := Lib.hid (fun hp => (hg3 hp).1)
        have HG4 := Lib.hid (fun hp => (hg3 hp).2.1)
        have HR0 : Hid (0 < L.length → RowN w3 g3 L.length S) := Lib.hid (fun hp => (hg3 hp).2.2)
        clear HC hS3 hown hg3
        gi_wp2_with fail
        gi_loopw [61] (fun i wx => ∃ (v : Nat) (M : List Int), v ≤ L.length ∧ i = .int .i64 (v : Nat) ∧ Hid (M.length = L.length) ∧ Hid (∀ i, i < v → nth M i = nth (rnd E S) i) ∧ Hid (0 < L.length → RowN wx g3 L.length M) ∧ Below wv.heap.size wv wx) (fun i _ => L.length - (intOf i).toNat)
        case atStart => exact ⟨0, S, Nat.zero_le _, rfl, HSl, Lib.hid (fun i hi => absurd hi (by omega)), HR0, hb3⟩
        case round =>
          clear HR0 hb3
          obtain ⟨v, M, hv, rfl, hM, hMv, hRow, belx⟩ := hrel
          obtain ⟨wx, rfl⟩ : ∃ wx : World, wx = wr := ⟨_, rfl⟩
          have hszx : wv.heap.size ≤ wx.heap.size := belx.size
          have bax : Below wa.heap.size wa wx := hb2.trans ((belv.trans (belx.mono hbv)).mono hbr)
          have hSx := hS.out.below belx
          by_cases hlv : v < L.length
          · obtain rfl := HG3.out (by omega)
            have h4 := HG4.out (by omega)
            have hrow := hRow.out (by omega)
            have hvk : v < k := by have := Hn.out; omega
            have Xx : Boxed wx (w.heap.size + 1) 87 (.slice (some ⟨w.heap.size, 0, none⟩) k k) := (bax.block _ X.lt).trans X
            obtain ⟨vr, cvr, fvr, owr⟩ := (R2.below bax).at hvk
            rw [encI_map, ← flat_nums] at owr
            obtain ⟨ar, cr, Ar, rfl, hVr⟩ := Rd.own etI owr
            have hki : (0 : Int) ≤ v ∧ (v : Int) < k := by omega
            have hkl : (0 : Int) ≤ v ∧ (v : Int) < L.length := by omega
            have ixv := hSx.ix v hlv
            have cnv : wx.cell? (A v) = some (.int .i64 (nth S v)) := by have := hSx.cell v hlv 0 (by omega); rwa [add_zero] at this
            have alt := hSx.lt v hlv
            have HF := (frequent_any wx.heap.size a ar c cr A Ar S (nbE E v) (nth S v) wx.drew (by
              rw [show (Sl 23 .i64 wx.drew wx.heap.size (.slice a S.length c) S A) = Rd 23 1 wx.drew wx.heap.size (.slice a S.length c) S.length (nums .i64 S) A from rfl, HSl.out]
              exact (hSx.mono hszx).below (Below.refl _ wx).drew) (hVr.below (Below.refl _ wx).drew) (Nat.le_refl _) (fun i hi => by rw [HSl.out, Hn.out]; exact nbE_lt hg0 hi) (by
                have h1 := deg_le E v
                have h2 := (show GOk k E from hg0).m_le
                show (nbE E v).length ≤ _
                unfold nbE; rw [List.length_map]
                show deg E v ≤ _
                omega))
            rw [HSl.out, nbE_nl] at HF
            have HF := Lib.hid HF
            have hvS : v < S.length := by rw [HSl.out]; exact hlv
            have ebx : w.heap.size < wx.heap.size := (R2.below bax).lt
            have hneg : w.heap.size + 1 ≠ g3 ∧ w.heap.size ≠ g3 ∧ (A v).block ≠ g3 := by have := X.lt; omega
            have HS0 : wx.drew.cell? ⟨w.heap.size + 1, 0, none⟩ = some (.slice (some ⟨w.heap.size, 0, none⟩) k k) ∧ wx.drew.cell? ⟨w.heap.size, v, none⟩ = some (.slice ar (nbE E v).length cr) ∧ wx.drew.cell? (A v) = some (.int .i64 (nth S v)) := ⟨Xx.cell, cvr, cnv⟩
            have HXl := Xx.lt
            have HAl : (A v).block < wx.heap.size := Nat.lt_of_lt_of_le alt hszx
            clear Xx cvr owr hVr fvr hSx
            gi_wp2_with fail
            have HS := HS0
            refine region_wide (fun w' => w'.cell? ⟨w.heap.size + 1, 0, none⟩ = some (.slice (some ⟨w.heap.size, 0, none⟩) k k) ∧ w'.cell? ⟨w.heap.size, v, none⟩ = some (.slice ar (nbE E v).length cr) ∧ w'.cell? (A v) = some (.int .i64 (nth S v))) (by kernel_rfl) ?_
            refine take_at (i := 0) (d := 64) (v := ?_) rfl rfl (by kernel_rfl) (by kernel_rfl) (by kernel_rfl) (fun _ _ _ _ => NormalOnly.any) rfl ?hy9 HS ?rest9
            case hy9 => intro w' hSw; (try dsimp only at hSw); go_simp; try (with_reducible rfl)
            try simp only [List.setIfInBounds_toArray, List.set_cons_zero, List.set_cons_succ]
            refine take_at (i := 1) (d := 65) (v := ?_) rfl rfl (by kernel_rfl) (by kernel_rfl) (by kernel_rfl) (fun _ _ _ _ => NormalOnly.any) rfl ?hy10 HS ?rest10
            case hy10 => intro w' hSw; (try dsimp only at hSw); go_simp; try (with_reducible rfl)
            try simp only [List.setIfInBounds_toArray, List.set_cons_zero, List.set_cons_succ]
            refine take_at (i := 2) (d := 66) (v := ?_) rfl rfl (by kernel_rfl) (by kernel_rfl) (by kernel_rfl) (fun _ _ _ _ => NormalOnly.any) rfl ?hy11 HS ?rest11
            case hy11 => intro w' hSw; (try dsimp only at hSw); go_simp; try (with_reducible rfl)
            try simp only [List.setIfInBounds_toArray, List.set_cons_zero, List.set_cons_succ]
            refine take_at (i := 3) (d := 67) (v := ?_) rfl rfl (by kernel_rfl) (by kernel_rfl) (by kernel_rfl) (fun _ _ _ _ => NormalOnly.any) rfl ?hy12 HS ?rest12
            case hy12 => intro w' hSw; (try dsimp only at hSw); go_simp; try (with_reducible rfl)
            try simp only [List.setIfInBounds_toArray, List.set_cons_zero, List.set_cons_succ]
            refine take_at (i := 4) (d := 68) (v := ?_) rfl rfl (by kernel_rfl) (by kernel_rfl) (by kernel_rfl) (fun _ _ _ _ => NormalOnly.any) rfl ?hy13 HS ?rest13
            case hy13 => intro w' hSw; (try dsimp only at hSw); go_simp; try (with_reducible rfl)
            try simp only [List.setIfInBounds_toArray, List.set_cons_zero, List.set_cons_succ]
            refine take_at (i := 5) (d := 69) (v := ?_) rfl rfl (by kernel_rfl) (by kernel_rfl) (by kernel_rfl) (fun _ _ _ _ => NormalOnly.any) rfl ?hy14 HS ?rest14
            case hy14 => intro w' hSw; (try dsimp only at hSw); go_simp; try (with_reducible rfl)
            try simp only [List.setIfInBounds_toArray, List.set_cons_zero, List.set_cons_succ]
            refine take_at (i := 6) (d := 70) (v := ?_) rfl rfl (by kernel_rfl) (by kernel_rfl) (by kernel_rfl) (fun _ _ _ _ => NormalOnly.any) rfl ?hy15 HS ?rest15
            case hy15 => intro w' hSw; (try dsimp only at hSw); go_simp; try (with_reducible rfl)
            try simp only [List.setIfInBounds_toArray, List.set_cons_zero, List.set_cons_succ]
            refine take_at (i := 7) (d := 71) (v := ?_) rfl rfl (by kernel_rfl) (by kernel_rfl) (by kernel_rfl) (fun _ _ _ _ => NormalOnly.any) rfl ?hy16 HS ?rest16
            case hy16 => intro w' hSw; (try dsimp only at hSw); go_simp; try (with_reducible rfl)
            try simp only [List.setIfInBounds_toArray, List.set_cons_zero, List.set_cons_succ]
            refine take_at (i := 8) (d := 72) (v := ?_) rfl rfl (by kernel_rfl) (by kernel_rfl) (by kernel_rfl) (fun _ _ _ _ => NormalOnly.any) rfl ?hy17 HS ?rest17
            case hy17 => intro w' hSw; (try dsimp only at hSw); go_simp; try (with_reducible rfl)
            try simp only [List.setIfInBounds_toArray, List.set_cons_zero, List.set_cons_succ]
            refine take_at (i := 9) (d := 73) (v := ?_) rfl rfl (by kernel_rfl) (by kernel_rfl) (by kernel_rfl) (fun _ _ _ _ => NormalOnly.any) rfl ?hy18 HS ?rest18
            case hy18 => intro w' hSw; (try dsimp only at hSw); go_simp; try (with_reducible rfl)
            try simp only [List.setIfInBounds_toArray, List.set_cons_zero, List.set_cons_succ]
            refine take_at (i := 10) (d := 74) (v := ?_) rfl rfl (by kernel_rfl) (by kernel_rfl) (by kernel_rfl) (fun _ _ _ _ => NormalOnly.any) rfl ?hy19 HS ?rest19
            case hy19 => intro w' hSw; (try dsimp only at hSw); go_simp; try (with_reducible rfl)
            try simp only [List.setIfInBounds_toArray, List.set_cons_zero, List.set_cons_succ]
            refine wpAnyH_ready (rs := [11]) (by kernel_rfl) (by simp) ?_
            refine AllReadyH.cons rfl (fun K hK => ?_) AllReadyH.nil
            go_simp
            refine HF.out.mono ?_
            rintro e w4 ⟨⟨r, hfr, rfl⟩, hb4⟩
            have hS4 : w4.cell? ⟨w.heap.size + 1, 0, none⟩ = some (.slice (some ⟨w.heap.size, 0, none⟩) k k) ∧ w4.cell? ⟨w.heap.size, v, none⟩ = some (.slice ar (nbE E v).length cr) ∧ w4.cell? (A v) = some (.int .i64 (nth S v)) := ⟨(hb4.cell (p := ⟨w.heap.size + 1, 0, none⟩) HXl).trans HS0.1, (hb4.cell (p := ⟨w.heap.size, v, none⟩) ebx).trans HS0.2.1, (hb4.cell HAl).trans HS0.2.2⟩
            have hS5 := And.intro ((World.cell?_setCell_far w4 ⟨g3, v, none⟩ ⟨w.heap.size + 1, 0, none⟩ (.int .i64 r) hneg.1.symm).trans hS4.1) (And.intro ((World.cell?_setCell_far w4 ⟨g3, v, none⟩ ⟨w.heap.size, v, none⟩ (.int .i64 r) hneg.2.1.symm).trans hS4.2.1) ((World.cell?_setCell_far w4 ⟨g3, v, none⟩ (A v) (.int .i64 r) hneg.2.2.symm).trans hS4.2.2))
            have hrow4 : RowN w4 g3 L.length M := Row.below (w := wx.drew) hrow hb4 hrow.lt
            have z1 := hrow4.cell hlv
            have z2 := hrow4.frozen v
            have HR4 := Lib.hid hrow4
            have hb4' : Below wv.heap.size wv w4 := (belx.drew).trans (hb4.mono hszx)
            clear HS HS0 cnv hrow hrow4 hRow HF hb4
            dsimp only
            refine hK.out _ _ hS4 (fun HS => ?_)
            clear hK
            refine take_at (i := 12) (d := 76) (v := ?_) rfl rfl (by kernel_rfl) (by kernel_rfl) (by kernel_rfl) (fun _ _ _ _ => NormalOnly.any) rfl ?hy20 HS ?rest20
            case hy20 => intro w' hSw; (try dsimp only at hSw); go_simp; try (with_reducible rfl)
            try simp only [List.setIfInBounds_toArray, List.set_cons_zero, List.set_cons_succ]
            refine wpAnyH_ready (rs := [13]) (by kernel_rfl) (by simp) ?_
            refine AllReadyH.cons rfl (fun K hK => ?_) AllReadyH.nil
            go_simp
            refine hK.out _ _ hS5 (fun _ => ?_)
            clear hK HS hS4 hS5
            refine wpAnyH_done (by kernel_rfl) ⟨rfl, ?_⟩ _
            gi_wp2_with fail
            go_roundw
            case rel =>
              have hvM : v < M.length := by rw [hM.out]; exact hlv
              refine ⟨v + 1, M.set v r, by omega, by go_num, Lib.hid (by rw [List.length_set]; exact hM.out), Lib.hid (fun i hi => ?_), Lib.hid (fun _ => (Row.set HR4.out v (.int .i64 r)).congr fun i _ => ?_), hb4'.setCell (p := ⟨g3, v, none⟩) h4 _⟩
              · rw [nth_set r hvM]
                by_cases e1 : i = v
                · rw [if_pos e1, e1, rnd_is hvS hfr]
                · rw [if_neg e1]; exact hMv.out i (by omega)
              · rw [nth_set r hvM]
                by_cases e1 : i = v
                · rw [if_pos e1, if_pos e1]
                · rw [if_neg e1, if_neg e1]
            case measure => simp only [intOf]; omega
          · have hvl : v = L.length := by omega
            have hMr : M = rnd E S := eq_of_nth (by rw [rnd_len, HSl.out, hM.out]) (fun i hi => hMv.out i (by rw [hvl, ← hM.out]; exact hi))
            subst hMr
            have hN : ∃ A', Rd 23 1 wx wx.heap.size (.slice a3 L.length c3) L.length (nums .i64 (rnd E S)) A' := by
              by_cases hp : 0 < L.length
              · obtain rfl := HG3.out hp
                have hr2 := hRow.out hp
                exact ⟨_, Rd.addr etI (fun _ => hr2.lt) fun i hi q hq => by
                  obtain rfl : q = 0 := by omega
                  rw [add_mk, Nat.mul_one, Nat.add_zero, Nat.zero_add]
                  exact hr2.cell hi⟩
              · have h0 : L.length = 0 := by omega
                rw [h0]
                exact ⟨fun _ => ⟨0, 0, none⟩, Rd.nil _⟩
            obtain ⟨A', hN⟩ := hN
            have HN := Lib.hid hN
            have HE := Lib.hid (equal_any wx.heap.size L.length a3 a c3 c A' A (rnd E S) S wx hN (hSx.mono hszx) (by rw [rnd_len, HSl.out]) HSl.out (by have := Hn.out; omega) (Nat.le_refl _))
            have HSx := Lib.hid hSx
            clear hN hSx hRow hMv hM HG3 HG4
            gi_wp2_with fail
            refine ⟨trivial, ?_⟩
            refine (callsIn_wide.2 HE.out).mono ?_
            rintro e w5 ⟨rfl, hb5⟩
            have belv5 : Below wv.heap.size wv w5 := belx.trans (hb5.mono hszx)
            by_cases heq : rnd E S = S
            · have hd := decide_eq_true heq
              have HSE := Lib.hid (HSt.out heq)
              have hS5 : Rd 23 1 w5 w5.heap.size (.slice a L.length c) L.length (nums .i64 S) A := (hS.out.below belv5).mono belv5.size
              have HS5 := Lib.hid hS5
              have ba5 : Below wa.heap.size wa w5 := hb2.trans ((belv.trans (belv5.mono hbv)).mono hbr)
              have hM5 := Lib.hid (hM0.keep (KeepD.of_below ba5))
              generalize decide (rnd E S = S) = dd at *
              subst hd
              clear hS5 HE HSx HN hS
              gi_wp2_with fail
              refine leaves_col w.heap.size (fun w => results_tmp2 rfl _ _ _) Ds w5 hM5.out fun w' hw' => ?_
              exact ⟨a, c, A, rfl, by rw [HSE.out]; exact (rd_took HS5.out hw').mono hw'.below.size, (bel.trans (ba5.mono hbw)).trans hw'.below⟩
            · have hd := decide_eq_false heq
              generalize decide (rnd E S = S) = dd at *
              subst hd
              have HNx := Lib.hid ((HN.out.below hb5).mono hb5.size)
              gi_wp2_with fail
              go_roundw
              case rel => exact ⟨j + 1, a3, c3, A', by omega, by go_num, rfl, Lib.hid (by rw [HSp.out]; exact HNx.out), belv.trans (belv5.mono hbv)⟩
              case measure => simp only [intOf]; omega
      · have hje : j = rounds := by omega
        subst hje
        have ba5 : Below wa.heap.size wa wv := hb2.trans (belv.mono hbr)
        have hM5 := Lib.hid (hM0.keep (KeepD.of_below ba5))
        gi_wp2_with fail
        refine leaves_col w.heap.size (fun w => results_tmp2 rfl _ _ _) Ds wv hM5.out fun w' hw' => ?_
        exact ⟨a, c, A, rfl, (rd_took hS.out hw').mono hw'.below.size, (bel.trans (ba5.mono hbw)).trans hw'.below⟩
end Go.Proofs.Ytemcilmefknbbaa
