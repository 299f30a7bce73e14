/- The walks of Bridges and Cuts of package bridge. Conditions: the graph was made by New, or it is nil or zero. -/
import Derived.Test.YtcpikabhcjkkmaaBrA
import Derived.Test.YtcpikabhcjkkmaaMe
namespace Go.Proofs.Ytcpikabhcjkkmaa
open Go.RowKit Go.Shelf

theorem Own.below {L L' : List Nat} {w w' : World} {B : Nat} (h : Own L L' w w') (hB : B ≤ w.heap.size) (hL : ∀ b, b ∈ L → B ≤ b) : Below B w w' :=
  ⟨h.st.os, h.st.tape, h.st.output, h.st.size, fun k hk => h.blk k (by omega) fun c => by have := hL k c; omega⟩
/-- a slice of indexes of the call's own, increasing, whose members are told -/
def ResI (P : Nat → Prop) (w : World) (e : Ending) (w' : World) : Prop := ∃ v l, e = .returned v ∧ OwnI w.heap.size v l w' ∧ l.Pairwise (· < ·) ∧ (∀ i, i ∈ l ↔ P i) ∧ Below w.heap.size w w'
set_option maxRecDepth 100000 in
set_option maxHeartbeats 1000000 in
theorem bridges_any (B : Nat) (g : Option Addr) (n : Nat) (E : List Ed) (o : Option (Nat × List Ed)) (ho : o = some (n, E) ∨ o = none ∧ n = 0 ∧ E = []) (w : World) (h : GV w B (.pointer g) o) (hB : B ≤ w.heap.size) :
    Calls Try.prog 16 #[.pointer g] w (ResI (Bri E) w) := by
  have G : GOk n E := by
    rcases ho with rfl | ⟨rfl, rfl, rfl⟩
    · exact h.good
    · exact ⟨by decide, by decide, fun i hi => absurd hi (by simp)⟩
  have h1 : BrC w.heap.size [] [w.heap.size] (w.alloc (.cells #[.slice none 0 0] 29)) := ⟨.slice none 0 0, rfl, row_one w _ _, World.ownsRow_nil _ _ _ _⟩
  have HSr := Lib.hid (search_any B g n E o ho (w.alloc (.cells #[.slice none 0 0] 29)) (h.below ((Below.refl _ w).alloc hB _)) (by rw [World.size_alloc]; omega) _ _ _ _ _ (brClt G w.heap.size) _ h1)
  clear h1 h ho
  go_enter Try.func16, Try.ntmps16
  go_wp2_with fail
  refine HSr.out.mono ?_
  clear HSr
  rintro e w2 ⟨⟨r, rfl⟩, s, evs, L, D, ⟨v, rfl, hr, hv⟩, hO⟩
  have B2 := Lib.hid (((Below.refl _ w).alloc (Nat.le_refl _) (.cells #[.slice none 0 0] 29)).trans (hO.below (B := w.heap.size) (by simp) (fun b hb => by rw [List.mem_singleton.1 hb]; exact Nat.le_refl _)))
  have hle : (brE evs).length ≤ 16384 := by
    have h1 := (brE_sub evs).length_le
    have h2 := lvE_len G D.run
    have := G.m_le
    omega
  have HSo := Lib.hid (sort_own _ v _ w2 hv (by omega))
  have cb := hr.cell (i := 0) (by omega)
  have HR := Lib.hid hr
  have HD := Lib.hid (D.br G)
  have hvb : ∀ b, v.ownBlock = some b → w.heap.size + 1 ≤ b := fun b hb => (World.ownsRow.lt hv b hb).1
  clear hr hO hv D
  go_wp2_with fail
  refine HSo.out.mono ?_
  clear HSo
  rintro e w3 ⟨rfl, hv3, hg3⟩
  have hr3 := HR.out.of_block (w' := w3) (hg3.block w.heap.size HR.out.lt fun c => by have := hvb _ c.symm; omega)
  have cb3 := hr3.cell (i := 0) (by omega)
  have B3 := Lib.hid (B2.out.grown hg3 B2.out.size (fun k hk => by have := hvb k hk; omega))
  have HV := Lib.hid hv3
  clear hr3 hg3 hv3 cb HR B2 hvb
  go_wp2_with fail
  go_ret
  exact ⟨v, _, rfl, OwnI.lower HV.out (by omega), srtN_lt HD.out.1, fun i => by rw [(srtN_perm _).mem_iff]; exact HD.out.2 i, B3.out⟩
/-! Cuts -/
theorem Run.ends {n : Nat} {E : List Ed} {s : Dfs} {evs : List Ev} (G : GOk n E) (h : Run n E s evs) : ∀ u v e a b, Ev.leave u v e a b ∈ evs → u < n ∧ v < n ∧ u ≠ v ∧ e < E.length := by
  induction h with
  | start => exact fun _ _ _ _ _ h => absurd h (by simp)
  | root _ _ _ _ _ ih => exact ih
  | skip _ _ _ _ ih => exact ih
  | down _ _ _ _ _ ih => exact fun u v e a b h => ih u v e a b (mem_meet h)
  | back _ _ _ _ _ ih => exact fun u v e a b h => ih u v e a b (mem_meet h)
  | @up s evs p q r h' hs hn ih =>
    intro u v e a b hh
    rw [List.mem_append] at hh
    rcases hh with hh | hh
    · exact ih u v e a b hh
    · simp only [List.mem_singleton, Ev.leave.injEq] at hh
      obtain ⟨rfl, rfl, rfl, rfl, rfl⟩ := hh
      have hI := h'.inv G
      have C := cert_up G hI hs hn
      have := ends_ne G C.he C.lnk
      exact ⟨this.2.1, this.2.2, this.1, C.he⟩
  | out _ _ _ ih => exact ih
theorem ptN_le (evs : List Ev) (x : Nat) : ptN evs x ≤ 2 * (lvE evs).length := by
  unfold ptN
  induction evs with
  | nil => exact Nat.zero_le _
  | cons ev evs ih =>
    rw [List.map_cons, List.sum_cons]
    cases ev with
    | meet i =>
      have : lvE (.meet i :: evs) = lvE evs := rfl
      rw [this]; simp only [evP]; omega
    | leave u v e a b =>
      have : lvE (.leave u v e a b :: evs) = e :: lvE evs := rfl
      rw [this, List.length_cons]
      have : evP x (.leave u v e a b) ≤ 2 := by simp only [evP]; split <;> split <;> omega
      omega
/-- what Cuts holds while it searches: the parts, and their box -/
def CtC (pb n : Nat) (evs : List Ev) (L : List Nat) (w : World) : Prop := L = [pb, pb + 1] ∧ Row w pb n (fun x => .int .i64 (ptN evs x : Nat)) ∧ Row w (pb + 1) 1 (fun _ => .slice (some ⟨pb, 0, none⟩) n n)
set_option maxRecDepth 100000 in
set_option maxHeartbeats 1000000 in
theorem meet1_any (x : Value) (w : World) : Calls Try.prog 43 #[x] w fun e w' => (∃ r, e = .returned r) ∧ w' = w := by
  go_enter Try.func43, Try.ntmps43
  go_wp2_with fail
  go_end0
  exact ⟨⟨_, rfl⟩, rfl⟩
set_option maxRecDepth 100000 in
set_option maxHeartbeats 1000000 in
theorem ctLeave_any (pb n : Nat) (evs : List Ev) (L : List Nat) (u v e : Nat) (a b : Bool) (w : World) (h : CtC pb n evs L w) (hu : u < n) (hv : v < n) (hne : u ≠ v) (hl : ∀ x, ptN evs x ≤ 40000) :
    Calls Try.prog 44 #[.agg #[.int .i64 (u : Nat), .int .i64 (v : Nat), .int .i64 (e : Nat), .bool a, .bool b], .pointer (some ⟨pb + 1, 0, none⟩)] w fun e' w' => (∃ r, e' = .returned r) ∧ ∃ L', CtC pb n (evs ++ [.leave u v e a b]) L' w' ∧ Own L L' w w' := by
  obtain ⟨rfl, hp, hb⟩ := h
  have hbl := hb.lt
  obtain ⟨w1, hw1⟩ : ∃ w1, w.alloc (.cells #[.int .i64 (u : Nat), .int .i64 (v : Nat), .int .i64 (e : Nat), .bool a, .bool b] 68) = w1 := ⟨_, rfl⟩
  have hst : Row w1 w.heap.size 5 (fun i => (#[.int .i64 (u : Nat), .int .i64 (v : Nat), .int .i64 (e : Nat), .bool a, .bool b] : Array Value).getD i (.bool false)) := by
    rw [← hw1]
    exact Row.lit w _ _ (by simp) (fun i hi => by
      match i, hi with
      | 0, _ => rfl
      | 1, _ => rfl
      | 2, _ => rfl
      | 3, _ => rfl
      | 4, _ => rfl
      | q + 5, h => omega)
  have hp1 : Row w1 pb n (fun x => .int .i64 (ptN evs x : Nat)) := by rw [← hw1]; exact hp.alloc _
  have hb1 : Row w1 (pb + 1) 1 (fun _ => .slice (some ⟨pb, 0, none⟩) n n) := by rw [← hw1]; exact hb.alloc _
  have hO1 : Own [pb, pb + 1] [pb, pb + 1] w w1 := by rw [← hw1]; exact Own.alloc _ _ _
  have s0 := hst.cell (i := 0) (by omega)
  have s1 := hst.cell (i := 1) (by omega)
  have s4 := hst.cell (i := 4) (by omega)
  simp only [List.getElem?_toArray, Array.getD_eq_getD_getElem?, List.getElem?_cons_zero, List.getElem?_cons_succ, Option.getD_some] at s0 s1 s4
  have cb1 := hb1.cell (i := 0) (by omega)
  have cv := hp1.cell hv
  have fv := hp1.frozen v
  have hlv := hl v
  have hlu := hl u
  have hvn : (0 : Int) ≤ v ∧ (v : Int) < n := by omega
  have hun : (0 : Int) ≤ u ∧ (u : Int) < n := by omega
  obtain ⟨w2, hw2⟩ : ∃ w2, w1.setCell ⟨pb, v, none⟩ (.int .i64 ((ptN evs v : Int) + 1)) = w2 := ⟨_, rfl⟩
  have hp2 : Row w2 pb n (fun x => .int .i64 ((ptN evs x + if v = x then 1 else 0 : Nat) : Int)) := by
    rw [← hw2]
    refine (hp1.set v _).congr fun i _ => ?_
    by_cases c : i = v
    · rw [if_pos c, if_pos c.symm, c]; rfl
    · rw [if_neg c, if_neg (fun d => c d.symm)]; rfl
  have hb2 : Row w2 (pb + 1) 1 (fun _ => .slice (some ⟨pb, 0, none⟩) n n) := by rw [← hw2]; exact hb1.setOther (a := ⟨pb, v, none⟩) (by show pb + 1 ≠ pb; omega) _
  have hst2 := hst.setOther (a := ⟨pb, v, none⟩) (by show w.heap.size ≠ pb; omega) (.int .i64 ((ptN evs v : Int) + 1))
  rw [hw2] at hst2
  have t0 := hst2.cell (i := 0) (by omega)
  have t4 := hst2.cell (i := 4) (by omega)
  simp only [List.getElem?_toArray, Array.getD_eq_getD_getElem?, List.getElem?_cons_zero, List.getElem?_cons_succ, Option.getD_some] at t0 t4
  have cb2 := hb2.cell (i := 0) (by omega)
  have cu := hp2.cell hu
  rw [if_neg (fun c => hne c.symm), Nat.add_zero] at cu
  have fu := hp2.frozen u
  have hO2 : Own [pb, pb + 1] [pb, pb + 1] w w2 := ⟨by rw [← hw2]; exact hO1.st.trans (Sst.setCell _ _ _), fun k hk hL => by
    rw [← hw2]
    exact (Below.heap_setCell _ _ _ _ (fun c => hL (by rw [c]; simp))).trans (hO1.blk k hk hL), fun k hk => .inl hk⟩
  cases b with
  | true =>
    have HC : Hid (CtC pb n (evs ++ [.leave u v e a true]) [pb, pb + 1] w2) := Lib.hid ⟨rfl, hp2.congr (fun i _ => by rw [ptN_snoc, evP]; simp), hb2⟩
    have HO := Lib.hid hO2
    clear hp hb hst hp1 hb1 hO1 hp2 hb2 hst2 hO2 hl
    go_enter Try.func44, Try.ntmps44
    go_wp2_with fail
    go_end0
    exact ⟨⟨_, rfl⟩, _, HC.out, HO.out⟩
  | false =>
    obtain ⟨w3, hw3⟩ : ∃ w3, w2.setCell ⟨pb, u, none⟩ (.int .i64 ((ptN evs u : Int) + 1)) = w3 := ⟨_, rfl⟩
    have HC : Hid (CtC pb n (evs ++ [.leave u v e a false]) [pb, pb + 1] w3) := Lib.hid (by
      rw [← hw3]
      refine ⟨rfl, (hp2.set u _).congr fun i _ => ?_, hb2.setOther (a := ⟨pb, u, none⟩) (by show pb + 1 ≠ pb; omega) _⟩
      rw [ptN_snoc, evP]
      by_cases c : i = u
      · subst c
        rw [if_pos rfl, if_neg (fun c => hne c.symm), if_pos ⟨rfl, rfl⟩]
        congr 1
      · rw [if_neg c]
        have c2 : (if false = false ∧ u = i then (1 : Nat) else 0) = 0 := if_neg fun d => c d.2.symm
        rw [c2]; rfl)
    have HO : Hid (Own [pb, pb + 1] [pb, pb + 1] w w3) := Lib.hid ⟨by rw [← hw3]; exact hO2.st.trans (Sst.setCell _ _ _), fun k hk hL => by
      rw [← hw3]
      exact (Below.heap_setCell _ _ _ _ (fun c => hL (by rw [c]; simp))).trans (hO2.blk k hk hL), fun k hk => .inl hk⟩
    clear hp hb hst hp1 hb1 hO1 hp2 hb2 hst2 hO2 hl
    go_enter Try.func44, Try.ntmps44
    go_wp2_with fail
    go_end0
    exact ⟨⟨_, rfl⟩, _, HC.out, HO.out⟩
theorem ctClt {n : Nat} {E : List Ed} (G : GOk n E) (pb : Nat) : Clt n E 43 44 #[] #[.pointer (some ⟨pb + 1, 0, none⟩)] (CtC pb n) := by
  refine ⟨fun evs L w h b hb => ?_, fun evs L w w' h hs hk => ?_, enters_of Try.func43 (by kernel_rfl) rfl, enters_of Try.func44 (by kernel_rfl) rfl, fun s evs i L w hr h => ?_, fun s evs u v e a b L w hr h => ?_⟩
  · obtain ⟨rfl, h1, h2⟩ := h
    rcases List.mem_cons.1 hb with rfl | hb
    · exact h1.lt
    · rw [List.mem_singleton.1 hb]; exact h2.lt
  · obtain ⟨rfl, h1, h2⟩ := h
    exact ⟨rfl, h1.of_block (hk _ (by simp)), h2.of_block (hk _ (by simp))⟩
  · refine (meet1_any _ w).mono ?_
    rintro e w' ⟨hr, rfl⟩
    obtain ⟨rfl, h1, h2⟩ := h
    exact ⟨hr, _, ⟨rfl, h1.congr (fun x _ => by rw [ptN_meet]), h2⟩, Own.refl _ _⟩
  · obtain ⟨hu, hv, hne, -⟩ := hr.ends G u v e a b (by simp)
    refine ctLeave_any pb n evs L u v e a b w h hu hv hne fun x => ?_
    have h1 := ptN_le evs x
    have h2 := lvE_len G hr
    rw [lvE_leave, List.length_append] at h2
    have := G.m_le
    omega
/-- the cut vertices, told by into how many parts the graph falls without each -/
def CutRes (n : Nat) (E : List Ed) (w : World) (e : Ending) (w' : World) : Prop := ∃ (v : Value) (f : Nat → Nat), e = .returned v ∧ (∀ x, x < n → CutC E x (f x)) ∧ OwnI w.heap.size v (selN n fun x => 1 < f x) w' ∧ Below w.heap.size w w'
theorem selN_succ (m : Nat) (p : Nat → Prop) [DecidablePred p] : selN (m + 1) p = if p m then selN m p ++ [m] else selN m p := by
  unfold selN
  rw [List.range_succ, List.filter_append]
  by_cases c : p m
  · rw [if_pos c]; simp [c]
  · rw [if_neg c]; simp [c]
theorem selN_len (m : Nat) (p : Nat → Prop) [DecidablePred p] : (selN m p).length ≤ m := by
  have := List.length_filter_le (fun i => decide (p i)) (List.range m)
  unfold selN; simpa using this
set_option maxRecDepth 100000 in
set_option maxHeartbeats 1000000 in
theorem cuts_any (B : Nat) (g : Option Addr) (n : Nat) (E : List Ed) (o : Option (Nat × List Ed)) (ho : o = some (n, E) ∨ o = none ∧ n = 0 ∧ E = []) (w : World) (h : GV w B (.pointer g) o) (hB : B ≤ w.heap.size) :
    Calls Try.prog 18 #[.pointer g] w (CutRes n E w) := by
  have hn : gN o = n := by rcases ho with rfl | ⟨rfl, rfl, _⟩ <;> rfl
  have G : GOk n E := by
    rcases ho with rfl | ⟨rfl, rfl, rfl⟩
    · exact h.good
    · exact ⟨by decide, by decide, fun i hi => absurd hi (by simp)⟩
  have hn4 := G.n_le
  have hmI : ∀ w, (Instr.makeSlice 29 (.int .i64 (n : Nat)) (.int .i64 (n : Nat))).run Try.prog w = .ok (.slice (some ⟨w.heap.size, 0, none⟩) n n) (w.alloc (.cells (madeCells #[.int .i64 0] n) 3)) := fun w =>
    run_make_row' (P := Try.prog) 29 3 (.int .i64 0) 8 Try.underlying29 Try.infoI rfl .i64 .i64 n (by omega) (by omega) w
  have HN := n_any B (.pointer g) o w h
  rw [hn] at HN
  have HN := Lib.hid HN
  have h1 : CtC w.heap.size n [] [w.heap.size, w.heap.size + 1] ((w.alloc (.cells (madeCells #[.int .i64 0] n) 3)).alloc (.cells #[.slice (some ⟨w.heap.size, 0, none⟩) n n] 29)) := by
    refine ⟨rfl, (Row.made w (.int .i64 0) n 3).alloc _, ?_⟩
    have := row_one (w.alloc (.cells (madeCells #[.int .i64 0] n) 3)) (.slice (some ⟨w.heap.size, 0, none⟩) n n) 29
    rwa [World.size_alloc] at this
  have hb2 : Below w.heap.size w ((w.alloc (.cells (madeCells #[.int .i64 0] n) 3)).alloc (.cells #[.slice (some ⟨w.heap.size, 0, none⟩) n n] 29)) := ((Below.refl _ w).alloc (Nat.le_refl _) _).alloc (by simp) _
  have HSr := Lib.hid (search_any B g n E o ho _ (h.below (hb2.mono hB)) (Nat.le_trans hB hb2.size) _ _ _ _ _ (ctClt G w.heap.size) _ h1)
  have HB2 := Lib.hid hb2
  clear h1 h ho hb2
  go_enter Try.func18, Try.ntmps18
  go_wp2_with fail
  refine HN.out.mono ?_
  rintro e w' ⟨rfl, rfl⟩
  go_wp2_with fail
  refine HSr.out.mono ?_
  clear HSr HN hmI
  rintro e w2 ⟨⟨r, rfl⟩, s, evs, L, D, ⟨rfl, hp, hb⟩, hO⟩
  have B2 := Lib.hid (HB2.out.trans (hO.below (B := w.heap.size) (by simp only [World.size_alloc]; omega) (fun b hb => by simp at hb; omega)))
  have HCt : Hid (∀ x, x < n → CutC E x (ptN evs x)) := Lib.hid fun x hx => D.cut G hx
  have hple : Hid (∀ x, ptN evs x ≤ 40000) := Lib.hid fun x => by
    have h1 := ptN_le evs x
    have h2 := lvE_len G D.run
    have := G.m_le
    omega
  have cb := hb.cell (i := 0) (by omega)
  have HP := Lib.hid hp
  have hsz2 := hb.lt
  clear hb hO hp D HB2
  generalize ptN evs = f at *
  go_wp2_with fail
  go_loopw [4, 15] (fun v i wr => ∃ k : Nat, k ≤ n ∧ i = .int .i64 (k : Nat) ∧ Hid (OwnI w2.heap.size v (selN k fun x => 1 < f x) wr) ∧ Below w2.heap.size w2 wr) (fun _ i _ => n - (intOf i).toNat)
  case atStart => exact ⟨0, Nat.zero_le _, rfl, Lib.hid (World.ownsRow_nil _ _ _ _), Below.refl _ _⟩
  case round =>
    obtain ⟨k, hk, rfl, HV, bel⟩ := hrel
    by_cases hlt : k < n
    · have ck := (HP.out.below bel (by omega)).cell hlt
      have hkn : (0 : Int) ≤ k ∧ (k : Int) < n := by omega
      have hfk := hple.out k
      by_cases hf : 1 < f k
      · have hd : decide ((1 : Int) < (f k : Nat)) = true := decide_eq_true (by omega)
        have hd' : (1 : Int) < (f k : Nat) := by omega
        have HS1 := Lib.hid (selN_succ k fun x => 1 < f x)
        rw [if_pos hf] at HS1
        have hown : wr.ownsRow w2.heap.size 3 1 _ (selN k fun x => 1 < f x).length ((intsN (selN k fun x => 1 < f x)).map (Value.int .i64)) := HV.out
        have hll := selN_len k fun x => 1 < f x
        have hsr := bel.size
        clear HV hf
        generalize (selN k fun x => 1 < f x) = l at *
        go_wp2_with (at_builtin; refine push etI rfl _ _ rfl w2.heap.size _ _ _ hown rfl #[.int .i64 (k : Nat)] _ rfl rfl rfl (by simp [Value.oneCell']) (by omega) (by omega) hsr ?_; intro g cp w5 hown5 hg5 hv5)
        have HV5 : Hid (OwnI w2.heap.size (.slice (some ⟨g, 0, none⟩) (l.length + 1 : Nat) cp) (l ++ [k]) w5) := Lib.hid (by
          unfold OwnI
          rw [intsN_snoc, List.map_append, List.length_append]
          exact hown5)
        have B5 := bel.grown hg5 bel.size (fun j hj => (World.ownsRow.lt hown j hj).1)
        go_roundw
        case rel => exact ⟨k + 1, by omega, by go_num, by rw [HS1.out]; exact HV5, B5⟩
        case measure => simp only [intOf]; omega
      · have hd : decide ((1 : Int) < (f k : Nat)) = false := decide_eq_false (by omega)
        have hd' : ¬ ((1 : Int) < (f k : Nat)) := by omega
        have HS1 := Lib.hid (selN_succ k fun x => 1 < f x)
        rw [if_neg hf] at HS1
        clear hf
        go_wp2_with fail
        go_roundw
        case rel => exact ⟨k + 1, by omega, by go_num, by rw [HS1.out]; exact HV, bel⟩
        case measure => simp only [intOf]; omega
    · obtain rfl : k = n := by omega
      go_wp2_with fail
      go_ret
      exact ⟨_, f, rfl, HCt.out, OwnI.lower HV.out B2.out.size, B2.out.trans (bel.mono B2.out.size)⟩
end Go.Proofs.Ytcpikabhcjkkmaa
