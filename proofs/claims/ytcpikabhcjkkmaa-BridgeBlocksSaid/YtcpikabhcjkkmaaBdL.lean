/- The document's labels without some edges and without a vertex: the smaller label goes on along the edges that are left until nothing changes. Conditions: the graph is made. -/
import Derived.Test.YtcpikabhcjkkmaaRfn
import Derived.Test.YtcpikabhcjkkmaaBpA
import Derived.Deep.LoopGhost
namespace Go.Proofs.Ytcpikabhcjkkmaa
open Go.RowKit

/-- the sum of the first labels -/
def sN (f : Nat → Nat) : Nat → Nat
  | 0 => 0
  | n + 1 => sN f n + f n
theorem sN_out {f : Nat → Nat} {v p : Nat} : ∀ {n : Nat}, n ≤ v → sN (upd f v p) n = sN f n
  | 0, _ => rfl
  | n + 1, h => by
    have := sN_out (f := f) (v := v) (p := p) (n := n) (by omega)
    show sN (upd f v p) n + upd f v p n = sN f n + f n
    rw [this, upd, if_neg (by omega)]
theorem sN_upd {f : Nat → Nat} {v p : Nat} : ∀ {n : Nat}, v < n → sN (upd f v p) n + f v = sN f n + p
  | 0, h => by omega
  | n + 1, h => by
    show sN (upd f v p) n + upd f v p n + f v = sN f n + f n + p
    by_cases e : v = n
    · subst e
      rw [sN_out (Nat.le_refl _), upd, if_pos rfl]; omega
    · have := sN_upd (f := f) (v := v) (p := p) (n := n) (by omega)
      rw [upd, if_neg (by omega)]; omega
/-- labels on the way -/
def LG (n : Nat) (E : List Ed) (o : List Nat) (f : Nat → Nat) : Prop := ∀ x, x < n → f x ≤ x ∧ CI E (· ∈ o) x (f x)
section
variable {n : Nat} {E : List Ed} {o : List Nat} {f : Nat → Nat} {u v j q : Nat}
theorem LG.id (n : Nat) (E : List Ed) (o : List Nat) : LG n E o id := fun _ _ => ⟨Nat.le_refl _, .refl _⟩
theorem LG.turn (h : LG n E o f) (hu : u < n) (hv : v < n) (huv : u ≠ v) (hj : j ∈ o) (he : edP E j = (u, v)) (hq : q ≤ f u ∧ q ≤ f v ∧ (q = f u ∨ q = f v)) (hne : f u ≠ f v) :
    LG n E o (upd (upd f u q) v q) ∧ sN (upd (upd f u q) v q) n + 1 ≤ sN f n := by
  have hl : CI E (· ∈ o) u v := CI.one hj (.inl he)
  have h1 := h u hu
  have h2 := h v hv
  have hcu : CI E (· ∈ o) u q := by
    rcases hq.2.2 with e | e
    · rw [e]; exact h1.2
    · rw [e]; exact hl.trans h2.2
  refine ⟨fun x hx => ?_, ?_⟩
  · by_cases c : x = v
    · subst c
      rw [upd_at]
      exact ⟨by omega, hl.symm.trans hcu⟩
    · rw [upd_ne _ _ c]
      by_cases d : x = u
      · subst d
        rw [upd_at]
        exact ⟨by omega, hcu⟩
      · rw [upd_ne _ _ d]; exact h x hx
  · have s1 := sN_upd (f := f) (v := u) (p := q) hu
    have s2 := sN_upd (f := upd f u q) (v := v) (p := q) hv
    rw [upd_ne _ _ (fun c => huv c.symm)] at s2
    omega
theorem LG.done (h : LG n E o f) (he : ∀ j, j ∈ o → f (edP E j).1 = f (edP E j).2) {x : Nat} (hx : x < n) : f x = labO E o x := by
  have key : ∀ a b, CI E (· ∈ o) a b → f a = f b := fun a b hab => by
    induction hab with
    | refl => rfl
    | @step b c i _ hi hl ih =>
      rw [ih]
      have := he i hi
      rcases hl with e | e <;> rw [e] at this
      · exact this
      · exact this.symm
  have h1 : labO E o x ≤ f x := labL_least (ci_cn.1 (h x hx).2)
  have h2 := key x _ (ci_cn.2 (cn_lab (o.map (edP E)) x))
  have h3 := (labO_ok E o).le x
  have h4 := (h (labO E o x) (by omega)).1
  have h5 : f x = f (labO E o x) := h2
  omega
end
/-- the edges that are left -/
def okB (E : List Ed) (left : Nat → Bool) (wo : Int) (i : Nat) : Bool := !left i && decide (((edP E i).1 : Int) ≠ wo) && decide (((edP E i).2 : Int) ≠ wo)
def okL (E : List Ed) (left : Nat → Bool) (wo : Int) : List Nat := (List.range E.length).filter (okB E left wo)
theorem mem_okL {E : List Ed} {left : Nat → Bool} {wo : Int} {i : Nat} : i ∈ okL E left wo ↔ i < E.length ∧ left i = false ∧ ((edP E i).1 : Int) ≠ wo ∧ ((edP E i).2 : Int) ≠ wo := by
  unfold okL okB
  rw [List.mem_filter, List.mem_range]
  simp [and_assoc]
theorem okL_one (E : List Ed) (i : Nat) : okL E (fun j => decide (j = i)) (-1) = ocE E i := by
  unfold okL ocE okB
  refine List.filter_congr fun j _ => ?_
  have h1 : decide (((edP E j).1 : Int) ≠ -1) = true := decide_eq_true (by omega)
  have h2 : decide (((edP E j).2 : Int) ≠ -1) = true := decide_eq_true (by omega)
  rw [h1, h2]
  by_cases c : j = i <;> simp [c]
theorem okL_none (E : List Ed) : okL E (fun _ => false) (-1) = List.range E.length := by
  unfold okL okB
  refine List.filter_eq_self.2 fun j _ => ?_
  have h1 : decide (((edP E j).1 : Int) ≠ -1) = true := decide_eq_true (by omega)
  have h2 : decide (((edP E j).2 : Int) ≠ -1) = true := decide_eq_true (by omega)
  rw [h1, h2]; rfl
theorem okL_vert (E : List Ed) (x : Nat) : okL E (fun _ => false) (x : Nat) = ocV E x := by
  unfold okL ocV okB
  refine List.filter_congr fun j _ => ?_
  by_cases c : (edP E j).1 = x <;> by_cases d : (edP E j).2 = x <;> simp [c, d] <;> omega
/-- what Labels0 answers -/
def L0Res (n : Nat) (E : List Ed) (left : Nat → Bool) (wo : Int) (w : World) (e : Ending) (w' : World) : Prop :=
  e = .returned (.slice (some ⟨w.heap.size, 0, none⟩) n n) ∧ Row w' w.heap.size n (fun i => .int .i64 (labO E (okL E left wo) i : Nat)) ∧ Below w.heap.size w w'
theorem Try.infoI0 : (Try.prog.info? 3).map (fun i => (i.zero, i.size, i.bytes)) = some (some (.int .i64 0), 1, 8) := by kernel_rfl
set_option maxRecDepth 100000 in
set_option maxHeartbeats 4000000 in
theorem rlab0_any (B b n lb : Nat) (E : List Ed) (left : Nat → Bool) (wo : Int) (w : World) (hR : RAt w B b n E) (hB : B ≤ w.heap.size) (hL : Row w lb E.length (fun i => .bool (left i))) (hlb : lb < w.heap.size) :
    Calls Try.prog 45 #[.pointer (some ⟨b, 0, none⟩), .slice (some ⟨lb, 0, none⟩) E.length E.length, .int .i64 wo] w (L0Res n E left wo w) := by
  have HR := Lib.hid hR
  have HG := Lib.hid hR.ok
  have hn := hR.ok.n_le
  have hml := hR.ok.m_le
  obtain ⟨ea, ec, EA, hce, hES⟩ := hR.edges
  have HCe := Lib.hid hce; have HES := Lib.hid hES
  have HLf := Lib.hid hL
  have hbB := hR.lt
  have c1 := hR.num
  have hmk : ∀ w, (Instr.makeSlice 29 (.int .i64 (n : Nat)) (.int .i64 (n : Nat))).run Try.prog w = .ok (.slice (some ⟨w.heap.size, 0, none⟩) n n) (w.alloc (.cells (madeCells #[.int .i64 0] n) 3)) := fun w =>
    run_make_row' (P := Try.prog) 29 3 (.int .i64 0) 8 Try.underlying29 Try.infoI0 rfl .i64 .i64 n (by omega) (by omega) w
  have hrow := Row.made w (.int .i64 0) n 3
  have HR0 := Lib.hid (show Row (w.alloc (.cells (madeCells #[.int .i64 0] n) 3)) w.heap.size n (fun i => .int .i64 ((if i < 0 then i else 0 : Nat) : Int)) from hrow.congr fun i _ => by rw [if_neg (by omega)]; rfl)
  have HA0 := Lib.hid (show Below w.heap.size w (w.alloc (.cells (madeCells #[.int .i64 0] n) 3)) from (Below.refl _ w).alloc (Nat.le_refl _) _)
  clear hR hce hES hL hrow
  go_enter Try.func45, Try.ntmps45
  go_wp2_with fail
  clear hmk c1
  go_loopw [8] (fun iv wr => ∃ i : Nat, i ≤ n ∧ iv = .int .i64 (i : Nat) ∧ Hid (Row wr w.heap.size n (fun j => .int .i64 ((if j < i then j else 0 : Nat) : Int))) ∧ Hid (Below w.heap.size w wr)) (fun iv _ => n - (intOf iv).toNat)
  case atStart => exact ⟨0, Nat.zero_le _, rfl, HR0, HA0⟩
  case round =>
    clear HR0 HA0
    obtain ⟨i, hi, rfl, HK, HB⟩ := hrel
    by_cases hlt : i < n
    · have ci := HK.out.cell hlt
      have fi := HK.out.frozen i
      rw [if_neg (by omega)] at ci
      have hin : (0 : Int) ≤ i ∧ (i : Int) < n := by omega
      have HK2 := Lib.hid ((HK.out.set i (.int .i64 (i : Nat))).congr (f' := fun j => .int .i64 ((if j < i + 1 then j else 0 : Nat) : Int)) fun j _ => by
        by_cases c : j = i
        · subst c; rw [if_pos rfl, if_pos (by omega)]
        · rw [if_neg c]
          by_cases d : j < i
          · rw [if_pos d, if_pos (by omega)]
          · rw [if_neg d, if_neg (by omega)])
      have HB2 := Lib.hid (HB.out.setCell (p := ⟨w.heap.size, i, none⟩) (Nat.le_refl _) (.int .i64 (i : Nat)))
      clear HK HB
      go_wp2_with fail
      go_roundw
      case rel => exact ⟨i + 1, by omega, by go_num, HK2, HB2⟩
      case measure => simp only [intOf]; omega
    · obtain rfl : i = n := by omega
      have HK1 := Lib.hid (HK.out.congr (f' := fun j => .int .i64 ((id j : Nat) : Int)) fun j hj => by rw [if_pos hj]; rfl)
      have hGd := Lib.hid (LG.id i E (okL E left wo))
      clear HK
      go_wp2_with fail
      go_loopg [9, 10] (sN id i + 1) (fun N c _ wr => ∃ (f : Nat → Nat) (cb : Bool), c = .bool cb ∧ N = (if cb then sN f i + 1 else 0) ∧ Hid (Row wr w.heap.size i (fun j => .int .i64 (f j : Nat))) ∧ Hid (LG i E (okL E left wo) f) ∧ Hid (cb = false → ∀ j, j ∈ okL E left wo → f (edP E j).1 = f (edP E j).2) ∧ Hid (Below w.heap.size w wr))
      case atStart => exact ⟨id, true, rfl, by simp, HK1, hGd, Lib.hid (fun h => by cases h), HB⟩
      case round =>
        clear HK1 hGd HB
        obtain ⟨f, cb, rfl, rfl, HK, HGd, HQ, HB⟩ := hrel
        cases cb with
        | false =>
          have hq := HQ.out rfl
          have HF := Lib.hid (HK.out.congr (f' := fun j => .int .i64 (labO E (okL E left wo) j : Nat)) fun j hj => by
            rw [HGd.out.done hq hj])
          clear hq
          go_wp2_with fail
          go_ret
          exact ⟨rfl, HF.out, HB.out⟩
        | true =>
          go_wp2_with fail
          go_loopw [9, 10] (fun c jv wr => ∃ (j : Nat) (lf : Nat → Nat) (cb : Bool), j ≤ E.length ∧ c = .bool cb ∧ jv = .int .i64 (j : Nat) ∧ Hid (sN lf i + (if cb then 1 else 0) ≤ sN f i) ∧ Hid (Row wr w.heap.size i (fun x => .int .i64 (lf x : Nat))) ∧ Hid (LG i E (okL E left wo) lf) ∧ Hid (cb = false → ∀ k, k < j → k ∈ okL E left wo → lf (edP E k).1 = lf (edP E k).2) ∧ Hid (Below w.heap.size w wr)) (fun _ jv _ => E.length - (intOf jv).toNat)
          case atStart => exact ⟨0, f, false, Nat.zero_le _, rfl, rfl, Lib.hid (by simp), HK, HGd, Lib.hid (fun _ k hk => absurd hk (by omega)), HB⟩
          case round =>
            clear HK HGd HQ HB
            obtain ⟨j, lf, cb, hj, rfl, rfl, HN, HK, HGd, HQ, HB⟩ := hrel
            have ce : wr.cell? ⟨b, 2, none⟩ = some (.slice ea E.length ec) := ((HB.out.mono hB).cell hbB).trans HCe.out
            by_cases hlt : j < E.length
            · have hEr := HES.out.below (HB.out.mono hB)
              have ix := hEr.ix j hlt
              have e0 := ES.u hEr hlt
              have e1 := ES.v hEr hlt
              obtain ⟨u, v, hu, hv, hun, hvn, huv⟩ := HG.out.nats hlt
              rw [hu] at e0; rw [hv] at e1
              have hep : edP E j = (u, v) := by unfold edP; rw [hu, hv]; simp
              have HEp := Lib.hid hep
              have hok := mem_okL (E := E) (left := left) (wo := wo) (i := j)
              rw [hep] at hok
              have cl : wr.cell? ⟨lb, j, none⟩ = some (.bool (left j)) := (HLf.out.below HB.out hlb).cell hlt
              have cfu := HK.out.cell hun
              have cfv := HK.out.cell hvn
              have ffu := HK.out.frozen u
              have ffv := HK.out.frozen v
              obtain ⟨p, hp⟩ : ∃ p, lf u = p := ⟨_, rfl⟩
              obtain ⟨r, hr⟩ : ∃ r, lf v = r := ⟨_, rfl⟩
              rw [hp] at cfu; rw [hr] at cfv
              obtain ⟨lj, hlj⟩ : ∃ x, left j = x := ⟨_, rfl⟩
              rw [hlj] at cl hok
              have hjv : (0 : Int) ≤ j ∧ (j : Int) < E.length := by omega
              have huv1 : (0 : Int) ≤ u ∧ (u : Int) < i := by omega
              have hvv1 : (0 : Int) ≤ v ∧ (v : Int) < i := by omega
              have hwj : IntKind.i64.wrap ((j : Int) + 1) = (j : Int) + 1 := IntWalk.i64_in _ (by omega)
              clear hEr hu hv hep hlj
              by_cases hin : j ∈ okL E left wo ∧ p ≠ r
              · obtain ⟨hjo, hpr⟩ := hin
                obtain ⟨-, rfl, hw1, hw2⟩ := hok.1 hjo
                have d1 : ((u : Int) == wo) = false := beq_eq_false_iff_ne.2 hw1
                have d2 : ((v : Int) == wo) = false := beq_eq_false_iff_ne.2 hw2
                have d3 : ((p : Int) == (r : Int)) = false := beq_eq_false_iff_ne.2 (by omega)
                obtain ⟨q, hq⟩ : ∃ q, q = min p r := ⟨_, rfl⟩
                have ht := HGd.out.turn (q := q) hun hvn huv hjo HEp.out (by rw [hp, hr]; omega) (by rw [hp, hr]; exact hpr)
                have HG2 := Lib.hid ht.1
                have HN2 := Lib.hid (show sN (upd (upd lf u q) v q) i + (if true then 1 else 0) ≤ sN f i by have := HN.out; have := ht.2; simp; omega)
                have HK2 := Lib.hid (show ∀ m, Row (((wr.drewN m).setCell ⟨w.heap.size, u, none⟩ (.int .i64 (q : Nat))).setCell ⟨w.heap.size, v, none⟩ (.int .i64 (q : Nat))) w.heap.size i (fun x => .int .i64 (upd (upd lf u q) v q x : Nat)) from fun m => (((HK.out.drewN m).set u (.int .i64 (q : Nat))).set v (.int .i64 (q : Nat))).congr fun x _ => by
                  unfold upd
                  by_cases c : x = v
                  · rw [if_pos c, if_pos c]
                  · rw [if_neg c, if_neg c]
                    by_cases d : x = u
                    · rw [if_pos d, if_pos d]
                    · rw [if_neg d, if_neg d])
                have HB2 := Lib.hid (show ∀ m, Below w.heap.size w (((wr.drewN m).setCell ⟨w.heap.size, u, none⟩ (.int .i64 (q : Nat))).setCell ⟨w.heap.size, v, none⟩ (.int .i64 (q : Nat))) from fun m => ((below_drewN HB.out m).setCell (p := ⟨w.heap.size, u, none⟩) (Nat.le_refl _) _).setCell (p := ⟨w.heap.size, v, none⟩) (Nat.le_refl _) _)
                have cs1 : ∀ m, ((wr.drewN m).setCell ⟨w.heap.size, u, none⟩ (.int .i64 (q : Nat))).cell? ⟨w.heap.size, v, none⟩ = some (.int .i64 (r : Nat)) := fun m => by
                  rw [World.cell?_setCell_other (h := fun e => by cases e; exact huv rfl)]; exact cfv
                have cs2 : ∀ m, ((wr.drewN m).setCell ⟨w.heap.size, u, none⟩ (.int .i64 (q : Nat))).frozen? ⟨w.heap.size, v, none⟩ = false := fun m => ((HK.out.drewN m).set u (.int .i64 (q : Nat))).frozen v
                rcases Nat.lt_or_ge r p with h1 | h1
                · obtain rfl : q = r := by omega
                  have d4 : decide (q < p) = true := decide_eq_true h1
                  have d5 : decide ((q : Int) < (p : Int)) = true := decide_eq_true (by omega)
                  clear hok hjo hw1 hw2 hpr hq ht HN HK HGd HQ h1 hp hr
                  go_wp2_with fail
                  go_quiet (fail)
                  go_wp2_with fail
                  go_quiet (fail)
                  go_wp2_with fail
                  go_roundw
                  case rel => exact ⟨j + 1, _, true, by omega, rfl, by go_num, HN2, Lib.hid (HK2.out _), HG2, Lib.hid (fun c => by cases c), Lib.hid (HB2.out _)⟩
                  case measure => simp only [intOf]; omega
                · obtain rfl : q = p := by omega
                  have d4 : decide (r < q) = false := decide_eq_false (by omega)
                  have d5 : decide ((r : Int) < (q : Int)) = false := decide_eq_false (by omega)
                  clear hok hjo hw1 hw2 hpr hq ht HN HK HGd HQ h1 hp hr
                  go_wp2_with fail
                  go_quiet (fail)
                  go_wp2_with fail
                  go_quiet (fail)
                  go_wp2_with fail
                  go_roundw
                  case rel => exact ⟨j + 1, _, true, by omega, rfl, by go_num, HN2, Lib.hid (HK2.out _), HG2, Lib.hid (fun c => by cases c), Lib.hid (HB2.out _)⟩
                  case measure => simp only [intOf]; omega
              · have HQ2 := Lib.hid (show cb = false → ∀ k, k < j + 1 → k ∈ okL E left wo → lf (edP E k).1 = lf (edP E k).2 from fun c k hk hm => by
                  by_cases e : k = j
                  · rw [e, HEp.out]; show lf u = lf v; rw [hp, hr]
                    rw [e] at hm
                    exact Classical.byContradiction fun hne => hin ⟨hm, hne⟩
                  · exact HQ.out c k (by omega) hm)
                have HKd := Lib.hid (fun m => HK.out.drewN m)
                have HBd := Lib.hid (fun m => below_drewN HB.out m)
                have hcase : lj = true ∨ lj = false ∧ (((u : Int) == wo) = true ∨ ((u : Int) == wo) = false ∧ (((v : Int) == wo) = true ∨ ((v : Int) == wo) = false ∧ ((p : Int) == (r : Int)) = true)) := by
                  cases lj with
                  | true => exact .inl rfl
                  | false =>
                    refine .inr ⟨rfl, ?_⟩
                    by_cases h1 : (u : Int) = wo
                    · exact .inl (beq_iff_eq.2 h1)
                    · refine .inr ⟨beq_eq_false_iff_ne.2 h1, ?_⟩
                      by_cases h2 : (v : Int) = wo
                      · exact .inl (beq_iff_eq.2 h2)
                      · refine .inr ⟨beq_eq_false_iff_ne.2 h2, beq_iff_eq.2 ?_⟩
                        have : p = r := Classical.byContradiction fun hne => hin ⟨hok.2 ⟨hlt, rfl, h1, h2⟩, hne⟩
                        omega
                clear hok hin HK HQ hp hr
                rcases hcase with rfl | ⟨rfl, d1 | ⟨d1, d2 | ⟨d2, d3⟩⟩⟩
                all_goals
                  go_wp2_with fail
                  go_quiet (fail)
                  go_wp2_with fail
                  go_quiet (fail)
                  go_wp2_with fail
                  go_roundw
                  case rel => exact ⟨j + 1, lf, cb, by omega, rfl, by go_num, HN, Lib.hid (HKd.out _), HGd, HQ2, Lib.hid (HBd.out _)⟩
                  case measure => simp only [intOf]; omega
            · obtain rfl : j = E.length := by omega
              have HQ3 := Lib.hid (fun (c : cb = false) k (hk : k ∈ okL E left wo) => HQ.out c k (mem_okL.1 hk).1 hk)
              clear HQ
              go_wp2_with fail
              go_roundg (if cb then sN lf i + 1 else 0)
              case rel => exact ⟨lf, cb, rfl, rfl, HK, HGd, HQ3, HB⟩
              case measure => have := HN.out; cases cb <;> simp at * <;> omega
end Go.Proofs.Ytcpikabhcjkkmaa
