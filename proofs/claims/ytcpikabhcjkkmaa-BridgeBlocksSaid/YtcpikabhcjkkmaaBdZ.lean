/- The document's labels of the parts without bridges, and its cut vertices. Conditions: the graph is made. -/
import Derived.Test.YtcpikabhcjkkmaaBdB
import Derived.Test.YtcpikabhcjkkmaaBrL
import Derived.Test.YtcpikabhcjkkmaaBpB
import Derived.Test.YtcpikabhcjkkmaaBlR
import Derived.Test.YtcpikabhcjkkmaaBrWk
namespace Go.Proofs.Ytcpikabhcjkkmaa
open Go.RowKit

theorem okL_bri (E : List Ed) : okL E (fun j => decide (j ∈ briL E)) (-1) = nbL E := by
  unfold okL nbL okB
  refine List.filter_congr fun j hj => ?_
  have h1 : decide (((edP E j).1 : Int) ≠ -1) = true := decide_eq_true (by omega)
  have h2 : decide (((edP E j).2 : Int) ≠ -1) = true := decide_eq_true (by omega)
  have h3 : decide (j ∈ briL E) = briB E j := by
    rw [Bool.eq_iff_iff, decide_eq_true_eq, mem_briL, bri_iff]
    simp [List.mem_range.1 hj]
  rw [h1, h2]
  show (!decide (j ∈ briL E) && true && true) = !briB E j
  rw [h3]; simp
theorem OIRes.rd {l : List Nat} {w w' : World} {e : Ending} (h : OIRes l w e w') : ∃ v, e = .returned v ∧ RdI w' w'.heap.size v l ∧ Below w.heap.size w w' := by
  obtain ⟨v, rfl, h1, h2⟩ := h
  exact ⟨v, rfl, ownI_rd h1, h2⟩
/-- a list of indexes in memory -/
def RIRes (l : List Nat) (w : World) (e : Ending) (w' : World) : Prop := ∃ v, e = .returned v ∧ RdI w' w'.heap.size v l ∧ Below w.heap.size w w'
set_option maxRecDepth 100000 in
set_option maxHeartbeats 1000000 in
theorem rlabs_any (B b n : Nat) (E : List Ed) (w : World) (hR : RAt w B b n E) (hB : B ≤ w.heap.size) :
    Calls Try.prog 21 #[.pointer (some ⟨b, 0, none⟩)] w (RIRes ((List.range n).map (labO E (nbL E))) w) := by
  have hml := hR.ok.m_le
  have HV := Lib.hid (rval_any B b n E w hR)
  obtain ⟨ea, ec, EA, hce, -⟩ := hR.edges
  have hmk : ∀ w, (Instr.makeSlice 56 (.int .i64 (E.length : Nat)) (.int .i64 (E.length : Nat))).run Try.prog w = .ok (.slice (some ⟨w.heap.size, 0, none⟩) E.length E.length) (w.alloc (.cells (madeCells #[.bool false] E.length) 4)) := fun w =>
    run_make_row' (P := Try.prog) 56 4 (.bool false) 1 Try.underlying56 Try.infoBl0 rfl .i64 .i64 E.length (by omega) (by omega) w
  have hrow := Row.made w (.bool false) E.length 4
  have hb1 : Below w.heap.size w (w.alloc (.cells (madeCells #[.bool false] E.length) 4)) := (Below.refl _ w).alloc (Nat.le_refl _) _
  have hsz : (w.alloc (.cells (madeCells #[.bool false] E.length) 4)).heap.size = w.heap.size + 1 := by simp
  have HC := Lib.hid (rbridges_any B b n E _ (hR.below (hb1.mono hB)) (by omega))
  have HR := Lib.hid hR
  have HRow := Lib.hid hrow
  have HB1 := Lib.hid hb1
  clear hR hrow hb1
  go_enter Try.func21, Try.ntmps21
  go_wp2_with fail
  refine HV.out.mono ?_
  rintro e wz ⟨rfl, rfl⟩
  clear HV
  go_wp2_with fail
  refine HC.out.mono ?_
  clear HC
  rintro e w2 ⟨v2, rfl, hO, b2⟩
  have hs2 := b2.size
  rw [hsz] at hs2
  have HB2 := Lib.hid (HB1.out.trans (b2.mono (by omega)))
  have HRow2 := Lib.hid (HRow.out.below b2 (by omega))
  have hbl := briL_len E
  obtain ⟨a2, c2, A2, hv2, -⟩ := ownI_rd hO
  rw [hsz] at hO
  subst hv2
  have HO := Lib.hid hO
  have HLt := Lib.hid (fun k (hk : k < (briL E).length) => (mem_briL.1 (getD_mem' hk)).1)
  have HOk := Lib.hid (okL_bri E)
  obtain ⟨l, hl⟩ : ∃ l, briL E = l := ⟨_, rfl⟩
  rw [hl] at HO HLt HOk hbl ⊢
  clear b2 hO HRow HB1 hce hmk hsz hl
  go_wp2_with fail
  go_loopw [5] (fun iv wr => ∃ i : Nat, i ≤ l.length ∧ iv = .int .i64 (i : Nat) ∧ Hid (Row wr w.heap.size E.length (fun j => .bool (decide (j ∈ l.take i)))) ∧ Hid (Below w.heap.size w wr) ∧ Hid (OwnI (w.heap.size + 1) (.slice a2 l.length c2) l wr)) (fun iv _ => l.length - (intOf iv).toNat)
  case atStart => exact ⟨0, Nat.zero_le _, rfl, Lib.hid (HRow2.out.congr fun j _ => by simp), HB2, HO⟩
  case round =>
    clear HRow2 HB2 HO
    obtain ⟨i, hi, rfl, HRo, HB, HO⟩ := hrel
    have hwi : IntKind.i64.wrap ((i : Int) + 1) = (i : Int) + 1 := IntWalk.i64_in _ (by omega)
    by_cases hlt : i < l.length
    · obtain ⟨ai, ixi, ci⟩ := RdI.get (ownI_rd HO.out) hlt
      have hx := HLt.out i hlt
      obtain ⟨x, hxe⟩ : ∃ x, l.getD i 0 = x := ⟨_, rfl⟩
      rw [hxe] at ci hx
      have cx := HRo.out.cell hx
      have fx := HRo.out.frozen x
      have HR2 := Lib.hid ((HRo.out.set x (.bool true)).congr (f' := fun j => .bool (decide (j ∈ l.take (i + 1)))) fun j _ => by
        rw [take_snocN hlt, hxe]
        by_cases c : j = x <;> simp [c])
      have HB2 := Lib.hid (HB.out.setCell (p := ⟨w.heap.size, x, none⟩) (Nat.le_refl _) (.bool true))
      have HO2 := Lib.hid (show OwnI (w.heap.size + 1) (.slice a2 l.length c2) l (wr.setCell ⟨w.heap.size, x, none⟩ (.bool true)) from ownsRow_setCell_below HO.out (a := ⟨w.heap.size, x, none⟩) (Nat.lt_succ_self _) (.bool true))
      have hin : (0 : Int) ≤ i ∧ (i : Int) < l.length := by omega
      have hxn : (0 : Int) ≤ x ∧ (x : Int) < E.length := by omega
      clear hxe HRo HB HO
      go_wp2_with fail
      go_roundw
      case rel => exact ⟨i + 1, by omega, by go_num, HR2, HB2, HO2⟩
      case measure => simp only [intOf]; omega
    · obtain rfl : i = l.length := by omega
      have hrl : Row wr w.heap.size E.length (fun j => .bool (decide (j ∈ l))) := HRo.out.congr fun j _ => by rw [List.take_length]
      have HC := Lib.hid (rlab0_any B b n w.heap.size E (fun j => decide (j ∈ l)) (-1) wr (HR.out.below (HB.out.mono hB)) (by have := HB.out.size; omega) hrl hrl.lt)
      clear hrl HRo HO
      go_wp2_with fail
      refine HC.out.mono ?_
      clear HC
      rintro e w5 ⟨rfl, hrow, b5⟩
      rw [HOk.out] at hrow
      have HF := Lib.hid (show RIRes ((List.range n).map (labO E (nbL E))) w (.returned (.slice (some ⟨wr.heap.size, 0, none⟩) n n)) w5 from ⟨_, rfl, row_rdI (cap := n) hrow, HB.out.trans (b5.mono HB.out.size)⟩)
      clear hrow b5
      go_wp2_with fail
      go_ret
      exact HF.out
/-! the cut vertices -/
/-- what is known behind the first vertices of a component -/
structure CuI (q : Nat → Prop) (g : Nat → Nat) (u : Nat) (f : Int) (c : Bool) : Prop where
  h1 : f < 0 → f = -1 ∧ ∀ j, j < u → ¬ q j
  h2 : 0 ≤ f → f.toNat < u ∧ q f.toNat
  h3 : c = true ↔ 0 ≤ f ∧ ∃ j, j < u ∧ q j ∧ g j ≠ g f.toNat
section
variable {q : Nat → Prop} {g : Nat → Nat} {u : Nat} {f : Int} {c : Bool}
theorem CuI.zero : CuI q g 0 (-1) false := ⟨fun _ => ⟨rfl, fun _ h => by omega⟩, fun h => by omega, by simp⟩
theorem CuI.skip (h : CuI q g u f c) (hu : ¬ q u) : CuI q g (u + 1) f c := by
  have key : ∀ j, j < u + 1 → q j → j < u := fun j hj hm => by
    by_cases e : j = u
    · rw [e] at hm; exact absurd hm hu
    · omega
  refine ⟨fun hf => ⟨(h.h1 hf).1, fun j hj hm => (h.h1 hf).2 j (key j hj hm) hm⟩, fun hf => ?_, ?_⟩
  · have := h.h2 hf; exact ⟨by omega, this.2⟩
  · rw [h.h3]
    constructor
    · rintro ⟨h0, j, a, b, c⟩; exact ⟨h0, j, by omega, b, c⟩
    · rintro ⟨h0, j, a, b, c⟩; exact ⟨h0, j, key j a b, b, c⟩
theorem CuI.new (h : CuI q g u f c) (hf : f < 0) (hu : q u) : c = false ∧ CuI q g (u + 1) (u : Int) false := by
  refine ⟨?_, fun h0 => by omega, fun _ => ⟨by omega, by simpa using hu⟩, ?_⟩
  · cases c with
    | false => rfl
    | true => have := (h.h3.1 rfl).1; omega
  · constructor
    · intro e; cases e
    · rintro ⟨_, j, a, b, e⟩
      rw [Int.toNat_natCast] at e
      by_cases d : j = u
      · rw [d] at e; exact absurd rfl e
      · exact absurd b ((h.h1 hf).2 j (by omega))
theorem CuI.old (h : CuI q g u f c) (hf : 0 ≤ f) (hu : q u) : CuI q g (u + 1) f (c || decide (g u ≠ g f.toNat)) := by
  refine ⟨fun h0 => by omega, fun _ => ?_, ?_⟩
  · have := h.h2 hf; exact ⟨by omega, this.2⟩
  · rw [Bool.or_eq_true, h.h3, decide_eq_true_eq]
    constructor
    · rintro (⟨h0, j, a, b, e⟩ | e)
      · exact ⟨h0, j, by omega, b, e⟩
      · exact ⟨hf, u, by omega, hu, e⟩
    · rintro ⟨h0, j, a, b, e⟩
      by_cases d : j = u
      · rw [d] at e; exact .inr e
      · exact .inl ⟨h0, j, by omega, b, e⟩
theorem CuI.end {n : Nat} (h : CuI q g n f c) : c = true ↔ ∃ a b, a < n ∧ b < n ∧ q a ∧ q b ∧ g a ≠ g b := by
  rw [h.h3]
  constructor
  · rintro ⟨h0, j, a, b, e⟩
    have := h.h2 h0
    exact ⟨j, _, a, this.1, b, this.2, e⟩
  · rintro ⟨a, b, ha, hb, qa, qb, e⟩
    rcases Int.lt_or_le f 0 with hf | hf
    · exact absurd qa ((h.h1 hf).2 a ha)
    · refine ⟨hf, ?_⟩
      by_cases d : g a = g f.toNat
      · exact ⟨b, hb, qb, fun d' => e (d.trans d'.symm)⟩
      · exact ⟨a, ha, qa, d⟩
end
/-- the document's words for a cut vertex -/
theorem cut_doc {n : Nat} {E : List Ed} (G : GOk n E) {v : Nat} (hv : v < n) : v ∈ cutL n E ↔ ∃ a b, a < n ∧ b < n ∧ (a ≠ v ∧ labO E (List.range E.length) a = labO E (List.range E.length) v) ∧ (b ≠ v ∧ labO E (List.range E.length) b = labO E (List.range E.length) v) ∧ labO E (ocV E v) a ≠ labO E (ocV E v) b := by
  rw [cutL, List.mem_filter, List.mem_range, cutB_iff G]
  constructor
  · rintro ⟨_, i, j, y, z, hi, hj, l1, l2, h⟩
    have k1 := ends_ne G hi l1
    have k2 := ends_ne G hj l2
    exact ⟨y, z, k1.2.2, k2.2.2, ⟨k1.1.symm, ci_lab.1 (ci_range.2 (CI.one hi l1.symm))⟩, ⟨k2.1.symm, ci_lab.1 (ci_range.2 (CI.one hj l2.symm))⟩, fun c => h (ci_noV.2 c)⟩
  · rintro ⟨a, b, ha, hb, ⟨hav, hal⟩, ⟨hbv, hbl⟩, h⟩
    have key : ∀ x, x ≠ v → labO E (List.range E.length) x = labO E (List.range E.length) v → ∃ i y, i < E.length ∧ Lnk E i v y ∧ CI E (noV E v) y x := fun x hx hl => by
      have hc := (ci_range.1 (ci_lab.2 hl)).symm
      obtain ⟨i, y, h1, h2, h3⟩ := ci_leave hc (fun c => hx c.symm)
      exact ⟨i, y, h1, h2, h3⟩
    obtain ⟨i, y, hi, l1, c1⟩ := key a hav hal
    obtain ⟨j, z, hj, l2, c2⟩ := key b hbv hbl
    exact ⟨hv, i, j, y, z, hi, hj, l1, l2, fun c => h (ci_noV.1 ((c1.symm.trans c).trans c2))⟩
end Go.Proofs.Ytcpikabhcjkkmaa

/- The walk of the document's cut vertices. Conditions: the graph is made. -/
namespace Go.Proofs.Ytcpikabhcjkkmaa
open Go.RowKit

theorem cutT_succ (E : List Ed) (k : Nat) : (List.range (k + 1)).filter (cutB E) = if cutB E k then (List.range k).filter (cutB E) ++ [k] else (List.range k).filter (cutB E) := by
  rw [List.range_succ, List.filter_append]
  by_cases c : cutB E k = true
  · rw [if_pos c]; simp [c]
  · rw [if_neg c]; simp [c]
set_option maxRecDepth 100000 in
set_option maxHeartbeats 4000000 in
theorem rcuts_any (B b n : Nat) (E : List Ed) (w : World) (hR : RAt w B b n E) (hB : B ≤ w.heap.size) :
    Calls Try.prog 19 #[.pointer (some ⟨b, 0, none⟩)] w (RIRes (cutL n E) w) := by
  have hml := hR.ok.m_le
  have hn4 := hR.ok.n_le
  have HGk := Lib.hid hR.ok
  have HV := Lib.hid (rval_any B b n E w hR)
  obtain ⟨ea, ec, EA, hce, -⟩ := hR.edges
  have hmk : ∀ w, (Instr.makeSlice 56 (.int .i64 (E.length : Nat)) (.int .i64 (E.length : Nat))).run Try.prog w = .ok (.slice (some ⟨w.heap.size, 0, none⟩) E.length E.length) (w.alloc (.cells (madeCells #[.bool false] E.length) 4)) := fun w =>
    run_make_row' (P := Try.prog) 56 4 (.bool false) 1 Try.underlying56 Try.infoBl0 rfl .i64 .i64 E.length (by omega) (by omega) w
  have hrow := Row.made w (.bool false) E.length 4
  have hb1 : Below w.heap.size w (w.alloc (.cells (madeCells #[.bool false] E.length) 4)) := (Below.refl _ w).alloc (Nat.le_refl _) _
  have hsz : (w.alloc (.cells (madeCells #[.bool false] E.length) 4)).heap.size = w.heap.size + 1 := by simp
  have HC := Lib.hid (rlab0_any B b n w.heap.size E (fun _ => false) (-1) _ (hR.below (hb1.mono hB)) (by omega) hrow hrow.lt)
  have HR := Lib.hid hR
  have HRow := Lib.hid hrow
  have HB1 := Lib.hid hb1
  clear hR hrow hb1
  go_enter Try.func19, Try.ntmps19
  go_wp2_with fail
  refine HV.out.mono ?_
  rintro e wz ⟨rfl, rfl⟩
  clear HV
  go_wp2_with fail
  refine HC.out.mono ?_
  clear HC
  rintro e w2 ⟨rfl, hall, b2⟩
  have hs2 := b2.size
  rw [hsz] at hs2 b2
  simp only [World.size_alloc] at hall ⊢
  rw [okL_none] at hall
  have HB2 := Lib.hid (HB1.out.trans (b2.mono (by omega)))
  have HRow2 := Lib.hid (HRow.out.below b2 (by omega))
  have HAll := Lib.hid hall
  have hal := hall.lt
  have HR2 := Lib.hid (HR.out.below (HB2.out.mono hB))
  have hs2b : B ≤ w2.heap.size := by omega
  clear b2 hall HRow HB1 hce hmk hsz HR
  go_wp2_with fail
  go_loopw [5, 6] (fun ov iv wr => ∃ v : Nat, v ≤ n ∧ iv = .int .i64 (v : Nat) ∧ Hid (OwnI w2.heap.size ov ((List.range v).filter (cutB E)) wr) ∧ Hid (Below w2.heap.size w2 wr)) (fun _ iv _ => n - (intOf iv).toNat)
  case atStart => exact ⟨0, Nat.zero_le _, rfl, Lib.hid (World.ownsRow_nil _ _ _ _), Lib.hid (Below.refl _ _)⟩
  case round =>
    obtain ⟨v, hv, rfl, HO, HB⟩ := hrel
    have hRr := HR2.out.below (HB.out.mono hs2b)
    have c1 := hRr.num
    have hsr := HB.out.size
    have hwv : IntKind.i64.wrap ((v : Int) + 1) = (v : Int) + 1 := IntWalk.i64_in _ (by omega)
    by_cases hlt : v < n
    · have hrw := HRow2.out.below HB.out (by omega)
      have HC := Lib.hid (rlab0_any B b n w.heap.size E (fun _ => false) (v : Nat) wr hRr (by omega) hrw hrw.lt)
      have HS := Lib.hid (cutT_succ E v)
      have HCd := Lib.hid (cut_doc HGk.out hlt)
      have hvi : (0 : Int) ≤ v ∧ (v : Int) < n := by omega
      obtain ⟨wa, rfl⟩ : ∃ wa : World, wa = wr := ⟨_, rfl⟩
      clear hRr hrw
      go_wp2_with fail
      refine HC.out.mono ?_
      clear HC
      rintro e w3 ⟨rfl, hlv, b3⟩
      rw [okL_vert] at hlv
      have HLv := Lib.hid hlv
      have HB3 := Lib.hid (HB.out.trans (b3.mono hsr))
      have HO3 := Lib.hid (ownI_below HO.out b3)
      have hll := hlv.lt
      have HA3 := Lib.hid (HAll.out.below HB3.out hal)
      have c13 : w3.cell? ⟨b, 1, none⟩ = some (.int .i64 n) := (HR2.out.below (HB3.out.mono hs2b)).num
      obtain ⟨al, hal2⟩ : ∃ f, labO E (List.range E.length) = f := ⟨_, rfl⟩
      obtain ⟨lv, hlv2⟩ : ∃ f, labO E (ocV E v) = f := ⟨_, rfl⟩
      rw [hal2] at HCd HA3
      rw [hlv2] at HCd HLv
      clear hlv b3 hal2 hlv2 HB HO c1
      go_wp2_with fail
      go_loopw [8, 9, 10] (fun fv cv iv wr => ∃ (u : Nat) (f : Int) (c : Bool), u ≤ n ∧ fv = .int .i64 f ∧ cv = .bool c ∧ iv = .int .i64 (u : Nat) ∧ Hid (CuI (fun x => x ≠ v ∧ al x = al v) lv u f c) ∧ Hid (∃ q, wr = w3.drewN q)) (fun _ _ iv _ => n - (intOf iv).toNat)
      case atStart => exact ⟨0, -1, false, Nat.zero_le _, rfl, rfl, rfl, Lib.hid CuI.zero, Lib.hid ⟨0, rfl⟩⟩
      case round =>
        obtain ⟨u, f, c, hu, rfl, rfl, rfl, HI, HQ⟩ := hrel
        obtain ⟨q, hq⟩ := HQ.out
        subst hq
        have hwu : IntKind.i64.wrap ((u : Int) + 1) = (u : Int) + 1 := IntWalk.i64_in _ (by omega)
        by_cases hun : u < n
        · have cu := HA3.out.cell hun
          have cv := HA3.out.cell hlt
          have lu := HLv.out.cell hun
          have d1 : decide ((u : Int) < (n : Int)) = true := decide_eq_true (by omega)
          have hui : (0 : Int) ≤ u ∧ (u : Int) < n := by omega
          have HQs := Lib.hid (fun m => (⟨_, World.drewN_drewN _ _ _⟩ : ∃ q', (w3.drewN q).drewN m = w3.drewN q'))
          obtain ⟨pu, hpu⟩ : ∃ p, al u = p := ⟨_, rfl⟩
          obtain ⟨pv, hpv⟩ : ∃ p, al v = p := ⟨_, rfl⟩
          rw [hpu] at cu; rw [hpv] at cv
          have cu : (w3.drewN q).cell? ⟨w.heap.size + 1, u, none⟩ = _ := cu
          have cv : (w3.drewN q).cell? ⟨w.heap.size + 1, v, none⟩ = _ := cv
          have lu : (w3.drewN q).cell? ⟨wa.heap.size, u, none⟩ = _ := lu
          have c14 : (w3.drewN q).cell? ⟨b, 1, none⟩ = some (.int .i64 n) := c13
          by_cases hqq : u ≠ v ∧ al u = al v
          · have e1 : ((u : Int) == (v : Int)) = false := by simp; omega
            have e2 : ((pu : Int) != (pv : Int)) = false := by simp; omega
            by_cases hf : f < 0
            · have hnew := HI.out.new hf hqq
              have hc := hnew.1
              subst hc
              have HN := Lib.hid hnew.2
              have hf1 : decide (f < 0) = true := decide_eq_true hf
              have e3 : ((lv u : Int) != (lv u : Int)) = false := by simp
              obtain ⟨pl, hpl⟩ : ∃ p, lv u = p := ⟨_, rfl⟩
              rw [hpl] at lu e3
              clear hnew HI hqq hf hpu hpv hpl HQ
              generalize w3.drewN q = wq at *
              go_wp2_with fail
              go_quiet (fail)
              go_wp2_with fail
              go_quiet (fail)
              go_wp2_with fail
              go_roundw
              case rel => exact ⟨u + 1, (u : Int), false, by omega, rfl, rfl, by go_num, HN, Lib.hid (HQs.out _)⟩
              case measure => simp only [intOf]; omega
            · have hf0 : 0 ≤ f := by omega
              have h2 := HI.out.h2 hf0
              obtain ⟨k, hk⟩ : ∃ k : Nat, f = (k : Int) := ⟨f.toNat, by omega⟩
              subst hk
              rw [Int.toNat_natCast] at h2
              have hkn : k < n := by omega
              have lk : (w3.drewN q).cell? ⟨wa.heap.size, k, none⟩ = _ := HLv.out.cell hkn
              have hold := HI.out.old hf0 hqq
              rw [Int.toNat_natCast] at hold
              have hf1 : decide ((k : Int) < 0) = false := decide_eq_false (by omega)
              have hki : (0 : Int) ≤ k ∧ (k : Int) < n := by omega
              obtain ⟨pl, hpl⟩ : ∃ p, lv u = p := ⟨_, rfl⟩
              obtain ⟨pk, hpk⟩ : ∃ p, lv k = p := ⟨_, rfl⟩
              rw [hpl] at lu hold; rw [hpk] at lk hold
              by_cases hg : pl = pk
              · have e3 : ((pl : Int) != (pk : Int)) = false := by simp [hg]
                have HN : Hid (CuI (fun x => x ≠ v ∧ al x = al v) lv (u + 1) (k : Int) c) := Lib.hid (by simpa [hg] using hold)
                clear hold HI hqq hf hf0 h2 hkn hpu hpv hpl hpk hg HQ
                generalize w3.drewN q = wq at *
                go_wp2_with fail
                go_quiet (fail)
                go_wp2_with fail
                go_quiet (fail)
                go_wp2_with fail
                go_roundw
                case rel => exact ⟨u + 1, (k : Int), c, by omega, rfl, rfl, by go_num, HN, Lib.hid (HQs.out _)⟩
                case measure => simp only [intOf]; omega
              · have e3 : ((pl : Int) != (pk : Int)) = true := by simp; omega
                have HN : Hid (CuI (fun x => x ≠ v ∧ al x = al v) lv (u + 1) (k : Int) true) := Lib.hid (by simpa [hg] using hold)
                clear hold HI hqq hf hf0 h2 hkn hpu hpv hpl hpk hg HQ
                generalize w3.drewN q = wq at *
                go_wp2_with fail
                go_quiet (fail)
                go_wp2_with fail
                go_quiet (fail)
                go_wp2_with fail
                go_roundw
                case rel => exact ⟨u + 1, (k : Int), true, by omega, rfl, rfl, by go_num, HN, Lib.hid (HQs.out _)⟩
                case measure => simp only [intOf]; omega
          · have HN := Lib.hid (HI.out.skip hqq)
            have hcase : ((u : Int) == (v : Int)) = true ∨ ((u : Int) == (v : Int)) = false ∧ ((pu : Int) != (pv : Int)) = true := by
              by_cases e : u = v
              · exact .inl (by simp [e])
              · refine .inr ⟨by simp; omega, ?_⟩
                have : pu ≠ pv := fun d => hqq ⟨e, by rw [hpu, hpv]; exact d⟩
                simp; omega
            clear HI hqq hpu hpv HQ
            generalize w3.drewN q = wq at *
            rcases hcase with e1 | ⟨e1, e2⟩
            all_goals
              go_wp2_with fail
              go_quiet (fail)
              go_wp2_with fail
              go_roundw
              case rel => exact ⟨u + 1, f, c, by omega, rfl, rfl, by go_num, HN, Lib.hid (HQs.out _)⟩
              case measure => simp only [intOf]; omega
        · obtain rfl : u = n := by omega
          have hend := HI.out.end
          have hcb : cutB E v = c := by
            rw [Bool.eq_iff_iff, hend]
            have := HCd.out
            rw [cutL, List.mem_filter, List.mem_range] at this
            constructor
            · intro h; exact this.1 ⟨hlt, h⟩
            · intro h; exact (this.2 h).2
          have HS2 := HS.out
          rw [hcb] at HS2
          have HBq := Lib.hid (below_drewN HB3.out q)
          have c14 : (w3.drewN q).cell? ⟨b, 1, none⟩ = some (.int .i64 u) := c13
          have HOq := Lib.hid (ownI_below HO3.out (below_drewN (Below.refl w3.heap.size w3) q))
          clear hend hcb HS HI HQ
          generalize w3.drewN q = wq at *
          cases c with
          | true =>
            have hT : (List.range (v + 1)).filter (cutB E) = (List.range v).filter (cutB E) ++ [v] := HS2
            have HT := Lib.hid hT
            have hown := HOq.out
            have hsz := HBq.out.size
            have hln := filR_len (p := cutB E) v
            unfold OwnI at hown
            clear hT HS2 HOq HO3
            generalize (List.range v).filter (cutB E) = T at *
            go_wp2_with (at_builtin; refine push etI rfl _ _ rfl w2.heap.size _ _ _ hown rfl #[.int .i64 (v : Nat)] _ rfl rfl rfl (by simp [Value.oneCell']) (by omega) (by omega) hsz ?_; intro g cp w5 hown5 hg5 hv5)
            have hb5 := Lib.hid (HBq.out.grown hg5 hsz (fun j e => (hown.lt j e).1))
            go_roundw
            case rel => exact ⟨v + 1, by omega, by go_num, by rw [HT.out]; exact Lib.hid (by unfold OwnI; rw [intsN_snoc, List.map_append, List.length_append]; exact hown5), hb5⟩
            case measure => simp only [intOf]; omega
          | false =>
            have HT := Lib.hid (show (List.range (v + 1)).filter (cutB E) = (List.range v).filter (cutB E) from HS2)
            clear HS2
            go_wp2_with fail
            go_roundw
            case rel => exact ⟨v + 1, by omega, by go_num, by rw [HT.out]; exact HOq, HBq⟩
            case measure => simp only [intOf]; omega
    · obtain rfl : v = n := by omega
      have HF := Lib.hid (show RIRes (cutL v E) w (.returned u5) wr from ⟨_, rfl, ownI_rd HO.out, HB2.out.trans (HB.out.mono (by omega))⟩)
      clear hRr HO
      go_wp2_with fail
      go_ret
      exact HF.out
end Go.Proofs.Ytcpikabhcjkkmaa

/- The walk of the law BridgeFinds: the program's graph beside the document's. Conditions: the edges are given as cells. -/
namespace Go.Proofs.Ytcpikabhcjkkmaa
open Go.RowKit

theorem cutL_len2 (n : Nat) (E : List Ed) : (cutL n E).length ≤ n := by
  have := List.length_filter_le (cutB E) (List.range n)
  simpa [cutL] using this
/-- what both answers -/
def BothRes (n : Int) (E : List Ed) (w : World) (e : Ending) (w' : World) : Prop := Below w.heap.size w w' ∧
  ((∃ v1 v2, e = .returned (.tuple #[v1, v2, .bool false])) ∨ ∃ (k b r : Nat), n = (k : Int) ∧ k ≤ 40 ∧ E.length ≤ 60 ∧ GOk k E ∧ e = .returned (.tuple #[.pointer (some ⟨b, 0, none⟩), .pointer (some ⟨r, 0, none⟩), .bool true]) ∧
    GraphAt w' w'.heap.size b k E ∧ RAt w' w'.heap.size r k E)
set_option maxRecDepth 100000 in
set_option maxHeartbeats 1000000 in
theorem both_any (B : Nat) (a : Option Addr) (cap : Nat) (A : Nat → Addr) (n : Int) (E : List Ed) (w : World) (hS : ES w B (.slice a E.length cap) E A) (hB : B ≤ w.heap.size) (hl : E.length ≤ 9223372036854775807) :
    Calls Try.prog 13 #[.int .i64 n, .slice a E.length cap] w (BothRes n E w) := by
  by_cases h1 : 40 < n
  · have d1 : decide (n > 40) = true := decide_eq_true h1
    have d2 : decide (40 < n) = true := decide_eq_true h1
    clear hS h1
    go_enter Try.func13, Try.ntmps13
    go_wp2_with fail
    go_ret3
    exact ⟨Below.refl _ _, .inl ⟨_, _, rfl⟩⟩
  have d1 : decide (n > 40) = false := decide_eq_false h1
  have d2 : decide (40 < n) = false := decide_eq_false h1
  by_cases h2 : 60 < E.length
  · have d3 : decide ((E.length : Int) > 60) = true := decide_eq_true (by omega)
    have d4 : decide (60 < E.length) = true := decide_eq_true h2
    clear hS h1 h2
    go_enter Try.func13, Try.ntmps13
    go_wp2_with fail
    go_ret3
    exact ⟨Below.refl _ _, .inl ⟨_, _, rfl⟩⟩
  have d3 : decide ((E.length : Int) > 60) = false := decide_eq_false (by omega)
  have d4 : decide (60 < E.length) = false := decide_eq_false h2
  have HG := Lib.hid (gnew_any B a cap A n E w hS hB hl)
  have HS := Lib.hid hS
  have H1 := Lib.hid h1; have H2 := Lib.hid h2
  clear hS h1 h2
  go_enter Try.func13, Try.ntmps13
  go_wp2_with fail
  refine HG.out.mono ?_
  clear HG
  rintro e w2 ⟨b2, h⟩
  have hs2 := b2.size
  have HN := Lib.hid (rnew_any B a cap A n E w2 (HS.out.below (b2.mono hB)) (by omega) hl)
  have HB2 := Lib.hid b2
  clear b2
  rcases h with ⟨h0, rfl⟩ | ⟨b, k, rfl, hok, rfl, hgr⟩
  · have hz : (gErr n E == 0) = false := beq_eq_false_iff_ne.2 h0
    have hz2 : (gErr n E != 0) = true := by simpa using h0
    generalize hge : gErr n E = ge at *
    clear h0
    go_wp2_with fail
    refine HN.out.mono ?_
    clear HN
    rintro e w3 ⟨v3, rfl, -, b3⟩
    have HB3 := Lib.hid (HB2.out.trans (b3.mono hs2))
    clear b3
    go_wp2_with fail
    go_ret3
    exact ⟨HB3.out, .inl ⟨_, _, rfl⟩⟩
  · have HGr := Lib.hid hgr
    have HOk := Lib.hid hok
    clear hgr hok
    go_wp2_with fail
    refine HN.out.mono ?_
    clear HN
    rintro e w3 ⟨v3, rfl, hrg, b3⟩
    rw [gErr_ok HOk.out]
    rw [gO_some HOk.out] at hrg
    obtain ⟨r, rfl, hra⟩ := hrg
    have HF := Lib.hid (show BothRes (k : Int) E w (.returned (.tuple #[.pointer (some ⟨b, 0, none⟩), .pointer (some ⟨r, 0, none⟩), .bool true])) w3 from ⟨HB2.out.trans (b3.mono hs2), .inr ⟨k, b, r, rfl, by have := H1.out; omega, by have := H2.out; omega, HOk.out, rfl, (HGr.out.below b3).mono b3.size, hra⟩⟩)
    clear b3 hra
    go_wp2_with fail
    go_ret3
    exact HF.out
set_option maxRecDepth 100000 in
set_option maxHeartbeats 2000000 in
theorem finds_walk (n : Int) (a : Option Addr) (cap : Nat) (A : Nat → Addr) (E : List Ed) (w : World) (hS : ES w w.heap.size (.slice a E.length cap) E A) (hl : E.length ≤ 9223372036854775807) :
    Calls Try.prog 3 #[.int .i64 n, .slice a E.length cap] w fun e w' => e = .returned (.bool true) ∧ Below w.heap.size w w' := by
  have HM := Lib.hid (both_any w.heap.size a cap A n E w hS (Nat.le_refl _) hl)
  clear hS
  go_enter Try.func3, Try.ntmps3
  go_wp2_with fail
  refine HM.out.mono ?_
  clear HM
  rintro e w1 ⟨b1, ⟨v1, v2, rfl⟩ | ⟨k, b, r, rfl, hk, hm, hok, rfl, hg, hr⟩⟩
  · have HB := Lib.hid b1
    clear b1
    go_wp2_with fail
    refine (works_any _).mono ?_
    rintro e w2 ⟨rfl, b2⟩
    replace HB := Lib.hid (HB.out.trans (b2.mono HB.out.size))
    clear b2
    go_wp2_with fail
    go_ret
    exact ⟨rfl, HB.out⟩
  · have HB := Lib.hid b1
    have HG := Lib.hid (show GV w1 w1.heap.size (.pointer (some ⟨b, 0, none⟩)) (some (k, E)) from ⟨b, rfl, hg⟩)
    have HR := Lib.hid hr
    have HC := Lib.hid (bridges_out w1.heap.size (some ⟨b, 0, none⟩) k E (some (k, E)) (.inl rfl) w1 HG.out (Nat.le_refl _))
    have hbl := briL_len E
    have hcl := cutL_len2 k E
    clear b1 hok hg hr
    go_wp2_with fail
    refine HC.out.mono ?_
    clear HC
    rintro e w2 ⟨p1, rfl, hp1, b2⟩
    replace HG := Lib.hid ((HG.out.below b2).mono b2.size)
    replace HR := Lib.hid ((HR.out.below b2).mono b2.size)
    replace HB := Lib.hid (HB.out.trans (b2.mono HB.out.size))
    clear b2
    have HP := Lib.hid hp1
    have HC := Lib.hid (rbridges_any w2.heap.size r k E w2 HR.out (Nat.le_refl _))
    clear hp1
    go_wp2_with fail
    refine HC.out.mono ?_
    clear HC
    rintro e w3 h3
    obtain ⟨q1, rfl, hq1, b3⟩ := h3.rd
    replace HG := Lib.hid ((HG.out.below b3).mono b3.size)
    replace HR := Lib.hid ((HR.out.below b3).mono b3.size)
    replace HP := Lib.hid ((HP.out.below b3).mono b3.size)
    replace HB := Lib.hid (HB.out.trans (b3.mono HB.out.size))
    clear b3
    have HSm := sameI_any w3.heap.size p1 q1 _ _ w3 HP.out hq1 (by omega)
    rw [decide_eq_true rfl] at HSm
    have HSm := Lib.hid HSm
    clear hq1 h3
    go_wp2_with fail
    refine HSm.out.mono ?_
    clear HSm HP
    rintro e w4 ⟨rfl, m4, rfl⟩
    have b4 := below_drewN (Below.refl w3.heap.size w3) m4
    replace HG := Lib.hid ((HG.out.below b4).mono b4.size)
    replace HR := Lib.hid ((HR.out.below b4).mono b4.size)
    replace HB := Lib.hid (HB.out.trans (b4.mono HB.out.size))
    clear b4
    have HC := Lib.hid (cuts_out _ (some ⟨b, 0, none⟩) k E (some (k, E)) (.inl rfl) _ HG.out (Nat.le_refl _))
    generalize w3.drewN m4 = w4 at *
    go_wp2_with fail
    refine HC.out.mono ?_
    clear HC
    rintro e w5 ⟨p5, rfl, hp5, b5⟩
    replace HG := Lib.hid ((HG.out.below b5).mono b5.size)
    replace HR := Lib.hid ((HR.out.below b5).mono b5.size)
    replace HB := Lib.hid (HB.out.trans (b5.mono HB.out.size))
    clear b5
    have HP := Lib.hid hp5
    have HC := Lib.hid (rcuts_any w5.heap.size r k E w5 HR.out (Nat.le_refl _))
    clear hp5
    go_wp2_with fail
    refine HC.out.mono ?_
    clear HC
    rintro e w6 ⟨q6, rfl, hq6, b6⟩
    replace HG := Lib.hid ((HG.out.below b6).mono b6.size)
    replace HR := Lib.hid ((HR.out.below b6).mono b6.size)
    replace HP := Lib.hid ((HP.out.below b6).mono b6.size)
    replace HB := Lib.hid (HB.out.trans (b6.mono HB.out.size))
    clear b6
    have HSm := sameI_any w6.heap.size p5 q6 _ _ w6 HP.out hq6 (by omega)
    rw [decide_eq_true rfl] at HSm
    have HSm := Lib.hid HSm
    clear hq6
    go_wp2_with fail
    refine HSm.out.mono ?_
    clear HSm HP
    rintro e w7 ⟨rfl, m7, rfl⟩
    have b7 := below_drewN (Below.refl w6.heap.size w6) m7
    replace HG := Lib.hid ((HG.out.below b7).mono b7.size)
    replace HR := Lib.hid ((HR.out.below b7).mono b7.size)
    replace HB := Lib.hid (HB.out.trans (b7.mono HB.out.size))
    clear b7
    have HC := Lib.hid (labels_out _ (some ⟨b, 0, none⟩) k E (some (k, E)) (.inl rfl) _ HG.out (Nat.le_refl _))
    generalize w6.drewN m7 = w7 at *
    go_wp2_with fail
    refine HC.out.mono ?_
    clear HC
    rintro e w8 ⟨p8, rfl, hp8, b8⟩
    replace HR := Lib.hid ((HR.out.below b8).mono b8.size)
    replace HB := Lib.hid (HB.out.trans (b8.mono HB.out.size))
    clear b8
    have HP := Lib.hid hp8
    have HC := Lib.hid (rlabs_any w8.heap.size r k E w8 HR.out (Nat.le_refl _))
    clear hp8 HG
    go_wp2_with fail
    refine HC.out.mono ?_
    clear HC
    rintro e w9 ⟨q9, rfl, hq9, b9⟩
    replace HP := Lib.hid ((HP.out.below b9).mono b9.size)
    replace HB := Lib.hid (HB.out.trans (b9.mono HB.out.size))
    clear b9
    have HSm := sameI_any w9.heap.size p8 q9 _ _ w9 HP.out hq9 (by simp; omega)
    rw [decide_eq_true rfl] at HSm
    have HSm := Lib.hid HSm
    clear hq9 HR
    go_wp2_with fail
    refine HSm.out.mono ?_
    clear HSm HP
    rintro e w10 ⟨rfl, m10, rfl⟩
    have b10 := below_drewN (Below.refl w9.heap.size w9) m10
    replace HB := Lib.hid (HB.out.trans (b10.mono HB.out.size))
    clear b10
    generalize w9.drewN m10 = w10 at *
    go_wp2_with fail
    refine (works_any _).mono ?_
    rintro e w11 ⟨rfl, b11⟩
    replace HB := Lib.hid (HB.out.trans (b11.mono HB.out.size))
    clear b11
    go_wp2_with fail
    go_ret
    exact ⟨rfl, HB.out⟩
end Go.Proofs.Ytcpikabhcjkkmaa
