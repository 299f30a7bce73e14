/- The document's labels of the parts without bridges, and its cut vertices. Conditions: the graph is made. -/
import Derived.Test.YtcpikabhcjkkmaaBdB
import Derived.Test.YtcpikabhcjkkmaaBrL
import Derived.Test.YtcpikabhcjkkmaaBpB
import Derived.Test.YtcpikabhcjkkmaaBlR
namespace Go.Proofs.Ytcpikabhcjkkmaa
open Go.RowKit

theorem okL_bri (E : List Ed) : okL E (fun j => decide (j ∈ briL E)) (-1) = nbL E := by
  unfold okL nbL okB
  refine List.filter_congr fun j hj => ?_
  have h1 : decide (((edP E j).1 : Int) ≠ -1) = true := decide_eq_true (by omega)
  have h2 : decide (((edP E j).2 : Int) ≠ -1) = true := decide_eq_true (by omega)
  have h3 : decide (j ∈ briL E) = briB E j := by
    rw [Bool.eq_iff_iff, decide_eq_true_eq, mem_briL, bri_iff]
    simp [List.mem_range.1 hj]
  rw [h1, h2]
  show (!decide (j ∈ briL E) && true && true) = !briB E j
  rw [h3]; simp
theorem OIRes.rd {l : List Nat} {w w' : World} {e : Ending} (h : OIRes l w e w') : ∃ v, e = .returned v ∧ RdI w' w'.heap.size v l ∧ Below w.heap.size w w' := by
  obtain ⟨v, rfl, h1, h2⟩ := h
  exact ⟨v, rfl, ownI_rd h1, h2⟩
/-- a list of indexes in memory -/
def RIRes (l : List Nat) (w : World) (e : Ending) (w' : World) : Prop := ∃ v, e = .returned v ∧ RdI w' w'.heap.size v l ∧ Below w.heap.size w w'
set_option maxRecDepth 100000 in
set_option maxHeartbeats 1000000 in
theorem rlabs_any (B b n : Nat) (E : List Ed) (w : World) (hR : RAt w B b n E) (hB : B ≤ w.heap.size) :
    Calls Try.prog 21 #[.pointer (some ⟨b, 0, none⟩)] w (RIRes ((List.range n).map (labO E (nbL E))) w) := by
  have hml := hR.ok.m_le
  have HV := Lib.hid (rval_any B b n E w hR)
  obtain ⟨ea, ec, EA, hce, -⟩ := hR.edges
  have hmk : ∀ w, (Instr.makeSlice 56 (.int .i64 (E.length : Nat)) (.int .i64 (E.length : Nat))).run Try.prog w = .ok (.slice (some ⟨w.heap.size, 0, none⟩) E.length E.length) (w.alloc (.cells (madeCells #[.bool false] E.length) 4)) := fun w =>
    run_make_row' (P := Try.prog) 56 4 (.bool false) 1 Try.underlying56 Try.infoBl0 rfl .i64 .i64 E.length (by omega) (by omega) w
  have hrow := Row.made w (.bool false) E.length 4
  have hb1 : Below w.heap.size w (w.alloc (.cells (madeCells #[.bool false] E.length) 4)) := (Below.refl _ w).alloc (Nat.le_refl _) _
  have hsz : (w.alloc (.cells (madeCells #[.bool false] E.length) 4)).heap.size = w.heap.size + 1 := by simp
  have HC := Lib.hid (rbridges_any B b n E _ (hR.below (hb1.mono hB)) (by omega))
  have HR := Lib.hid hR
  have HRow := Lib.hid hrow
  have HB1 := Lib.hid hb1
  clear hR hrow hb1
  go_enter Try.func21, Try.ntmps21
  go_wp2_with fail
  refine HV.out.mono ?_
  rintro e wz ⟨rfl, rfl⟩
  clear HV
  go_wp2_with fail
  refine HC.out.mono ?_
  clear HC
  rintro e w2 ⟨v2, rfl, hO, b2⟩
  have hs2 := b2.size
  rw [hsz] at hs2
  have HB2 := Lib.hid (HB1.out.trans (b2.mono (by omega)))
  have HRow2 := Lib.hid (HRow.out.below b2 (by omega))
  have hbl := briL_len E
  obtain ⟨a2, c2, A2, hv2, -⟩ := ownI_rd hO
  rw [hsz] at hO
  subst hv2
  have HO := Lib.hid hO
  have HLt := Lib.hid (fun k (hk : k < (briL E).length) => (mem_briL.1 (getD_mem' hk)).1)
  have HOk := Lib.hid (okL_bri E)
  obtain ⟨l, hl⟩ : ∃ l, briL E = l := ⟨_, rfl⟩
  rw [hl] at HO HLt HOk hbl ⊢
  clear b2 hO HRow HB1 hce hmk hsz hl
  go_wp2_with fail
  go_loopw [5] (fun iv wr => ∃ i : Nat, i ≤ l.length ∧ iv = .int .i64 (i : Nat) ∧ Hid (Row wr w.heap.size E.length (fun j => .bool (decide (j ∈ l.take i)))) ∧ Hid (Below w.heap.size w wr) ∧ Hid (OwnI (w.heap.size + 1) (.slice a2 l.length c2) l wr)) (fun iv _ => l.length - (intOf iv).toNat)
  case atStart => exact ⟨0, Nat.zero_le _, rfl, Lib.hid (HRow2.out.congr fun j _ => by simp), HB2, HO⟩
  case round =>
    clear HRow2 HB2 HO
    obtain ⟨i, hi, rfl, HRo, HB, HO⟩ := hrel
    have hwi : IntKind.i64.wrap ((i : Int) + 1) = (i : Int) + 1 := IntWalk.i64_in _ (by omega)
    by_cases hlt : i < l.length
    · obtain ⟨ai, ixi, ci⟩ := RdI.get (ownI_rd HO.out) hlt
      have hx := HLt.out i hlt
      obtain ⟨x, hxe⟩ : ∃ x, l.getD i 0 = x := ⟨_, rfl⟩
      rw [hxe] at ci hx
      have cx := HRo.out.cell hx
      have fx := HRo.out.frozen x
      have HR2 := Lib.hid ((HRo.out.set x (.bool true)).congr (f' := fun j => .bool (decide (j ∈ l.take (i + 1)))) fun j _ => by
        rw [take_snocN hlt, hxe]
        by_cases c : j = x <;> simp [c])
      have HB2 := Lib.hid (HB.out.setCell (p := ⟨w.heap.size, x, none⟩) (Nat.le_refl _) (.bool true))
      have HO2 := Lib.hid (show OwnI (w.heap.size + 1) (.slice a2 l.length c2) l (wr.setCell ⟨w.heap.size, x, none⟩ (.bool true)) from ownsRow_setCell_below HO.out (a := ⟨w.heap.size, x, none⟩) (Nat.lt_succ_self _) (.bool true))
      have hin : (0 : Int) ≤ i ∧ (i : Int) < l.length := by omega
      have hxn : (0 : Int) ≤ x ∧ (x : Int) < E.length := by omega
      clear hxe HRo HB HO
      go_wp2_with fail
      go_roundw
      case rel => exact ⟨i + 1, by omega, by go_num, HR2, HB2, HO2⟩
      case measure => simp only [intOf]; omega
    · obtain rfl : i = l.length := by omega
      have hrl : Row wr w.heap.size E.length (fun j => .bool (decide (j ∈ l))) := HRo.out.congr fun j _ => by rw [List.take_length]
      have HC := Lib.hid (rlab0_any B b n w.heap.size E (fun j => decide (j ∈ l)) (-1) wr (HR.out.below (HB.out.mono hB)) (by have := HB.out.size; omega) hrl hrl.lt)
      clear hrl HRo HO
      go_wp2_with fail
      refine HC.out.mono ?_
      clear HC
      rintro e w5 ⟨rfl, hrow, b5⟩
      rw [HOk.out] at hrow
      have HF := Lib.hid (show RIRes ((List.range n).map (labO E (nbL E))) w (.returned (.slice (some ⟨wr.heap.size, 0, none⟩) n n)) w5 from ⟨_, rfl, row_rdI (cap := n) hrow, HB.out.trans (b5.mono HB.out.size)⟩)
      clear hrow b5
      go_wp2_with fail
      go_ret
      exact HF.out
/-! the cut vertices -/
/-- what is known behind the first vertices of a component -/
structure CuI (q : Nat → Prop) (g : Nat → Nat) (u : Nat) (f : Int) (c : Bool) : Prop where
  h1 : f < 0 → f = -1 ∧ ∀ j, j < u → ¬ q j
  h2 : 0 ≤ f → f.toNat < u ∧ q f.toNat
  h3 : c = true ↔ 0 ≤ f ∧ ∃ j, j < u ∧ q j ∧ g j ≠ g f.toNat
section
variable {q : Nat → Prop} {g : Nat → Nat} {u : Nat} {f : Int} {c : Bool}
theorem CuI.zero : CuI q g 0 (-1) false := ⟨fun _ => ⟨rfl, fun _ h => by omega⟩, fun h => by omega, by simp⟩
theorem CuI.skip (h : CuI q g u f c) (hu : ¬ q u) : CuI q g (u + 1) f c := by
  have key : ∀ j, j < u + 1 → q j → j < u := fun j hj hm => by
    by_cases e : j = u
    · rw [e] at hm; exact absurd hm hu
    · omega
  refine ⟨fun hf => ⟨(h.h1 hf).1, fun j hj hm => (h.h1 hf).2 j (key j hj hm) hm⟩, fun hf => ?_, ?_⟩
  · have := h.h2 hf; exact ⟨by omega, this.2⟩
  · rw [h.h3]
    constructor
    · rintro ⟨h0, j, a, b, c⟩; exact ⟨h0, j, by omega, b, c⟩
    · rintro ⟨h0, j, a, b, c⟩; exact ⟨h0, j, key j a b, b, c⟩
theorem CuI.new (h : CuI q g u f c) (hf : f < 0) (hu : q u) : c = false ∧ CuI q g (u + 1) (u : Int) false := by
  refine ⟨?_, fun h0 => by omega, fun _ => ⟨by omega, by simpa using hu⟩, ?_⟩
  · cases c with
    | false => rfl
    | true => have := (h.h3.1 rfl).1; omega
  · constructor
    · intro e; cases e
    · rintro ⟨_, j, a, b, e⟩
      rw [Int.toNat_natCast] at e
      by_cases d : j = u
      · rw [d] at e; exact absurd rfl e
      · exact absurd b ((h.h1 hf).2 j (by omega))
theorem CuI.old (h : CuI q g u f c) (hf : 0 ≤ f) (hu : q u) : CuI q g (u + 1) f (c || decide (g u ≠ g f.toNat)) := by
  refine ⟨fun h0 => by omega, fun _ => ?_, ?_⟩
  · have := h.h2 hf; exact ⟨by omega, this.2⟩
  · rw [Bool.or_eq_true, h.h3, decide_eq_true_eq]
    constructor
    · rintro (⟨h0, j, a, b, e⟩ | e)
      · exact ⟨h0, j, by omega, b, e⟩
      · exact ⟨hf, u, by omega, hu, e⟩
    · rintro ⟨h0, j, a, b, e⟩
      by_cases d : j = u
      · rw [d] at e; exact .inr e
      · exact .inl ⟨h0, j, by omega, b, e⟩
theorem CuI.end {n : Nat} (h : CuI q g n f c) : c = true ↔ ∃ a b, a < n ∧ b < n ∧ q a ∧ q b ∧ g a ≠ g b := by
  rw [h.h3]
  constructor
  · rintro ⟨h0, j, a, b, e⟩
    have := h.h2 h0
    exact ⟨j, _, a, this.1, b, this.2, e⟩
  · rintro ⟨a, b, ha, hb, qa, qb, e⟩
    rcases Int.lt_or_le f 0 with hf | hf
    · exact absurd qa ((h.h1 hf).2 a ha)
    · refine ⟨hf, ?_⟩
      by_cases d : g a = g f.toNat
      · exact ⟨b, hb, qb, fun d' => e (d.trans d'.symm)⟩
      · exact ⟨a, ha, qa, d⟩
end
/-- the document's words for a cut vertex -/
theorem cut_doc {n : Nat} {E : List Ed} (G : GOk n E) {v : Nat} (hv : v < n) : v ∈ cutL n E ↔ ∃ a b, a < n ∧ b < n ∧ (a ≠ v ∧ labO E (List.range E.length) a = labO E (List.range E.length) v) ∧ (b ≠ v ∧ labO E (List.range E.length) b = labO E (List.range E.length) v) ∧ labO E (ocV E v) a ≠ labO E (ocV E v) b := by
  rw [cutL, List.mem_filter, List.mem_range, cutB_iff G]
  constructor
  · rintro ⟨_, i, j, y, z, hi, hj, l1, l2, h⟩
    have k1 := ends_ne G hi l1
    have k2 := ends_ne G hj l2
    exact ⟨y, z, k1.2.2, k2.2.2, ⟨k1.1.symm, ci_lab.1 (ci_range.2 (CI.one hi l1.symm))⟩, ⟨k2.1.symm, ci_lab.1 (ci_range.2 (CI.one hj l2.symm))⟩, fun c => h (ci_noV.2 c)⟩
  · rintro ⟨a, b, ha, hb, ⟨hav, hal⟩, ⟨hbv, hbl⟩, h⟩
    have key : ∀ x, x ≠ v → labO E (List.range E.length) x = labO E (List.range E.length) v → ∃ i y, i < E.length ∧ Lnk E i v y ∧ CI E (noV E v) y x := fun x hx hl => by
      have hc := (ci_range.1 (ci_lab.2 hl)).symm
      obtain ⟨i, y, h1, h2, h3⟩ := ci_leave hc (fun c => hx c.symm)
      exact ⟨i, y, h1, h2, h3⟩
    obtain ⟨i, y, hi, l1, c1⟩ := key a hav hal
    obtain ⟨j, z, hj, l2, c2⟩ := key b hbv hbl
    exact ⟨hv, i, j, y, z, hi, hj, l1, l2, fun c => h (ci_noV.1 ((c1.symm.trans c).trans c2))⟩
end Go.Proofs.Ytcpikabhcjkkmaa
