/- The walk of the law BridgeParts. Conditions: the pairs are in range. -/
import Derived.Test.YtcpikabhcjkkmaaBlD
import Derived.Deep.DeepCutAuto
namespace Go.Proofs.Ytcpikabhcjkkmaa
open Go.RowKit Go.Shelf

theorem RdI.getB {w : World} {B : Nat} {v : Value} {l : List Nat} (h : RdI w B v l) {i : Nat} (hi : i < l.length) :
    ∃ (ad : Addr), (∀ w', (Instr.indexAt 29 v (.int .i64 (i : Nat))).run Try.prog w' = .ok (.pointer (some ad)) w') ∧ w.cell? ad = some (.int .i64 (l.getD i 0 : Nat)) ∧ ad.block < B := by
  obtain ⟨a, c, A, rfl, h⟩ := h
  have c0 := h.cell i hi 0 (by omega)
  rw [add_zero] at c0
  unfold nums at c0
  rw [intsN_nth] at c0
  exact ⟨A i, h.ix i hi, c0, h.lt i hi⟩
/-- is an edge one of a vertex? -/
theorem adj_edP {n : Nat} {E : List Ed} (G : GOk n E) {v i : Nat} (hi : i < E.length) : i ∈ adj E v ↔ (edP E i).1 = v ∨ (edP E i).2 = v := by
  obtain ⟨a, b, ha, hb, -⟩ := G.nats hi
  rw [mem_adj]
  unfold inc edP
  rw [ha, hb]
  simp only [decide_eq_true_eq, Int.toNat_natCast]
  constructor
  · rintro ⟨_, h⟩; omega
  · intro h; exact ⟨hi, by omega⟩
/-- what is known behind the first edges at a vertex -/
structure PtI (E : List Ed) (g : Nat → Nat) (v i f : Nat) (m : Bool) : Prop where
  h1 : ∀ j, j < i → j ∈ adj E v → f ≠ 0
  h2 : f ≠ 0 → ∃ j, j < i ∧ j ∈ adj E v ∧ g j = f
  h3 : m = true ↔ ∃ j, j < i ∧ j ∈ adj E v ∧ g j ≠ f
section
variable {E : List Ed} {g : Nat → Nat} {v i f : Nat} {m : Bool}
theorem PtI.zero : PtI E g v 0 0 false := ⟨fun _ h => by omega, fun h => absurd rfl h, by simp⟩
theorem PtI.skip (h : PtI E g v i f m) (hi : i ∉ adj E v) : PtI E g v (i + 1) f m := by
  have key : ∀ j, j < i + 1 → j ∈ adj E v → j < i := fun j hj hm => by
    by_cases c : j = i
    · rw [c] at hm; exact absurd hm hi
    · omega
  refine ⟨fun j hj hm => h.h1 j (key j hj hm) hm, fun hf => ?_, ?_⟩
  · obtain ⟨j, a, b⟩ := h.h2 hf; exact ⟨j, by omega, b⟩
  · rw [h.h3]
    constructor
    · rintro ⟨j, a, b, c⟩; exact ⟨j, by omega, b, c⟩
    · rintro ⟨j, a, b, c⟩; exact ⟨j, key j a b, b, c⟩
theorem PtI.none (h : PtI E g v i 0 m) : m = false := by
  cases m with
  | false => rfl
  | true =>
    obtain ⟨j, a, b, _⟩ := h.h3.1 rfl
    exact absurd rfl (h.h1 j a b)
theorem PtI.new (h : PtI E g v i 0 m) (hi : i ∈ adj E v) (hg : g i ≠ 0) : PtI E g v (i + 1) (g i) false := by
  refine ⟨fun _ _ _ => hg, fun _ => ⟨i, by omega, hi, rfl⟩, ?_⟩
  constructor
  · intro c; cases c
  · rintro ⟨j, a, b, c⟩
    by_cases e : j = i
    · rw [e] at c; exact absurd rfl c
    · exact absurd rfl (h.h1 j (by omega) b)
theorem PtI.old (h : PtI E g v i f m) (hi : i ∈ adj E v) (hf : f ≠ 0) : PtI E g v (i + 1) f (m || decide (g i ≠ f)) := by
  refine ⟨fun _ _ _ => hf, fun _ => ?_, ?_⟩
  · obtain ⟨j, a, b⟩ := h.h2 hf; exact ⟨j, by omega, b⟩
  · rw [Bool.or_eq_true, h.h3, decide_eq_true_eq]
    constructor
    · rintro (⟨j, a, b, c⟩ | c)
      · exact ⟨j, by omega, b, c⟩
      · exact ⟨i, by omega, hi, c⟩
    · rintro ⟨j, a, b, c⟩
      by_cases e : j = i
      · rw [e] at c; exact .inr c
      · exact .inl ⟨j, by omega, b, c⟩
theorem PtI.end (h : PtI E g v E.length f m) : m = true ↔ ∃ a b, a ∈ adj E v ∧ b ∈ adj E v ∧ g a ≠ g b := by
  rw [h.h3]
  constructor
  · rintro ⟨j, a, b, c⟩
    obtain ⟨j', a', b', c'⟩ := h.h2 (h.h1 j a b)
    exact ⟨j, j', b, b', by rw [c']; exact c⟩
  · rintro ⟨a, b, ha, hb, hab⟩
    by_cases c : g a = f
    · exact ⟨b, (mem_adj.1 hb).1, hb, fun d => hab (c.trans d.symm)⟩
    · exact ⟨a, (mem_adj.1 ha).1, ha, c⟩
end
/-- the numbers of the blocks within the loop over a block's edges -/
def inT (X : List (List Nat)) (k t i : Nat) : Nat := if i ∈ (X.getD k []).take t then k + 1 else inF X k i
theorem inT_zero (X : List (List Nat)) (k i : Nat) : inT X k 0 i = inF X k i := by simp [inT]
theorem inT_end (X : List (List Nat)) (k i : Nat) : inT X k (X.getD k []).length i = inF X (k + 1) i := by
  unfold inT
  rw [List.take_length]; rfl
theorem inT_succ {X : List (List Nat)} {k t e : Nat} (h : t < (X.getD k []).length) (he : (X.getD k []).getD t 0 = e) (i : Nat) : inT X k (t + 1) i = if i = e then k + 1 else inT X k t i := by
  unfold inT
  rw [take_snocN h, he]
  by_cases c : i = e
  · subst c; simp
  · simp [c]
theorem inT_new {n : Nat} {E : List Ed} (G : GOk n E) {k t e : Nat} (hk : k < (bkL E).length) (h : t < ((bkL E).getD k []).length) (he : ((bkL E).getD k []).getD t 0 = e) : inT (bkL E) k t e = 0 ∧ e < E.length := by
  have hB := getD_mem hk
  have hm : e ∈ (bkL E).getD k [] := by rw [← he]; exact getD_mem' h
  refine ⟨?_, blk_lt G hB hm⟩
  unfold inT
  rw [if_neg]
  · rw [inF_zero]
    intro j hj c
    have := blk_same G (by omega) hk c hm
    omega
  · intro c
    obtain ⟨j, hj, hje⟩ := List.mem_iff_getElem.1 c
    rw [List.length_take] at hj
    have := sorted_at ((bkL_ok G).cls _ hB).1 (show j < t by omega) h
    rw [he, List.getD_eq_getElem?_getD, List.getElem?_eq_getElem (by omega)] at this
    rw [List.getElem_take] at hje
    have e2 : ((bkL E).getD k [])[j]'(by omega) < e := this
    omega
set_option maxRecDepth 1000000 in
set_option maxHeartbeats 16000000 in
theorem parts_walk (z : Int) (a : Option Addr) (cap : Nat) (A : Nat → Addr) (L : List (Int × Int)) (w : World) (hS : PS w w.heap.size (.slice a L.length cap) L A) (hr : PrR L) (hz : 0 ≤ z ∧ z ≤ 255) (hl : L.length ≤ 9223372036854775807) :
    Calls Try.prog 8 #[.int .u8 z, .slice a L.length cap] w fun e w' => e = .returned (.bool true) ∧ Below w.heap.size w w' := by
  have HM := Lib.hid (made_any w.heap.size a cap A L z w hS (Nat.le_refl _) hr hz hl)
  clear hS hr
  go_enter Try.func8, Try.ntmps8
  go_wp2_with fail
  refine HM.out.mono ?_
  clear HM
  rintro e w1 ⟨b, n, E, ea, ec, EA, rfl, hG, hES, hO, hn0, hn1, hm, hb1⟩
  have HGk := Lib.hid hG.ok
  have HG := Lib.hid (show GV w1 w1.heap.size (.pointer (some ⟨b, 0, none⟩)) (some (n, E)) from ⟨b, rfl, hG⟩)
  have HES := Lib.hid (show Rd 22 3 w1 w1.heap.size (.slice ea E.length ec) E.length (edC E) EA from hES)
  have HB := Lib.hid hb1
  have HC := Lib.hid (blocks_out w1.heap.size (some ⟨b, 0, none⟩) n E (some (n, E)) (.inl rfl) w1 HG.out (Nat.le_refl _))
  clear hG hES hb1 hO
  go_wp2_with fail
  refine HC.out.mono ?_
  clear HC
  rintro e w2 ⟨v2, rfl, hv2, b2⟩
  replace HG := Lib.hid ((HG.out.below b2).mono b2.size)
  replace HES := Lib.hid ((HES.out.below b2).mono b2.size)
  replace HB := Lib.hid (HB.out.trans (b2.mono HB.out.size))
  clear b2
  have HBk := Lib.hid hv2
  have HC := Lib.hid (bridges_out w2.heap.size (some ⟨b, 0, none⟩) n E (some (n, E)) (.inl rfl) w2 HG.out (Nat.le_refl _))
  obtain ⟨a2, c2, hv2e⟩ := hv2.view
  clear hv2
  subst hv2e
  go_wp2_with fail
  refine HC.out.mono ?_
  clear HC
  rintro e w3 ⟨v3, rfl, hv3, b3⟩
  replace HG := Lib.hid ((HG.out.below b3).mono b3.size)
  replace HES := Lib.hid ((HES.out.below b3).mono b3.size)
  replace HBk := Lib.hid ((HBk.out.below b3).mono b3.size)
  replace HB := Lib.hid (HB.out.trans (b3.mono HB.out.size))
  clear b3
  have HBr := Lib.hid hv3
  have HC := Lib.hid (cuts_out w3.heap.size (some ⟨b, 0, none⟩) n E (some (n, E)) (.inl rfl) w3 HG.out (Nat.le_refl _))
  clear hv3
  go_wp2_with fail
  refine HC.out.mono ?_
  clear HC
  rintro e w4 ⟨v4, rfl, hv4, b4⟩
  replace HES := Lib.hid ((HES.out.below b4).mono b4.size)
  replace HBk := Lib.hid ((HBk.out.below b4).mono b4.size)
  replace HBr := Lib.hid ((HBr.out.below b4).mono b4.size)
  replace HB := Lib.hid (HB.out.trans (b4.mono HB.out.size))
  clear b4
  have HCu := Lib.hid hv4
  have hmk : ∀ w, (Instr.makeSlice 29 (.int .i64 (E.length : Nat)) (.int .i64 (E.length : Nat))).run Try.prog w = .ok (.slice (some ⟨w.heap.size, 0, none⟩) E.length E.length) (w.alloc (.cells (madeCells #[.int .i64 0] E.length) 3)) := fun w =>
    run_make_row' (P := Try.prog) 29 3 (.int .i64 0) 8 Try.underlying29 Try.infoI rfl .i64 .i64 E.length (by omega) (by omega) w
  have hrow := Row.made w4 (.int .i64 0) E.length 3
  have HR0 := Lib.hid (show Row (w4.alloc (.cells (madeCells #[.int .i64 0] E.length) 3)) w4.heap.size E.length (natC (inF (bkL E) 0)) from hrow.congr fun _ _ => rfl)
  have HA0 := Lib.hid (show Below w4.heap.size w4 (w4.alloc (.cells (madeCells #[.int .i64 0] E.length) 3)) from (Below.refl _ w4).alloc (Nat.le_refl _) _)
  clear hv4 HG hrow
  go_wp2_with fail
  clear hmk
  go_loopw [12] (fun iv wr => ∃ k : Nat, k ≤ (bkL E).length ∧ iv = .int .i64 (k : Nat) ∧ Hid (Row wr w4.heap.size E.length (natC (inF (bkL E) k))) ∧ Hid (Below w4.heap.size w4 wr)) (fun iv _ => (bkL E).length - (intOf iv).toNat)
  case atStart => exact ⟨0, Nat.zero_le _, rfl, HR0, HA0⟩
  case round =>
    clear HR0 HA0
    obtain ⟨k, hk, rfl, HR, HW⟩ := hrel
    have hbkl := bkL_len E
    by_cases hlt : k < (bkL E).length
    · obtain ⟨ak, rk, ck, ixk, cck, rdk, -, hak⟩ := HBk.out.get hlt
      have hBm := getD_mem hlt
      have hbn := blk_ne HGk.out hBm
      have hble := blk_len HGk.out hBm
      have hob := one_bri HGk.out hBm
      have hso := ((bkL_ok HGk.out).cls _ hBm).1
      obtain ⟨a0, ix0, c00, ha0⟩ := RdI.getB rdk hbn
      rw [getD0] at c00
      have c0 := (HW.out.cell ha0).trans c00
      have hck : wr.cell? ak = some (.slice rk ((bkL E).getD k []).length ck) := (HW.out.cell hak).trans cck
      have HNew := Lib.hid (fun t e (h : t < ((bkL E).getD k []).length) (he : ((bkL E).getD k []).getD t 0 = e) => inT_new HGk.out hlt h he)
      have HInZ := Lib.hid (fun i => inT_zero (bkL E) k i)
      have HInE := Lib.hid (fun i => inT_end (bkL E) k i)
      have HInS := Lib.hid (fun t e i (h : t < ((bkL E).getD k []).length) (he : ((bkL E).getD k []).getD t 0 = e) => inT_succ h he i)
      have HSo := Lib.hid hso
      have HRk := Lib.hid rdk
      have HPrev : Hid (∀ j, k = j + 1 → ∃ (aj : Addr) (rj : Option Addr) (lj cj y : Nat) (ay : Addr), (∀ w', (Instr.indexAt 33 (.slice a2 (bkL E).length c2) (.int .i64 (j : Nat))).run Try.prog w' = .ok (.pointer (some aj)) w') ∧ wr.cell? aj = some (.slice rj lj cj) ∧ (∀ w', (Instr.indexAt 29 (.slice rj lj cj) (.int .i64 0)).run Try.prog w' = .ok (.pointer (some ay)) w') ∧ wr.cell? ay = some (.int .i64 (y : Nat)) ∧ y < ((bkL E).getD k []).headD 0) := Lib.hid (fun j hj => by
        obtain ⟨aj, rj, cj, ixj, ccj, rdj, -, haj⟩ := HBk.out.get (show j < (bkL E).length by omega)
        have hjm := getD_mem (show j < (bkL E).length by omega)
        obtain ⟨ay, ixy, cy⟩ := RdI.get (rdj.below HW.out) (blk_ne HGk.out hjm)
        refine ⟨aj, rj, _, cj, _, ay, ixj, (HW.out.cell haj).trans ccj, ixy, cy, ?_⟩
        rw [getD0]
        have ho := (bkL_ok HGk.out).ord
        rw [List.pairwise_iff_getElem] at ho
        have := ho j k (by omega) hlt (by omega)
        rw [List.getD_eq_getElem?_getD, List.getD_eq_getElem?_getD, List.getElem?_eq_getElem (show j < (bkL E).length by omega), List.getElem?_eq_getElem hlt]
        exact this)
      obtain ⟨C, hC⟩ : ∃ C, (bkL E).getD k [] = C := ⟨_, rfl⟩
      rw [hC] at hck hbn hble hob ix0 c0 c00 HNew HInE HInS HSo HRk HPrev
      obtain ⟨m, hm1⟩ : ∃ m, C.length = m := ⟨_, rfl⟩
      have HCm := Lib.hid hm1
      rw [hm1] at hck hbn hble hob ix0 HNew HInE HInS HRk
      obtain ⟨y0, hy0⟩ : ∃ y, C.headD 0 = y := ⟨_, rfl⟩
      rw [hy0] at c0 c00 hob HPrev
      replace ix0 : ∀ w', (Instr.indexAt 29 (.slice rk m ck) (.int .i64 0)).run Try.prog w' = .ok (.pointer (some a0)) w' := fun w' => ix0 w'
      have HC0 := Lib.hid (fun W (hb : Below w4.heap.size w4 W) => (hb.cell ha0).trans c00)
      clear c00 ha0
      have hkn : (0 : Int) ≤ k ∧ (k : Int) < (bkL E).length := by omega
      have hm0 : (0 : Int) < m := by omega
      have hm00 : ((m : Int) == 0) = false := by simp; omega
      have hkm : k ≤ 150 := by omega
      obtain ⟨w0, rfl⟩ : ∃ w0 : World, w0 = wr := ⟨_, rfl⟩
      -- the blocks are in order
      have HNext : Hid (Row w0 w4.heap.size E.length (natC (inT (bkL E) k 0))) := Lib.hid (HR.out.congr fun i _ => by unfold natC; rw [HInZ.out])
      clear HR cck rdk hC hm1 hy0 hso hak hBm
      have HInn : Hid (∀ q, Row (w0.drewN q) w4.heap.size E.length (natC (inT (bkL E) k 0)) ∧ Below w4.heap.size w4 (w0.drewN q)) := Lib.hid fun q => ⟨HNext.out.drewN q, below_drewN HW.out q⟩
      clear HNext
      go_upto_region 10 with (fail)
      go_cut [66] (fun s66 wx => s66 = .bool false ∧ ∃ nq, wx = w0.drewN nq)
      case first =>
        as_aux_lemma =>
          by_cases hk0 : k = 0
          · have hd1 : decide (0 < k) = false := decide_eq_false (by omega)
            have hd2 : decide ((0 : Int) < (k : Int)) = false := decide_eq_false (by omega)
            clear HPrev hk0 hk hlt hbkl hkm hbn hble hob hm0 hkn hn0 hn1 hm hz hl
            go_quiet (fail)
            go_wp2_with fail
            go_meet
            exact ⟨rfl, _, rfl⟩
          · obtain ⟨j, hj⟩ : ∃ j, k = j + 1 := ⟨k - 1, by omega⟩
            obtain ⟨aj, rj, lj, cj, y, ay, ixj, ccj, ixy, cy, hyl⟩ := HPrev.out j hj
            have hkj : (k : Int) - 1 = (j : Nat) := by omega
            have hkp : (0 : Int) < k := by omega
            have hwj : IntKind.i64.wrap (j : Int) = (j : Int) := IntWalk.i64_in _ (by omega)
            have hd1 : decide (0 < k) = true := decide_eq_true (by omega)
            have hd2 : decide (y0 ≤ y) = false := decide_eq_false (by omega)
            clear hj HPrev hk0 hk hlt hbkl hkm hbn hble hob hm0 hkn hn0 hn1 hm hz hl hkp hyl
            go_quiet (fail)
            go_wp2_with fail
            go_meet
            exact ⟨rfl, _, rfl⟩
      case rest =>
        obtain ⟨rfl, nq, rfl⟩ := hcut
        have HRow := Lib.hid (HInn.out nq).1
        have HWq := Lib.hid (HInn.out nq).2
        have hck2 : (w0.drewN nq).cell? ak = some (.slice rk m ck) := hck
        have c02 : (w0.drewN nq).cell? a0 = some (.int .i64 (y0 : Nat)) := c0
        clear HInn HPrev hck c0
        generalize w0.drewN nq = w5 at *
        clear hck2
        go_wp2_with fail
        go_loopw [14] (fun iv wr => ∃ t : Nat, t ≤ m ∧ iv = .int .i64 (t : Nat) ∧ Hid (Row wr w4.heap.size E.length (natC (inT (bkL E) k t))) ∧ Hid (Below w4.heap.size w4 wr)) (fun iv _ => m - (intOf iv).toNat)
        case atStart => exact ⟨0, Nat.zero_le _, rfl, HRow, HWq⟩
        case round =>
          clear HRow HWq c02
          obtain ⟨t, ht, rfl, HRo, HWi⟩ := hrel
          rename_i wr _
          by_cases hlm : t < m
          · obtain ⟨at1, ixt, ct⟩ := RdI.get (HRk.out.below HWi.out) (show t < C.length by rw [HCm.out]; exact hlm)
            obtain ⟨e, he⟩ : ∃ e, C.getD t 0 = e := ⟨_, rfl⟩
            rw [he] at ct
            obtain ⟨hin0, heE⟩ := HNew.out t e hlm he
            have hcin := HRo.out.cell heE
            unfold natC at hcin
            rw [hin0] at hcin
            have hfin := HRo.out.frozen e
            have HRn := Lib.hid (HRo.out.set e (.int .i64 ((k : Int) + 1)))
            have HWn := Lib.hid (HWi.out.setCell (p := ⟨w4.heap.size, e, none⟩) (Nat.le_refl _) (.int .i64 ((k : Int) + 1)))
            have HNx : Hid (∀ i, inT (bkL E) k (t + 1) i = if i = e then k + 1 else inT (bkL E) k t i) := Lib.hid fun i => HInS.out t e i hlm he
            have HSr : Hid (∀ j, t = j + 1 → ∃ (aj : Addr) (y : Nat), (∀ w', (Instr.indexAt 29 (.slice rk m ck) (.int .i64 (j : Nat))).run Try.prog w' = .ok (.pointer (some aj)) w') ∧ wr.cell? aj = some (.int .i64 (y : Nat)) ∧ y < e) := Lib.hid fun j hj => by
              obtain ⟨aj, ixj, cj⟩ := RdI.get (HRk.out.below HWi.out) (show j < C.length by rw [HCm.out]; omega)
              refine ⟨aj, _, ixj, cj, ?_⟩
              rw [← he]
              exact sorted_at HSo.out (show j < t by omega) (by rw [HCm.out]; exact hlm)
            have htn : (0 : Int) ≤ t ∧ (t : Int) < m := by omega
            have hen : (0 : Int) ≤ e ∧ (e : Int) < E.length := by omega
            have hk1 : IntKind.i64.wrap ((k : Int) + 1) = (k : Int) + 1 := IntWalk.i64_in _ (by omega)
            have htm : t ≤ 150 := by omega
            have hx0 : decide ((e : Int) < 0) = false := decide_eq_false (by omega)
            have hx1 : decide (E.length ≤ e) = false := decide_eq_false (by omega)
            clear he hin0 HRo HWi
            go_upto_region 15 with (fail)
            go_cut [112] (fun s112 wx => s112 = .bool false ∧ ∃ nq, wx = wr.drewN nq)
            case first =>
              as_aux_lemma =>
                by_cases ht0 : t = 0
                · have hd1 : decide (0 < t) = false := decide_eq_false (by omega)
                  have hd2 : decide ((0 : Int) < (t : Int)) = false := decide_eq_false (by omega)
                  clear HSr ht0 hk hlt hbkl hkm hbn hble hob hm0 hkn hn0 hn1 hm hz hl ht hlm htm heE htn hk1
                  go_quiet (fail)
                  go_wp2_with fail
                  go_meet
                  exact ⟨rfl, _, rfl⟩
                · obtain ⟨j, hj⟩ : ∃ j, t = j + 1 := ⟨t - 1, by omega⟩
                  obtain ⟨aj, y, ixj, cj, hyl⟩ := HSr.out j hj
                  have hkj : (t : Int) - 1 = (j : Nat) := by omega
                  have hkp : (0 : Int) < t := by omega
                  have hwj : IntKind.i64.wrap (j : Int) = (j : Int) := IntWalk.i64_in _ (by omega)
                  have hd1 : decide (0 < t) = true := decide_eq_true (by omega)
                  have hd2 : decide (e ≤ y) = false := decide_eq_false (by omega)
                  clear hj HSr ht0 hk hlt hbkl hkm hbn hble hob hm0 hkn hn0 hn1 hm hz hl ht hlm htm heE htn hk1 hkp hyl
                  go_quiet (fail)
                  go_wp2_with fail
                  go_meet
                  exact ⟨rfl, _, rfl⟩
            case rest =>
              obtain ⟨rfl, nq, rfl⟩ := hcut
              clear HSr
              go_wp2_with fail
              go_roundw
              case rel =>
                exact ⟨t + 1, by omega, by go_num, Lib.hid ((HRn.out.drewN nq).congr fun i _ => by unfold natC; rw [HNx.out]; split <;> simp), Lib.hid (below_drewN HWn.out nq)⟩
              case measure => simp only [intOf]; omega
          · obtain rfl : t = m := by omega
            have c03 := HC0.out wr HWi.out
            have HRe := Lib.hid (HRo.out.congr (f' := natC (inF (bkL E) (k + 1))) fun i _ => by unfold natC; rw [HInE.out])
            have HH := Lib.hid (hasI_any w4.heap.size v3 (briL E) y0 wr (HBr.out.below HWi.out) (by have := briL_len E; omega))
            obtain ⟨c, hc⟩ : ∃ c, decide (y0 ∈ briL E) = c := ⟨_, rfl⟩
            rw [hc] at HH
            have heq : ((t : Int) == 1) = c := by
              rw [← hc, Bool.eq_iff_iff, decide_eq_true_eq, hob]
              simp
              omega
            clear HRo hc hob
            go_wp2_with fail
            refine HH.out.mono ?_
            rintro e wz ⟨rfl, rfl⟩
            clear HH
            cases c with
            | true =>
              go_wp2_with fail
              go_roundw
              case rel =>
                exact ⟨k + 1, by omega, by go_num, HRe, HWi⟩
              case measure => simp only [intOf]; omega
            | false =>
              go_wp2_with fail
              go_roundw
              case rel =>
                exact ⟨k + 1, by omega, by go_num, HRe, HWi⟩
              case measure => simp only [intOf]; omega
    · obtain rfl : k = (bkL E).length := by omega
      obtain ⟨w0, rfl⟩ : ∃ w0 : World, w0 = wr := ⟨_, rfl⟩
      clear hbkl
      have HCut := Lib.hid (fun v (hv : v < n) => cut_blocks (v := v) HGk.out hv)
      have HAll := Lib.hid (fun i (hi : i < E.length) => inF_all HGk.out hi)
      have HEq := Lib.hid (fun i j (hi : i < E.length) (hj : j < E.length) => inF_eq HGk.out hi hj)
      have HAdj := Lib.hid (fun v i (hi : i < E.length) => adj_edP (v := v) HGk.out hi)
      have HLe := Lib.hid (fun i => inF_le (bkL E) (bkL E).length i)
      have hbl := bkL_len E
      obtain ⟨g, hg⟩ : ∃ g, inF (bkL E) (bkL E).length = g := ⟨_, rfl⟩
      rw [hg] at HR
      simp only [hg] at HAll HEq HLe
      clear hg HBk HBr
      go_wp2_with fail
      go_loopw [15] (fun iv wr => ∃ v : Nat, v ≤ n ∧ iv = .int .i64 (v : Nat) ∧ Hid (Below w0.heap.size w0 wr)) (fun iv _ => n - (intOf iv).toNat)
      case atStart => exact ⟨0, Nat.zero_le _, rfl, Lib.hid (Below.refl _ _)⟩
      case round =>
        obtain ⟨v, hv, rfl, HV⟩ := hrel
        obtain ⟨wv, rfl⟩ : ∃ wv : World, wv = wr := ⟨_, rfl⟩
        by_cases hvn : v < n
        · have hvi : (0 : Int) ≤ v ∧ (v : Int) < n := by omega
          have HRv := Lib.hid (HR.out.below HV.out HR.out.lt)
          have HWv := Lib.hid (HW.out.trans (HV.out.mono HW.out.size))
          go_wp2_with fail
          go_loopw [16, 17, 18] (fun fv mv iv wr => ∃ (i f : Nat) (mo : Bool), i ≤ E.length ∧ fv = .int .i64 (f : Nat) ∧ mv = .bool mo ∧ iv = .int .i64 (i : Nat) ∧ f ≤ 150 ∧ Hid (PtI E g v i f mo) ∧ Hid (∃ q, wr = wv.drewN q)) (fun _ _ iv _ => E.length - (intOf iv).toNat)
          case atStart => exact ⟨0, 0, false, Nat.zero_le _, rfl, rfl, rfl, by omega, Lib.hid PtI.zero, Lib.hid ⟨0, rfl⟩⟩
          case round =>
            obtain ⟨i, f, mo, hi, rfl, rfl, rfl, hf150, HP, HQ⟩ := hrel
            by_cases hlt : i < E.length
            · have hEv := HES.out.below HWv.out
              have ix := hEv.ix i hlt
              have e0 := ES.u hEv hlt
              have e1 := ES.v hEv hlt
              have cg : wv.cell? ⟨w4.heap.size, i, none⟩ = some (natC g i) := HRv.out.cell hlt
              unfold natC at cg
              obtain ⟨u, x, hu, hx, h1, h2, -⟩ := HGk.out.nats hlt
              have hep : edP E i = (u, x) := by unfold edP; rw [hu, hx]; rfl
              have had := HAdj.out v i hlt
              rw [hep] at had
              rw [hu] at e0; rw [hx] at e1
              have hg0 := HAll.out i hlt
              have hgl := HLe.out i
              obtain ⟨gi, hgi⟩ : ∃ y, g i = y := ⟨_, rfl⟩
              rw [hgi] at cg hgl
              have hg0' : gi ≠ 0 := by rw [← hgi]; exact hg0
              have hgz : ((gi : Int) == 0) = false := by simp; omega
              have hin : (0 : Int) ≤ i ∧ (i : Int) < E.length := by omega
              have hg150 : gi ≤ 150 := by omega
              clear hEv hu hx hep
              obtain ⟨q, hq⟩ := HQ.out
              subst hq
              by_cases hat : u = v ∨ x = v
              · have HAt := Lib.hid (had.2 hat)
                by_cases huv : u = v
                · have k1 : ((u : Int) != (v : Int)) = false := by simp [huv]
                  clear hat had huv
                  by_cases hf0 : f = 0
                  · subst hf0
                    obtain rfl := HP.out.none
                    have HPn := Lib.hid (HP.out.new (HAt.out) hg0)
                    rw [hgi] at HPn
                    have hz : ((0 : Int) == 0) = true := rfl
                    have hs : ((gi : Int) != (gi : Int)) = false := by simp
                    clear HP hg0
                    go_wp2_with fail
                    go_roundw
                    case rel => exact ⟨i + 1, gi, false, by omega, rfl, rfl, by go_num, by omega, HPn, HQ⟩
                    case measure => simp only [intOf]; omega
                  · have hz : ((f : Int) == 0) = false := by simp; omega
                    have HPo := Lib.hid (HP.out.old (HAt.out) hf0)
                    rw [hgi] at HPo
                    cases mo with
                    | true =>
                      have HPt : Hid (PtI E g v (i + 1) f true) := Lib.hid (by simpa using HPo.out)
                      clear HP hf0 HPo
                      go_wp2_with fail
                      go_roundw
                      case rel => exact ⟨i + 1, f, true, by omega, rfl, rfl, by go_num, hf150, HPt, HQ⟩
                      case measure => simp only [intOf]; omega
                    | false =>
                      by_cases hgf : gi = f
                      · have hs : ((gi : Int) != (f : Int)) = false := by simp [hgf]
                        have HPt : Hid (PtI E g v (i + 1) f false) := Lib.hid (by have := HPo.out; simpa [hgf] using this)
                        clear HP hf0 HPo hgf
                        go_wp2_with fail
                        go_roundw
                        case rel => exact ⟨i + 1, f, false, by omega, rfl, rfl, by go_num, hf150, HPt, HQ⟩
                        case measure => simp only [intOf]; omega
                      · have hs : ((gi : Int) != (f : Int)) = true := by simp; omega
                        have HPt : Hid (PtI E g v (i + 1) f true) := Lib.hid (by have := HPo.out; simpa [hgf] using this)
                        clear HP hf0 HPo hgf
                        go_wp2_with fail
                        go_roundw
                        case rel => exact ⟨i + 1, f, true, by omega, rfl, rfl, by go_num, hf150, HPt, HQ⟩
                        case measure => simp only [intOf]; omega
                · have k1 : ((u : Int) != (v : Int)) = true := by simp; omega
                  have k2 : ((x : Int) != (v : Int)) = false := by simp; omega
                  clear hat had huv
                  by_cases hf0 : f = 0
                  · subst hf0
                    obtain rfl := HP.out.none
                    have HPn := Lib.hid (HP.out.new (HAt.out) hg0)
                    rw [hgi] at HPn
                    have hz : ((0 : Int) == 0) = true := rfl
                    have hs : ((gi : Int) != (gi : Int)) = false := by simp
                    clear HP hg0
                    go_wp2_with fail
                    go_roundw
                    case rel => exact ⟨i + 1, gi, false, by omega, rfl, rfl, by go_num, by omega, HPn, HQ⟩
                    case measure => simp only [intOf]; omega
                  · have hz : ((f : Int) == 0) = false := by simp; omega
                    have HPo := Lib.hid (HP.out.old (HAt.out) hf0)
                    rw [hgi] at HPo
                    cases mo with
                    | true =>
                      have HPt : Hid (PtI E g v (i + 1) f true) := Lib.hid (by simpa using HPo.out)
                      clear HP hf0 HPo
                      go_wp2_with fail
                      go_roundw
                      case rel => exact ⟨i + 1, f, true, by omega, rfl, rfl, by go_num, hf150, HPt, HQ⟩
                      case measure => simp only [intOf]; omega
                    | false =>
                      by_cases hgf : gi = f
                      · have hs : ((gi : Int) != (f : Int)) = false := by simp [hgf]
                        have HPt : Hid (PtI E g v (i + 1) f false) := Lib.hid (by have := HPo.out; simpa [hgf] using this)
                        clear HP hf0 HPo hgf
                        go_wp2_with fail
                        go_roundw
                        case rel => exact ⟨i + 1, f, false, by omega, rfl, rfl, by go_num, hf150, HPt, HQ⟩
                        case measure => simp only [intOf]; omega
                      · have hs : ((gi : Int) != (f : Int)) = true := by simp; omega
                        have HPt : Hid (PtI E g v (i + 1) f true) := Lib.hid (by have := HPo.out; simpa [hgf] using this)
                        clear HP hf0 HPo hgf
                        go_wp2_with fail
                        go_roundw
                        case rel => exact ⟨i + 1, f, true, by omega, rfl, rfl, by go_num, hf150, HPt, HQ⟩
                        case measure => simp only [intOf]; omega
              · have HPs := Lib.hid (HP.out.skip (fun c => hat (had.1 c)))
                have k1 : ((u : Int) != (v : Int)) = true := by simp; omega
                have k2 : ((x : Int) != (v : Int)) = true := by simp; omega
                clear hat had hg0 HP
                go_wp2_with fail
                go_roundw
                case rel => exact ⟨i + 1, f, mo, by omega, rfl, rfl, by go_num, hf150, HPs, HQ⟩
                case measure => simp only [intOf]; omega
            · obtain rfl : i = E.length := by omega
              have hend := HP.out.end
              have hcut := HCut.out v hvn
              have hdec : decide (v ∈ cutL n E) = mo := by
                rw [Bool.eq_iff_iff, decide_eq_true_eq, hcut, hend]
                constructor
                · rintro ⟨i, j, hi, hj, h⟩
                  exact ⟨i, j, hi, hj, fun c => h ((HEq.out i j (mem_adj.1 hi).1 (mem_adj.1 hj).1).1 c)⟩
                · rintro ⟨i, j, hi, hj, h⟩
                  exact ⟨i, j, hi, hj, fun c => h ((HEq.out i j (mem_adj.1 hi).1 (mem_adj.1 hj).1).2 c)⟩
              obtain ⟨q, hq⟩ := HQ.out
              subst hq
              have HH := hasI_any w4.heap.size v4 (cutL n E) v (wv.drewN q) (HCu.out.below (below_drewN HWv.out q)) (by have := cutL_len n E; omega)
              rw [hdec] at HH
              have HH := Lib.hid HH
              clear hend hcut hdec HP
              go_wp2_with fail
              refine HH.out.mono ?_
              rintro e wz ⟨rfl, rfl⟩
              clear HH
              cases mo with
              | true =>
                go_wp2_with fail
                go_roundw
                case rel => exact ⟨v + 1, by omega, by go_num, Lib.hid (below_drewN HV.out q)⟩
                case measure => simp only [intOf]; omega
              | false =>
                go_wp2_with fail
                go_roundw
                case rel => exact ⟨v + 1, by omega, by go_num, Lib.hid (below_drewN HV.out q)⟩
                case measure => simp only [intOf]; omega
        · obtain rfl : v = n := by omega
          go_wp2_with fail
          refine (works_any _).mono ?_
          rintro e w9 ⟨rfl, b9⟩
          replace HB := Lib.hid (HB.out.trans (((HW.out.trans (HV.out.mono HW.out.size)).trans (b9.mono (Nat.le_trans HW.out.size HV.out.size))).mono HB.out.size))
          go_wp2_with fail
          go_ret
          exact ⟨rfl, HB.out⟩
end Go.Proofs.Ytcpikabhcjkkmaa
