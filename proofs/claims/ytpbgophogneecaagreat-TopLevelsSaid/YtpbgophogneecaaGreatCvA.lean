/- The walk of All of package cluster. Conditions: the labels are known. -/
import Derived.Test.YtpbgophogneecaaGreatLba
import Derived.Test.YtpbgophogneecaaGreatRcV
namespace Go.Proofs.YtpbgophogneecaaGreat
open Go.RowKit Go.Shelf Go.Maps Go.Sort

theorem Tryz.infoG : (Tryz.prog.info? 74).map (fun i => (i.zero, i.size, i.bytes)) = some (some (.agg #[.int .i64 0, .int .i64 0]), 2, 16) := by kernel_rfl
theorem etG : ET 70 74 2 16 := ET.of Tryz.underlying70 Tryz.infoG rfl (by decide)
theorem sortsA (m : Nat) : AnyZI.SortsIn Tryz.prog Tryz.sortedA_ren Fence.wide m :=
  ⟨fun blk off cap ss W hH hblk hsz => callsIn_wide.2 (AnyM.slices_Sort_int Tryz.sortA blk off cap ss W hH hblk hsz),
   fun p cap W => callsIn_wide.2 (AnyM.slices_Sort_int_none Tryz.sortA p cap W)⟩
/-- the keys of a map, in order -/
theorem keys_call (mb : Option Nat) (W : World) : Calls Tryz.prog 47 #[.map mb] W fun e w' => e = .returned (.func (.func 78) #[] #[.pointer (some ⟨W.heap.size, 0, none⟩)]) ∧ W.alloc (.cells #[.map mb] 104) = w' :=
  (callsIn_wide.1 (AnyZI.keys_in Tryz.keysA Fence.wide 7 trivial rfl mb W)).mono fun _ _ h => ⟨h.1, h.2.symm⟩
theorem sorted_call (mb N : Nat) (D : DataW Unit) (W : World) (hown : OwnM W mb N D) (hN : Maps.size D ≤ 100000) :
    Calls Tryz.prog 46 #[.func (.func 78) #[] #[.pointer (some ⟨W.heap.size, 0, none⟩)]] (W.alloc (.cells #[.map (some mb)] 104)) fun e w' => ∃ (v : Value) (ss : List Int), e = .returned v ∧ ss.Perm (intKeys D) ∧
      w'.ownsRow (W.heap.size + 1) 3 1 v ss.length ((ss.mergeSort (fun x y => decide (x ≤ y))).map (Value.int .i64)) ∧ Below (W.heap.size + 1) (W.alloc (.cells #[.map (some mb)] 104)) w' := by
  have hseq : SeqGives Fence.wide 4 Tryz.prog 78 #[.pointer (some ⟨W.heap.size, 0, none⟩)] encZ (fun ss => ss.Perm (intKeys D)) (Maps.size D) (W.alloc (.cells #[.map (some mb)] 104)) :=
    AnyZI.keys_gives (ρ := Tryz.keysA_ren) { Tryz.keysA with } Fence.wide _ trivial rfl (by omega) W.heap.size mb _ _ _ (by simp) (by simp) (hown.alloc _)
  have cS := AnyZI.sorted_in Tryz.sortedA Fence.wide 7 trivial trivial trivial trivial rfl (by omega) (sortsA _) (enters_of Tryz.func77 (by kernel_rfl) rfl) 78 #[.pointer (some ⟨W.heap.size, 0, none⟩)] trivial (enters_of Tryz.func78 (by kernel_rfl) rfl) _ _ (by unfold maxLen; omega) (by omega) _ hseq
  change CallsIn _ _ Tryz.prog 46 _ _ _ at cS
  refine (callsIn_wide.1 cS).mono ?_
  rintro e w' ⟨v, ss, rfl, hS, hrow, -, hb⟩
  rw [World.size_alloc] at hrow hb
  exact ⟨v, ss, rfl, hS, hrow, hb⟩
/-- what Labels answers -/
def LabsRes (n : Nat) (f : Nat → Nat) (w : World) (e : Ending) (w' : World) : Prop := ∃ v, e = .returned v ∧ LabO w.heap.size v n f w' ∧ Below w.heap.size w w'
/-- the cells of groups -/
def gpC (n : Nat) (f : Nat → Nat) (l : List Nat) (i j : Nat) : Value := if j = 0 then .int .i64 (l.getD i 0 : Nat) else .int .i64 (clsN n f (l.getD i 0) : Nat)
theorem gpC_snoc (n : Nat) (f : Nat → Nat) (l : List Nat) (k : Nat) : flat (gpC n f l) (k + 1) 2 = flat (gpC n f l) k 2 ++ #[Value.int .i64 (l.getD k 0 : Nat), .int .i64 (clsN n f (l.getD k 0) : Nat)].toList := by
  rw [flat_succ]; rfl
theorem ownI_rdB {w : World} {base : Nat} {v : Value} {l : List Nat} (h : OwnI base v l w) : ∃ a cap A, v = .slice a l.length cap ∧ Rd 46 1 w w.heap.size (.slice a l.length cap) l.length (nums .i64 (intsN l)) A ∧ ∀ i, i < l.length → base ≤ (A i).block := by
  rcases h.2 with ⟨h0, h1⟩ | ⟨g, cap, cur, e1, hb, h3, _⟩
  · refine ⟨none, 0, fun _ => ⟨0, 0, none⟩, by rw [h0, h1], ?_, fun i hi => by omega⟩
    rw [h1]; exact Rd.nil _
  · subst e1
    have hr : Row w g l.length (intF fun i => ((l.getD i 0 : Nat) : Int)) := (Row.owned h).congr fun i hi => by
      unfold intF intsN; simp [List.getD, hi]
    refine ⟨some ⟨g, 0, none⟩, cap, _, rfl, (rowI_rd hr).congr fun i hi j hj => ?_, fun i hi => ?_⟩
    · unfold nums; rw [intsN_nth]
    · rw [add_block]; exact hb
theorem lbL_at {f : Nat → Nat} {n k : Nat} (h : k < (lbL f n).length) : (lbL f n).getD k 0 < n ∧ f ((lbL f n).getD k 0) = (lbL f n).getD k 0 := by
  have h1 : (lbL f n).getD k 0 ∈ lbL f n := by
    rw [List.getD_eq_getElem?_getD, List.getElem?_eq_getElem h]; exact List.getElem_mem _
  unfold lbL at h1
  have h2 := List.mem_filter.1 h1
  exact ⟨List.mem_range.1 h2.1, of_decide_eq_true h2.2⟩
theorem lbL_le (f : Nat → Nat) (n : Nat) : (lbL f n).length ≤ n := by
  have := List.length_filter_le (fun j => decide (f j = j)) (List.range n); rwa [List.length_range] at this
/-- what All answers -/
def AllRes (n : Nat) (f : Nat → Nat) (w : World) (e : Ending) (w' : World) : Prop := ∃ v, e = .returned v ∧ w'.ownsRow w.heap.size 74 2 v (lbL f n).length (flat (gpC n f (lbL f n)) (lbL f n).length 2) ∧ Below w.heap.size w w'
set_option maxRecDepth 100000 in
set_option maxHeartbeats 2000000 in
theorem all_any (vv : Value) (n : Nat) (f : Nat → Nat) (θ : Int) (w : World) (hn : n ≤ 4096) (hf : ∀ x, x < n → f x < n) (K : LabOk f)
    (hL : ∀ w1, Below w.heap.size w w1 → Calls Tryz.prog 45 #[vv, .int .i64 θ] w1 (LabsRes n f w1)) :
    Calls Tryz.prog 21 #[vv, .int .i64 θ] w (AllRes n f w) := by
  have hb0 : Below w.heap.size w (w.alloc (.map #[] 0)) := (Below.refl _ _).alloc (Nat.le_refl _) _
  have HL := Lib.hid (hL _ hb0)
  have HM0 := Lib.hid (show OwnM (w.alloc (.map #[] 0)) w.heap.size 0 (.map []) from World.ownsMap_made w Tryz.prog 3 (plainElem (H := Unit) Tryz.prog 3))
  have HB0 := Lib.hid hb0
  have Hf := Lib.hid hf; have HK := Lib.hid K
  have hmm := @run_makeMap Tryz.prog
  clear hL hb0 hf K
  go_enter Tryz.func21, Tryz.ntmps21
  go_wp2_with fail
  have hs0 : (w.alloc (.map #[] 0)).heap.size = w.heap.size + 1 := by simp
  have Hs0 := Lib.hid hs0
  clear hs0 hmm
  generalize w.alloc (.map #[] 0) = wa at *
  refine HL.out.mono ?_
  clear HL
  rintro e w1 ⟨v, rfl, hv, hb1⟩
  obtain ⟨la, lc, LA, rfl, hR⟩ := hv.rd
  have hmw : w.heap.size < wa.heap.size := by have := Hs0.out; omega
  have HM1 := Lib.hid (show ∃ D, OwnM w1 w.heap.size 0 D ∧ CntM D (intsN (labs 0 f)) from ⟨_, ownM_of HM0.out (hb1.block _ hmw), CntM.nil⟩)
  have HR := Lib.hid hR
  have HB1 := Lib.hid (HB0.out.trans (hb1.mono HB0.out.size))
  have hs1 : w.heap.size < w1.heap.size := by have := hb1.size; omega
  clear hv hR hb1 HM0 HB0 Hs0 hmw
  go_wp2_with fail
  go_loopw [16] (fun iv wr => ∃ k : Nat, k ≤ n ∧ iv = .int .i64 (k : Nat) ∧ Hid (∃ D, OwnM wr w.heap.size k D ∧ CntM D (intsN (labs k f))) ∧ Hid (LabR wr w1.heap.size (.slice la n lc) n f LA) ∧ Hid (Below w.heap.size w wr) ∧ Hid (w1.heap.size ≤ wr.heap.size)) (fun iv _ => n - (intOf iv).toNat)
  case atStart => exact ⟨0, Nat.zero_le _, rfl, HM1, HR, HB1, Lib.hid (Nat.le_refl _)⟩
  case round =>
    clear HM1 HR HB1
    obtain ⟨k, hk, rfl, HM, HR, HB, HSw⟩ := hrel
    by_cases hlt : k < n
    · obtain ⟨D, hown, hD⟩ := HM.out
      have hfk := Hf.out k hlt
      have ix := HR.out.ix k hlt
      have ck := lab_cell HR.out hlt
      have hki : (0 : Int) ≤ k ∧ (k : Int) < n := by omega
      have Hl := Lib.hid (show intsN (labs (k + 1) f) = intsN (labs k f) ++ [((f k : Nat) : Int)] by rw [labs_succ, intsN_snoc])
      have hcnt : (intsN (labs k f)).count ((f k : Nat) : Int) ≤ k := by
        have h1 := List.count_le_length (a := ((f k : Nat) : Int)) (l := intsN (labs k f))
        rwa [intsN_len, labs_len] at h1
      generalize f k = x at *
      have hwf : (Lit.int .i64 (x : Nat)).wf = true := WalkArith.wf_i64 (by omega)
      have hlk := look_eq hown hD.a hwf
      obtain ⟨c, hc⟩ : ∃ c, (intsN (labs k f)).count ((x : Nat) : Int) = c := ⟨_, rfl⟩
      rw [hc] at hcnt
      rw [hc] at hlk
      obtain ⟨w2, hrun, hown1, hgrow1⟩ := hown.update lawI map_ptr (val := .int .i64 ((c : Int) + 1)) (by unfold maxLen; omega) (keyOf_int_mk Tryz.underlying3 hwf) (plainElem_int Tryz.underlying3 (WalkArith.wf_i64 (by omega)))
      have HM2 := Lib.hid (show ∃ D, OwnM w2 w.heap.size (k + 1) D ∧ CntM D (intsN (labs (k + 1) f)) from ⟨_, hown1, by rw [Hl.out]; exact hD.snoc _ (by rw [hc])⟩)
      have HR2 := Lib.hid (HR.out.mapped hown hgrow1)
      have HB2 := Lib.hid (HB.out.grown hgrow1 HB.out.size (fun j e => by cases e; exact Nat.le_refl _))
      have HS2 := Lib.hid (Nat.le_trans HSw.out hgrow1.size)
      clear hown hD hwf hc hown1 hgrow1 HM HR HB HSw
      go_wp2_with fail
      go_roundw
      case rel => exact ⟨k + 1, by omega, by go_num, HM2, HR2, HB2, HS2⟩
      case measure => simp only [intOf]; omega
    · obtain rfl : n = k := by omega
      obtain ⟨D, hown, hD⟩ := HM.out
      have hsz : Maps.size D ≤ n := by
        have := size_of_has hD.a.tidy hD.a.ints (r := intsN (labs n f)) (fun x hx => (hD.has x).1 hx)
        rwa [intsN_len, labs_len] at this
      have hlen := fun ty => hown.len map_ptr ty
      have HN := Lib.hid hsz
      have HM := Lib.hid hown
      have HD := Lib.hid hD
      obtain ⟨c, hc⟩ : ∃ c, Maps.size D = c := ⟨_, rfl⟩
      rw [hc] at hlen hsz
      obtain ⟨i, z, hi, hz, h2, h3, h4⟩ := etG.info
      obtain ⟨w3, hmk, hown3, hgr⟩ := run_make_own (P := Tryz.prog) wr w1.heap.size 70 74 i z 2 etG.ht hi hz h2 .i64 .i64 c (by rw [h3]; omega) (by unfold maxLen; omega) HSw.out
      clear hi hz h2 h3 h4 hc hown hD
      go_wp2_with fail
      refine (keys_call _ _).mono ?_
      rintro e w' ⟨rfl, rfl⟩
      have hmlt : w.heap.size < wr.heap.size := by have := HSw.out; omega
      have HM3 := Lib.hid (show OwnM w3 w.heap.size n D from ownM_of HM.out (hgr.block _ hmlt (fun e => by cases e)))
      have HSo := Lib.hid (sorted_call w.heap.size n D w3 HM3.out (by have := HN.out; omega))
      have HB3 := Lib.hid (HB.out.grown hgr HB.out.size (fun j e => by cases e))
      have HO3 := Lib.hid hown3
      have hgz := hgr.size
      have Hgg := Lib.hid (And.intro HSw.out (show wr.heap.size < w3.heap.size from by
        rcases hown3.2 with ⟨h0, _⟩ | ⟨g', c', cur, e1, _, h3, _⟩
        · cases h0
        · cases e1; exact (Array.getElem?_eq_some_iff.1 h3).1))
      clear hlen hmk hgr hown3 HM HB HR hsz
      go_wp2_with fail
      refine HSo.out.mono ?_
      clear HSo
      rintro e w5 ⟨v2, ss, rfl, hperm, hrow, hb5⟩
      have hmer := HD.out.sorted Hf.out HK.out hperm
      have hsl : ss.length = (lbL f n).length := by
        rw [← List.length_mergeSort (le := fun x y => decide (x ≤ y)), hmer, intsN_len]
      rw [hmer, hsl] at hrow
      have hrow : OwnI (w3.heap.size + 1) v2 (lbL f n) w5 := hrow
      obtain ⟨a2, c2, A2, rfl, hR2, hA2⟩ := ownI_rdB hrow
      have hb35 : Below w3.heap.size w3 w5 := ((Below.refl _ _).alloc (Nat.le_refl _) _).trans (hb5.mono (Nat.le_succ _))
      have HM5 := Lib.hid (show OwnM w5 w.heap.size n D from ownM_of HM3.out (hb35.block _ (by have := Hgg.out; omega)))
      have HO5 := Lib.hid (ownsRow_below HO3.out hb35)
      have HB5 := Lib.hid (HB3.out.trans (hb35.mono HB3.out.size))
      have hg5 := Hgg.out
      have hs5 := hb35.size
      have HA5 := Lib.hid (show ∀ i, i < (lbL f n).length → (A2 i).block ≠ wr.heap.size ∧ (A2 i).block < w5.heap.size from fun i hi => ⟨by have := hA2 i hi; omega, hR2.lt i hi⟩)
      have HR5 := Lib.hid hR2
      have hLn := lbL_le f n
      have Hf5 := Lib.hid (show w1.heap.size ≤ w5.heap.size ∧ w.heap.size < w1.heap.size from ⟨by omega, hs1⟩)
      have HLa := Lib.hid (fun k (hk : k < (lbL f n).length) => lbL_at hk)
      obtain ⟨L, hL⟩ : ∃ l, lbL f n = l := ⟨_, rfl⟩
      have HLe := Lib.hid hL
      rw [hL] at hR2 HA5 HR5 hLn HLa ⊢
      obtain ⟨m, hm⟩ : ∃ m, L.length = m := ⟨_, rfl⟩
      have Hm := Lib.hid hm
      rw [hm] at HR5 hLn HA5 HLa ⊢
      clear hperm hrow hb5 hmer hsl hR2 hA2 hb35 hg5 hs5 HM3 HO3 HB3 hL hm hgz
      go_wp2_with fail
      generalize wr.heap.size = g0 at *
      go_loopw [32, 8] (fun iv gv wr => ∃ k g cp : Nat, k ≤ m ∧ iv = .int .i64 (k : Nat) ∧ gv = .slice (some ⟨g, 0, none⟩) k cp ∧ Hid (wr.ownsRow w1.heap.size 74 2 (.slice (some ⟨g, 0, none⟩) k cp) k (flat (gpC n f L) k 2)) ∧ Hid (∀ i, i < m → (A2 i).block ≠ g ∧ (A2 i).block < wr.heap.size) ∧ Hid (Rd 46 1 wr w5.heap.size (.slice a2 m c2) m (nums .i64 (intsN L)) A2) ∧ Hid (Below w.heap.size w wr) ∧ Hid (OwnM wr w.heap.size n D) ∧ Hid (w5.heap.size ≤ wr.heap.size)) (fun iv _ _ => m - (intOf iv).toNat)
      case atStart => exact ⟨0, g0, c, Nat.zero_le _, rfl, rfl, HO5, HA5, HR5, HB5, HM5, Lib.hid (Nat.le_refl _)⟩
      case round =>
        clear HO5 HA5 HR5 HB5 HM5
        obtain ⟨k, g, cp, hk, rfl, rfl, HO, HA, HR, HB, HM, HS⟩ := hrel
        by_cases hlt2 : k < m
        · have hLa := HLa.out k hlt2
          have ix := HR.out.ix k hlt2
          have ck := intsN_cell HR.out hlt2
          have hki : (0 : Int) ≤ k ∧ (k : Int) < m := by omega
          have Hsn := Lib.hid (gpC_snoc n f L k)
          obtain ⟨x, hx⟩ : ∃ x, L.getD k 0 = x := ⟨_, rfl⟩
          rw [hx] at hLa ck Hsn
          have hwf : (Lit.int .i64 (x : Nat)).wf = true := WalkArith.wf_i64 (by omega)
          have hlk := look_eq HM.out HD.out.a hwf
          have hcc := cnt_cls n f x
          rw [hLa.2] at hcc
          rw [hcc] at hlk
          have hcl := clsN_le n f x
          generalize clsN n f x = cl at *
          have hxn := hLa.1
          have hbse : w1.heap.size ≤ wr.heap.size := by have := HS.out; have := Hf5.out; omega
          clear hLa hx hwf hcc
          go_wp2_with (at_builtin; refine push etG rfl _ _ rfl w1.heap.size _ k _ HO.out rfl #[.int .i64 (x : Nat), .int .i64 (cl : Nat)] _ rfl rfl rfl (by simp [Value.oneCell']) (by omega) (by omega) hbse ?_; intro g2 cap2 w9 hown9 hg9 hmv; refine Hid.out ?_)
          have hgb : ∀ j, (Value.slice (some ⟨g, 0, none⟩) k cp).ownBlock = some j → j = g := fun j e => (Option.some.inj e).symm
          have hgl := HO.out.lt g rfl
          have HO9 := Lib.hid (show w9.ownsRow w1.heap.size 74 2 (.slice (some ⟨g2, 0, none⟩) (k + 1 : Nat) cap2) (k + 1) (flat (gpC n f L) (k + 1) 2) by rw [Hsn.out]; exact hown9)
          have HR9 := Lib.hid (HR.out.grown HS.out hg9 (fun i hi e => (HA.out i hi).1 (hgb _ e)))
          have HA9 := Lib.hid (show ∀ i, i < m → (A2 i).block ≠ g2 ∧ (A2 i).block < w9.heap.size from fun i hi => by
            have h1 := HA.out i hi
            have h2 := hg9.size
            rcases hmv with e | e
            · have := hgb _ e; omega
            · omega)
          have HB9 := Lib.hid (HB.out.grown hg9 HB.out.size (fun j e => by have := hgb _ e; have := hgl.1; have := Hf5.out; omega))
          have HM9 := Lib.hid (show OwnM w9 w.heap.size n D from ownM_of HM.out (hg9.block _ (by have := Hf5.out; omega) (fun e => by have := hgb _ e.symm; have := hgl.1; have := Hf5.out; omega)))
          have HS9 := Lib.hid (Nat.le_trans HS.out hg9.size)
          clear hown9 hg9 hmv hgb hgl HO HR HA HB HM HS ix ck hlk
          refine Lib.hid ?_
          go_wp2_with fail
          go_roundw
          case rel => exact ⟨k + 1, g2, cap2, by omega, by go_num, rfl, HO9, HA9, HR9, HB9, HM9, HS9⟩
          case measure => simp only [intOf]; omega
        · obtain rfl : m = k := by omega
          go_wp2_with fail
          go_ret
          have hs := HB.out.size
          have hf5 := Hf5.out
          refine ⟨_, rfl, ?_, HB.out⟩
          rw [HLe.out, Hm.out]
          exact own_lower HO.out (by omega)
end Go.Proofs.YtpbgophogneecaaGreat
