/- The walks of Count and Row of package cluster. Conditions: the labels are known. -/
import Derived.Test.YtpbgophogneecaaGreatCvA
import Derived.Test.YtpbgophogneecaaGreatDsa
namespace Go.Proofs.YtpbgophogneecaaGreat
open Go.RowKit Go.Shelf Go.Maps Go.Sort

/-- groups in memory, as they are read -/
abbrev GpR (w : World) (B : Nat) (v : Value) (n : Nat) (f : Nat → Nat) (m : Nat) (A : Nat → Addr) : Prop := Rd 70 2 w B v m (gpC n f (lbL f n)) A
theorem AllRes.rd {n : Nat} {f : Nat → Nat} {w : World} {e : Ending} {w' : World} (h : AllRes n f w e w') : ∃ (a : Option Addr) (cap : Nat) (A : Nat → Addr), e = .returned (.slice a (lbL f n).length cap) ∧ GpR w' w'.heap.size (.slice a (lbL f n).length cap) n f (lbL f n).length A ∧ Below w.heap.size w w' := by
  obtain ⟨v, rfl, h1, h2⟩ := h
  obtain ⟨a, cap, A, rfl, h3⟩ := Rd.own etG h1
  exact ⟨a, cap, A, rfl, h3, h2⟩
/-- the cells of a row -/
def rwC (l c s : Int) (i : Nat) : Value := (#[Value.int .i64 l, .int .i64 c, .int .i64 s] : Array Value).getD i undef
set_option maxRecDepth 100000 in
set_option maxHeartbeats 1000000 in
theorem part_any (rb l s : Nat) (c q : Int) (w : World) (h : Row w rb 3 (rwC l c q)) (hs : s ≤ 4096) :
    Calls Tryz.prog 23 #[.int .i64 (s : Nat), .pointer (some ⟨rb, 0, none⟩)] w fun e w' => e = .returned (.int .i64 ((s * s : Nat) : Int)) ∧ Row w' rb 3 (rwC ((max l s : Nat) : Int) c q) ∧ Inner ⟨rb, rb + 1⟩ w w' := by
  have c0 : w.cell? ⟨rb, 0, none⟩ = some (.int .i64 (l : Nat)) := h.cell (i := 0) (by omega)
  have f0 := h.frozen 0
  have hm : IntKind.i64.wrap ((s : Int) * (s : Int)) = ((s * s : Nat) : Int) := by
    have h1 : s * s ≤ 4096 * 4096 := Nat.mul_le_mul hs hs
    rw [← Int.natCast_mul, IntWalk.i64_in _ (by omega)]
  obtain ⟨m, hmm⟩ : ∃ m, s * s = m := ⟨_, rfl⟩
  have hm2 : (s : Int) * (s : Int) = (m : Int) := by rw [← hmm, Int.natCast_mul]
  have hmb : m ≤ 4096 * 4096 := by rw [← hmm]; exact Nat.mul_le_mul hs hs
  rw [hmm] at hm ⊢
  have HR := Lib.hid (show ∀ x : Int, x = max (l : Int) (s : Int) → Row (w.setCell ⟨rb, 0, none⟩ (.int .i64 x)) rb 3 (rwC ((max l s : Nat) : Int) c q) ∧ Inner ⟨rb, rb + 1⟩ w (w.setCell ⟨rb, 0, none⟩ (.int .i64 x)) from fun x hx =>
    ⟨(h.set 0 _).congr fun i hi => by
      have e : x = ((max l s : Nat) : Int) := by omega
      rw [e]
      match i, hi with
      | 0, _ => rfl
      | 1, _ => rfl
      | 2, _ => rfl
      | j + 3, h => omega, (Inner.refl _ _).setCell (p := ⟨rb, 0, none⟩) ⟨Nat.le_refl _, Nat.lt_succ_self _⟩ _⟩)
  clear h hmm
  by_cases hc : l = s
  · obtain rfl := hc
    have H := Lib.hid (HR.out l (by omega))
    clear HR
    go_enter Tryz.func23, Tryz.ntmps23
    go_wp2_with fail
    go_ret
    exact ⟨rfl, H.out⟩
  · have H := Lib.hid (HR.out _ rfl)
    clear HR hc
    go_enter Tryz.func23, Tryz.ntmps23
    go_wp2_with fail
    go_ret
    exact ⟨rfl, H.out⟩
set_option maxRecDepth 100000 in
set_option maxHeartbeats 1000000 in
theorem total_any (n : Nat) (f : Nat → Nat) (gb rb : Nat) (a : Option Addr) (cap : Nat) (A : Nat → Addr) (c : Int) (w : World) (hn : n ≤ 4096) (hg : w.cell? ⟨gb, 0, none⟩ = some (.slice a (lbL f n).length cap)) (hR : GpR w rb (.slice a (lbL f n).length cap) n f (lbL f n).length A) (h : Row w rb 3 (rwC 0 c 0)) :
    Calls Tryz.prog 22 #[.func (.func 23) #[] #[.pointer (some ⟨rb, 0, none⟩)], .pointer (some ⟨gb, 0, none⟩)] w fun e w' => e = .returned (.int .i64 (sqN n f (lbL f n) : Nat)) ∧ Row w' rb 3 (rwC (lgN n f (lbL f n) : Nat) c 0) ∧ Below rb w w' := by
  have hln := lbL_le f n
  obtain ⟨L, hL⟩ : ∃ l, lbL f n = l := ⟨_, rfl⟩
  unfold GpR at hR
  rw [hL] at hg hR hln ⊢
  obtain ⟨m, hm⟩ : ∃ m, L.length = m := ⟨_, rfl⟩
  rw [hm] at hg hR hln
  have Hm := Lib.hid hm
  have H0 := Lib.hid (show Row w rb 3 (rwC (lgN n f (L.take 0) : Nat) c 0) from h)
  have HR := Lib.hid hR
  clear h hR hL hm
  go_enter Tryz.func22, Tryz.ntmps22
  go_wp2_with fail
  go_loopw [9, 4] (fun iv sv wr => ∃ k : Nat, k ≤ m ∧ iv = .int .i64 (k : Nat) ∧ sv = .int .i64 (sqN n f (L.take k) : Nat) ∧ Hid (Row wr rb 3 (rwC (lgN n f (L.take k) : Nat) c 0)) ∧ Hid (Below rb w wr)) (fun iv _ _ => m - (intOf iv).toNat)
  case atStart => exact ⟨0, Nat.zero_le _, rfl, rfl, H0, Lib.hid (Below.refl _ _)⟩
  case round =>
    clear H0
    obtain ⟨k, hk, rfl, rfl, H, HB⟩ := hrel
    by_cases hlt : k < m
    · have hr := HR.out.below HB.out
      have ix := hr.ix k hlt
      have g0 := hr.cell k hlt 0 (by omega)
      have g1 := hr.cell k hlt 1 (by omega)
      rw [add_zero] at g0
      have hkl : k < L.length := by have := Hm.out; omega
      have HT1 := Lib.hid (show lgN n f (L.take (k + 1)) = max (lgN n f (L.take k)) (clsN n f (L.getD k 0)) by rw [take_snocN hkl, lgN_snoc])
      have HT2 := Lib.hid (show sqN n f (L.take (k + 1)) = sqN n f (L.take k) + clsN n f (L.getD k 0) * clsN n f (L.getD k 0) by rw [take_snocN hkl, sqN_snoc])
      have hcl := clsN_le n f (L.getD k 0)
      have hlg := lgN_le n f (L.take k)
      have hsq : sqN n f (L.take k) ≤ 4096 * (4096 * 4096) := by
        have h1 := sqN_le n f (L.take k)
        have h2 : (L.take k).length ≤ 4096 := by rw [List.length_take]; omega
        exact Nat.le_trans h1 (Nat.mul_le_mul h2 (Nat.mul_le_mul hn hn))
      have hki : (0 : Int) ≤ k ∧ (k : Int) < m := by omega
      obtain ⟨x, hx⟩ : ∃ x, L.getD k 0 = x := ⟨_, rfl⟩
      have e0 : wr.cell? (A k) = some (.int .i64 (x : Nat)) := by rw [g0]; unfold gpC; rw [if_pos rfl, hx]
      have e1 : wr.cell? ⟨(A k).block, (A k).off + 1, none⟩ = some (.int .i64 (clsN n f x : Nat)) := by
        have h1 : wr.cell? ⟨(A k).block, (A k).off + 1, none⟩ = _ := g1
        rw [h1]; unfold gpC; rw [if_neg (by decide), hx]
      rw [hx] at HT1 HT2 hcl
      generalize clsN n f x = cl at *
      generalize lgN n f (L.take k) = lg at *
      generalize sqN n f (L.take k) = sq at *
      have hcc : cl * cl ≤ 4096 * 4096 := Nat.mul_le_mul (Nat.le_trans hcl hn) (Nat.le_trans hcl hn)
      have hba : Below rb wr (wr.alloc (.cells #[.int .i64 (x : Nat), .int .i64 (cl : Nat)] 74)) := (Below.refl _ _).alloc (Nat.le_of_lt H.out.lt) _
      have HP := Lib.hid (part_any rb lg cl c 0 (wr.alloc (.cells #[.int .i64 (x : Nat), .int .i64 (cl : Nat)] 74)) (H.out.alloc _) (by omega))
      have HBa := Lib.hid (HB.out.trans (hba.mono (Nat.le_refl _)))
      obtain ⟨q2, hq2⟩ : ∃ q, cl * cl = q := ⟨_, rfl⟩
      rw [hq2] at HP HT2 hcc
      have hsum : IntKind.i64.wrap ((sq : Int) + (q2 : Int)) = (sq : Int) + (q2 : Int) := IntWalk.i64_in _ (by omega)
      clear hr g0 g1 hx hba hq2 H HB hkl
      go_wp2_with fail
      refine HP.out.mono ?_
      clear HP
      rintro e w5 ⟨rfl, hr5, hi5⟩
      have H5 := Lib.hid (show Row w5 rb 3 (rwC (lgN n f (L.take (k + 1)) : Nat) c 0) by rw [HT1.out]; exact hr5)
      have HB5 := Lib.hid (HBa.out.trans hi5.bel)
      clear hr5 hi5 HBa e0 e1 ix
      go_wp2_with fail
      go_roundw
      case rel => exact ⟨k + 1, by omega, by go_num, by rw [HT2.out, Int.natCast_add], H5, HB5⟩
      case measure => simp only [intOf]; omega
    · obtain rfl : m = k := by omega
      have HE := Lib.hid (show L.take m = L by rw [← Hm.out, List.take_length])
      go_wp2_with fail
      go_ret
      exact ⟨by rw [HE.out]; rfl, by have := H.out; rw [HE.out] at this; exact this, HB.out⟩
theorem rw_row (w : World) (l c q : Int) (t : TypeId) : Row (w.alloc (.cells #[.int .i64 l, .int .i64 c, .int .i64 q] t)) w.heap.size 3 (rwC l c q) :=
  Row.lit w _ _ (by simp) fun i hi => by
    match i, hi with
    | 0, _ => rfl
    | 1, _ => rfl
    | 2, _ => rfl
    | n + 3, h => omega
set_option maxRecDepth 100000 in
set_option maxHeartbeats 1000000 in
theorem crow_any (vv : Value) (n : Nat) (f : Nat → Nat) (θ : Int) (w : World) (hn : n ≤ 4096) (hA : ∀ w1, Below w.heap.size w w1 → Calls Tryz.prog 21 #[vv, .int .i64 θ] w1 (AllRes n f w1)) :
    Calls Tryz.prog 9 #[vv, .int .i64 θ] w (RowRes n f w) := by
  have hb0 : Below w.heap.size w (w.alloc (.cells #[.int .i64 0, .int .i64 0, .int .i64 0] 35)) := (Below.refl _ _).alloc (Nat.le_refl _) _
  have HA := Lib.hid (hA _ hb0)
  have HZ := Lib.hid (rw_row w 0 0 0 35)
  have HB := Lib.hid hb0
  have HS0 := Lib.hid (show w.heap.size < (w.alloc (.cells #[.int .i64 0, .int .i64 0, .int .i64 0] 35)).heap.size by simp)
  clear hb0 hA
  go_enter Tryz.func9, Tryz.ntmps9
  go_wp2_with fail
  generalize w.alloc (.cells #[.int .i64 0, .int .i64 0, .int .i64 0] 35) = wa at *
  refine HA.out.mono ?_
  clear HA
  rintro e w1 h
  obtain ⟨a, cap, A, rfl, hR, hb1⟩ := h.rd
  have hw1 : w.heap.size < w1.heap.size := Nat.lt_of_lt_of_le HS0.out hb1.size
  have HZ1 := Lib.hid (HZ.out.below hb1 HS0.out)
  have HB1 := Lib.hid (HB.out.trans (hb1.mono HB.out.size))
  have HR := Lib.hid hR
  have hln := lbL_le f n
  obtain ⟨m, hm⟩ : ∃ m, (lbL f n).length = m := ⟨_, rfl⟩
  rw [hm] at HR hln ⊢
  have Hm := Lib.hid hm
  have hb2 : Below w1.heap.size w1 ((w1.alloc (.cells #[.slice a m cap] 70)).alloc (.cells #[.int .i64 0, .int .i64 (m : Nat), .int .i64 0] 35)) := ((Below.refl _ _).alloc (Nat.le_refl _) _).alloc (by simp) _
  have hgb : ((w1.alloc (.cells #[.slice a m cap] 70)).alloc (.cells #[.int .i64 0, .int .i64 (m : Nat), .int .i64 0] 35)).cell? ⟨w1.heap.size, 0, none⟩ = some (.slice a m cap) := by
    rw [World.cell?_of_block (Below.heap_alloc _ _ _ (by simp))]
    exact (Boxed.new w1 70 (.slice a m cap)).cell
  have hrb : Row ((w1.alloc (.cells #[.slice a m cap] 70)).alloc (.cells #[.int .i64 0, .int .i64 (m : Nat), .int .i64 0] 35)) (w1.heap.size + 1) 3 (rwC 0 (m : Nat) 0) := by
    have := rw_row (w1.alloc (.cells #[.slice a m cap] 70)) 0 (m : Nat) 0 35
    rwa [World.size_alloc] at this
  have HT := Lib.hid (total_any n f w1.heap.size (w1.heap.size + 1) a cap A (m : Nat) _ hn (by rw [hm]; exact hgb) (by rw [hm]; exact (HR.out.below hb2).mono (Nat.le_succ _)) hrb)
  have HB2 := Lib.hid (HB1.out.trans (hb2.mono HB1.out.size))
  have HZ2 := Lib.hid (HZ1.out.below hb2 hw1)
  have hs2 : ((w1.alloc (.cells #[.slice a m cap] 70)).alloc (.cells #[.int .i64 0, .int .i64 (m : Nat), .int .i64 0] 35)).heap.size = w1.heap.size + 1 + 1 := by simp
  have Hs2 := Lib.hid hs2
  clear h hR hb1 hm hb2 hgb hrb hs2 HR HZ HB HS0
  go_wp2_with fail
  generalize (w1.alloc (.cells #[.slice a m cap] 70)).alloc (.cells #[.int .i64 0, .int .i64 (m : Nat), .int .i64 0] 35) = w2 at *
  refine HT.out.mono ?_
  clear HT
  rintro e w3 ⟨rfl, hr3, hb3⟩
  have HZ3 := Lib.hid (HZ2.out.below hb3 (by omega))
  have HB3 := Lib.hid (HB2.out.trans (hb3.mono (by omega)))
  obtain ⟨lg, hlg⟩ : ∃ x, lgN n f (lbL f n) = x := ⟨_, rfl⟩
  obtain ⟨sq, hsq⟩ : ∃ x, sqN n f (lbL f n) = x := ⟨_, rfl⟩
  rw [hlg] at hr3
  rw [hsq]
  have Hq := Lib.hid (And.intro hlg hsq)
  have c2 : w3.cell? ⟨w1.heap.size + 1, 2, none⟩ = some (.int .i64 0) := hr3.cell (i := 2) (by omega)
  have f2 := hr3.frozen 2
  have hr4 := hr3.set 2 (.int .i64 (sq : Nat))
  have d0 : (w3.setCell ⟨w1.heap.size + 1, 2, none⟩ (.int .i64 (sq : Nat))).cell? ⟨w1.heap.size + 1, 0, none⟩ = some (.int .i64 (lg : Nat)) := hr4.cell (i := 0) (by omega)
  have d1 : (w3.setCell ⟨w1.heap.size + 1, 2, none⟩ (.int .i64 (sq : Nat))).cell? ⟨w1.heap.size + 1, 1, none⟩ = some (.int .i64 (m : Nat)) := hr4.cell (i := 1) (by omega)
  have d2 : (w3.setCell ⟨w1.heap.size + 1, 2, none⟩ (.int .i64 (sq : Nat))).cell? ⟨w1.heap.size + 1, 2, none⟩ = some (.int .i64 (sq : Nat)) := hr4.cell (i := 2) (by omega)
  have hz4 := HZ3.out.setOther (a := ⟨w1.heap.size + 1, 2, none⟩) (by show w.heap.size ≠ w1.heap.size + 1; omega) (.int .i64 (sq : Nat))
  have z0 := hz4.cell (i := 0) (by omega)
  have z1 := hz4.cell (i := 1) (by omega)
  have z2 := hz4.cell (i := 2) (by omega)
  have fz := fun i => hz4.frozen i
  have H5 := Lib.hid (((hz4.set 0 (.int .i64 (lg : Nat))).set 1 (.int .i64 (m : Nat))).set 2 (.int .i64 (sq : Nat)))
  have HB5 := Lib.hid ((((HB3.out.setCell (p := ⟨w1.heap.size + 1, 2, none⟩) (by show w.heap.size ≤ w1.heap.size + 1; omega) (.int .i64 (sq : Nat))).setCell (p := ⟨w.heap.size, 0, none⟩) (Nat.le_refl _) (.int .i64 (lg : Nat))).setCell (p := ⟨w.heap.size, 1, none⟩) (Nat.le_refl _) (.int .i64 (m : Nat))).setCell (p := ⟨w.heap.size, 2, none⟩) (Nat.le_refl _) (.int .i64 (sq : Nat)))
  clear hr3 hr4 hz4 hb3 hlg hsq
  go_wp2_with fail
  generalize (((w3.setCell ⟨w1.heap.size + 1, 2, none⟩ (.int .i64 (sq : Nat))).setCell ⟨w.heap.size, 0, none⟩ (.int .i64 (lg : Nat))).setCell ⟨w.heap.size, 1, none⟩ (.int .i64 (m : Nat))).setCell ⟨w.heap.size, 2, none⟩ (.int .i64 (sq : Nat)) = wz at *
  have s0 := H5.out.cell (i := 0) (by omega)
  have s1 := H5.out.cell (i := 1) (by omega)
  have s2 := H5.out.cell (i := 2) (by omega)
  refine bodyPost_ret (v := .agg #[.int .i64 (lg : Nat), .int .i64 (m : Nat), .int .i64 (sq : Nat)]) (by simp [results, Tryz.results9, go_sem, s0, s1, s2]) rfl ?_
  refine ⟨?_, HB5.out⟩
  rw [Hq.out.1, Hq.out.2]
  have hc : cntN n f = m := Hm.out
  rw [hc]
end Go.Proofs.YtpbgophogneecaaGreat
