/- The walk of update of package bag. Conditions: the tree's blocks are apart, its numbers in order; what the function makes of the count. -/
import Derived.Test.YtpbgophogneecaaGreatTla
import Derived.Test.YtpbgophogneecaaGreatMe
import Derived.Laws.Externs
import Derived.WalkSpells
import Derived.Laws.Bits64b
namespace Go.Proofs.YtpbgophogneecaaGreat
open Go.RowKit

/-- what update answers -/
def UpdR (S : List Nat) (L : List (Int × Nat)) (w : World) (e : Ending) (w' : World) : Prop :=
  ∃ t' : Tn, e = .returned t'.ptr ∧ TAt w' t' ∧ t'.ino = L ∧ (∀ j ∈ t'.bl, j ∈ S ∨ w.heap.size ≤ j) ∧ t'.bl.Nodup ∧ Off S w w'
theorem srt_parts {A B : List (Int × Nat)} {y : Int} {s : Nat} (h : SrtC (A ++ (y, s) :: B)) : SrtC A ∧ SrtC B ∧ (∀ q ∈ A, q.1 < y) ∧ (∀ q ∈ B, y < q.1) := by
  obtain ⟨h1, h2, h3⟩ := List.pairwise_append.1 h
  obtain ⟨h4, h5⟩ := List.pairwise_cons.1 h2
  exact ⟨h1, h5, fun q hq => h3 q hq (y, s) (by simp), h4⟩
theorem node0 (w : World) (x k : Int) : NodAt (w.alloc (.cells #[.pointer none, .pointer none, .int .i64 x, .int .i64 k, .int .i64 0, .int .i64 0, .int .i64 0] 155)) w.heap.size (.pointer none) (.pointer none) x k 0 0 0 := Row.lit w _ _ (by simp) fun i hi => by
  match i, hi with
  | 0, _ => rfl
  | 1, _ => rfl
  | 2, _ => rfl
  | 3, _ => rfl
  | 4, _ => rfl
  | 5, _ => rfl
  | 6, _ => rfl
  | n + 7, h => omega
set_option maxRecDepth 100000 in
set_option maxHeartbeats 16000000 in
theorem update_any (x : Int) (n c k0 k1 : Nat) (hcf : ∀ (old : Int) (W : World), (callFunc n #[.int .i64 old, .pointer (some ⟨c, 0, none⟩)]).run Tryz.prog W = .ok (.enter n #[.int .i64 old, .pointer (some ⟨c, 0, none⟩)]) W) (hF : ∀ W : World, W.cell? ⟨c, 0, none⟩ = some (.int .i64 1) → Calls Tryz.prog n #[.int .i64 (k0 : Nat), .pointer (some ⟨c, 0, none⟩)] W fun e w' => e = .returned (.int .i64 (k1 : Nat)) ∧ W = w') (t : Tn) :
    ∀ w : World, TAt w t → t.bl.Nodup → c ∉ t.bl → c < w.heap.size → w.cell? ⟨c, 0, none⟩ = some (.int .i64 1) → SrtC t.ino → getC t.ino x = k0 → t.sz + k1 ≤ 900000 → t.ds ≤ 900000 →
    Calls Tryz.prog 81 #[t.ptr, .int .i64 x, .func (.func n) #[] #[.pointer (some ⟨c, 0, none⟩)]] w (UpdR t.bl (tlSet t.ino x k1) w) := by
  have HF := Lib.hid hF
  clear hF
  induction t with
  | nil =>
    intro w hT hnd hc hcl hcc hsr hg hz hd
    obtain rfl : 0 = k0 := hg
    have HQ := Lib.hid (HF.out w hcc)
    show Calls _ _ #[.pointer none, .int .i64 x, .func (.func n) #[] #[.pointer (some ⟨c, 0, none⟩)]] _ _
    go_enter Tryz.func81, Tryz.ntmps81
    go_wp2_with fail
    refine HQ.out.mono ?_
    rintro e w' ⟨rfl, rfl⟩
    have HD := Lib.hid hd; have HZ := Lib.hid hz
    by_cases hk : k1 = 0
    · subst hk
      clear HQ
      go_wp2_with fail
      go_ret
      exact ⟨.nil, rfl, trivial, rfl, fun j hj => by simp [Tn.bl] at hj, by simp [Tn.bl], Off.refl _ _⟩
    · have d1 : (((k1 : Nat) : Int) == 0) = false := by simpa using hk
      have d2 : decide (((k1 : Nat) : Int) = 0) = false := decide_eq_false (by omega)
      clear HQ
      go_wp2_with fail
      have hN := node0 w x (k1 : Nat)
      have hO : Off (Tn.nil).bl w (w.alloc (.cells #[.pointer none, .pointer none, .int .i64 x, .int .i64 (k1 : Nat), .int .i64 0, .int .i64 0, .int .i64 0] 155)) := ⟨rfl, rfl, rfl, by simp, fun j hj _ => Below.heap_alloc _ _ _ hj⟩
      have HR := Lib.hid (refresh_any w.heap.size .nil .nil x 0 0 0 k1 _ hN trivial trivial (by simp [Tn.bl]) (by simp [Tn.bl]) (by simp only [Tn.sz] at hz ⊢; omega) (by simp only [Tn.ds]; omega))
      have HO := Lib.hid hO
      clear hN hO
      generalize w.alloc (.cells #[.pointer none, .pointer none, .int .i64 x, .int .i64 (k1 : Nat), .int .i64 0, .int .i64 0, .int .i64 0] 155) = w1 at *
      refine HR.out.mono ?_
      rintro e w2 ⟨rfl, ht2, ho2, hs2⟩
      have HT := Lib.hid ht2; have HO2 := Lib.hid ho2
      clear ht2 ho2 hs2 HR
      go_wp2_with fail
      go_ret
      exact ⟨.nd w.heap.size .nil .nil x k1, rfl, HT.out, by simp [Tn.ino, tlSet, hk], fun j hj => .inr (by simp [Tn.bl] at hj; omega), by simp [Tn.bl], HO.out.trans HO2.out (fun j hj => .inr (by simp at hj; omega))⟩
  | nd b l r y s ihl ihr =>
    intro w hT hnd hc hcl hcc hsr hg hz hd
    obtain ⟨q1, q2, q3, q4⟩ := srt_parts hsr
    have c0 : w.cell? ⟨b, 0, none⟩ = some (.pointer l.adr) := hT.1.c0
    have c1 : w.cell? ⟨b, 1, none⟩ = some (.pointer r.adr) := hT.1.c1
    have c2 := hT.1.c2
    have HT := Lib.hid hT; have HND := Lib.hid hnd; have HZ := Lib.hid hz; have HD := Lib.hid hd
    have hbb := List.nodup_cons.1 hnd
    obtain ⟨n1, n2, n3⟩ := List.nodup_append.1 hbb.2
    have hbl : b ∉ l.bl := fun c => hbb.1 (by simp [c])
    have hbr : b ∉ r.bl := fun c => hbb.1 (by simp [c])
    have HB := Lib.hid (And.intro hbl (And.intro hbr (And.intro n1 (And.intro n2 n3))))
    have hcl2 : c ∉ l.bl ∧ c ∉ r.bl ∧ c ≠ b := by simpa [Tn.bl, and_assoc, and_comm, and_left_comm] using hc
    have hsz : (Tn.nd b l r y s).sz = s + l.sz + r.sz := rfl
    have hds : (Tn.nd b l r y s).ds = 1 + l.ds + r.ds := rfl
    show Calls _ _ #[.pointer (some ⟨b, 0, none⟩), .int .i64 x, .func (.func n) #[] #[.pointer (some ⟨c, 0, none⟩)]] _ _
    rcases Int.lt_trichotomy x y with hxy | hxy | hxy
    · have hgl : getC l.ino x = k0 := by
        rw [← hg, Tn.ino, getC_left (fun q hq => by
          rcases List.mem_cons.1 hq with rfl | hq
          · show y ≠ x; omega
          · have := q4 q hq; omega)]
      have hset : tlSet (Tn.nd b l r y s).ino x k1 = tlSet l.ino x k1 ++ (y, s) :: r.ino := by
        exact setC_lt hxy
      have HI := Lib.hid (ihl w.drew (hT.2.1.keep fun j _ => rfl) n1 hcl2.1 hcl hcc q1 hgl (by omega) (by omega))
      have HSet := Lib.hid hset
      have hdj : ∀ j, j ∈ r.bl → j ∉ l.bl := fun j hj c => n3 j c j hj rfl
      have HDj := Lib.hid hdj
      have hk2 := setC_sz (x := x) (k := k1) q1
      have hk3 := setC_len l.ino x k1
      rw [← Tn.sz_ino] at hk2
      rw [← Tn.ds_ino] at hk3
      clear hT hnd hz hd hg hsr q1 q2 q3 q4 hbb n1 n2 n3 hbl hbr ihl ihr hc hcc hgl hset hdj
      go_enter Tryz.func81, Tryz.ntmps81
      go_wp2_with fail
      have HS : True := trivial
      refine region_plain (fun _ => True) (by kernel_rfl) ?_
      refine take_at (i := 0) (d := 53) (v := ?_) rfl rfl (by kernel_rfl) (by kernel_rfl) (by kernel_rfl) (fun _ _ _ _ => NormalOnly.any) rfl ?hy1 HS ?rest1
      case hy1 => intro w' hSw; (try dsimp only at hSw); go_simp; try (with_reducible rfl)
      try simp only [List.setIfInBounds_toArray, List.set_cons_zero, List.set_cons_succ]
      refine take_at (i := 1) (d := 54) (v := ?_) rfl rfl (by kernel_rfl) (by kernel_rfl) (by kernel_rfl) (fun _ _ _ _ => NormalOnly.any) rfl ?hy2 HS ?rest2
      case hy2 => intro w' hSw; (try dsimp only at hSw); go_simp; try (with_reducible rfl)
      try simp only [List.setIfInBounds_toArray, List.set_cons_zero, List.set_cons_succ]
      refine take_at (i := 2) (d := 55) (v := ?_) rfl rfl (by kernel_rfl) (by kernel_rfl) (by kernel_rfl) (fun _ _ _ _ => NormalOnly.any) rfl ?hy3 HS ?rest3
      case hy3 => intro w' hSw; (try dsimp only at hSw); go_simp; try (with_reducible rfl)
      try simp only [List.setIfInBounds_toArray, List.set_cons_zero, List.set_cons_succ]
      refine take_at (i := 3) (d := 56) (v := ?_) rfl rfl (by kernel_rfl) (by kernel_rfl) (by kernel_rfl) (fun _ _ _ _ => NormalOnly.any) rfl ?hy4 HS ?rest4
      case hy4 => intro w' hSw; (try dsimp only at hSw); go_simp; try (with_reducible rfl)
      try simp only [List.setIfInBounds_toArray, List.set_cons_zero, List.set_cons_succ]
      refine take_at (i := 4) (d := 57) (v := ?_) rfl rfl (by kernel_rfl) (by kernel_rfl) (by kernel_rfl) (fun _ _ _ _ => NormalOnly.any) rfl ?hy5 HS ?rest5
      case hy5 => intro w' hSw; (try dsimp only at hSw); go_simp; try (with_reducible rfl)
      try simp only [List.setIfInBounds_toArray, List.set_cons_zero, List.set_cons_succ]
      refine take_at (i := 6) (d := 59) (v := ?_) rfl rfl (by kernel_rfl) (by kernel_rfl) (by kernel_rfl) (fun _ _ _ _ => NormalOnly.any) rfl ?hy6 HS ?rest6
      case hy6 => intro w' hSw; (try dsimp only at hSw); go_simp; try (with_reducible rfl)
      try simp only [List.setIfInBounds_toArray, List.set_cons_zero, List.set_cons_succ]
      refine take_at (i := 7) (d := 60) (v := ?_) rfl rfl (by kernel_rfl) (by kernel_rfl) (by kernel_rfl) (fun _ _ _ _ => NormalOnly.any) rfl ?hy7 HS ?rest7
      case hy7 => intro w' hSw; (try dsimp only at hSw); go_simp; try (with_reducible rfl)
      try simp only [List.setIfInBounds_toArray, List.set_cons_zero, List.set_cons_succ]
      refine take_at (i := 9) (d := 62) (v := ?_) rfl rfl (by kernel_rfl) (by kernel_rfl) (by kernel_rfl) (fun _ _ _ _ => NormalOnly.any) rfl ?hy8 HS ?rest8
      case hy8 => intro w' hSw; (try dsimp only at hSw); go_simp; try (with_reducible rfl)
      try simp only [List.setIfInBounds_toArray, List.set_cons_zero, List.set_cons_succ]
      refine take_at (i := 10) (d := 63) (v := ?_) rfl rfl (by kernel_rfl) (by kernel_rfl) (by kernel_rfl) (fun _ _ _ _ => NormalOnly.any) rfl ?hy9 HS ?rest9
      case hy9 => intro w' hSw; (try dsimp only at hSw); go_simp; try (with_reducible rfl)
      try simp only [List.setIfInBounds_toArray, List.set_cons_zero, List.set_cons_succ]
      refine wpAnyH_ready (rs := [5]) (by kernel_rfl) (by simp) ?_
      refine AllReadyH.cons rfl (fun K hK => ?_) AllReadyH.nil
      go_simp
      refine hK.out _ _ trivial (fun _ => ?_)
      clear hK
      refine wpAnyH_ready (rs := [8]) (by kernel_rfl) (by simp) ?_
      refine AllReadyH.cons rfl (fun K hK => ?_) AllReadyH.nil
      go_simp
      refine HI.out.mono ?_
      rintro e w1 ⟨t1, rfl, hT1, hi1, hm1, hn1, ho1⟩
      unfold Tn.ptr
      have hN1 := (HT.out.1.of_block (w' := w.drew) rfl).off ho1 HB.out.1
      have k0 := hN1.c0
      have f0 := hN1.fz 0
      refine hK.out _ _ trivial (fun _ => ?_)
      clear hK
      have HT1 := Lib.hid hT1; have HI1 := Lib.hid hi1; have HM1 := Lib.hid hm1; have HN1' := Lib.hid hn1; have HO1 := Lib.hid ho1; have HN1 := Lib.hid hN1
      clear hT1 hi1 hm1 hn1 ho1 hN1 HI
      refine take_at (i := 11) (d := 64) (v := ?_) rfl rfl (by kernel_rfl) (by kernel_rfl) (by kernel_rfl) (fun _ _ _ _ => NormalOnly.any) rfl ?hy10 HS ?rest10
      case hy10 => intro w' hSw; (try dsimp only at hSw); go_simp; try (with_reducible rfl)
      try simp only [List.setIfInBounds_toArray, List.set_cons_zero, List.set_cons_succ]
      refine wpAnyH_ready (rs := [12]) (by kernel_rfl) (by simp) ?_
      refine AllReadyH.cons rfl (fun K hK => ?_) AllReadyH.nil
      go_simp
      refine hK.out _ _ trivial (fun _ => ?_)
      clear hK
      refine wpAnyH_done (by kernel_rfl) ⟨rfl, ?_⟩ _
      clear k0 f0
      have hbw : b < w.heap.size := HT.out.1.lt
      have hm : ∀ j, j ∈ t1.bl → j ∈ l.bl ∨ w.heap.size ≤ j := HM1.out
      have hbt : b ∉ t1.bl := fun c => (hm b c).elim HB.out.1 fun e => by omega
      have N2 := HN1.out.set0 (.pointer t1.adr)
      have T2 := HT1.out.set (p := ⟨b, 0, none⟩) hbt (.pointer t1.adr)
      have O2 := (HO1.out.tat (HT.out.2.2.keep (w' := w.drew) fun j _ => rfl) HDj.out).set (p := ⟨b, 0, none⟩) HB.out.2.1 (.pointer t1.adr)
      have hO2 : Off (Tn.nd b l r y s).bl w (w1.setCell ⟨b, 0, none⟩ (.pointer t1.adr)) := (((Off.refl _ w).drew).trans HO1.out (fun j hj => .inl (by simp [Tn.bl, hj]))).setCell (p := ⟨b, 0, none⟩) (by simp [Tn.bl]) _
      have hto : ∀ j, j ∈ t1.bl → j ∉ r.bl := fun j hj c => (hm j hj).elim (HDj.out j c) fun e => by have := HT.out.2.2.lt j c; omega
      have hnd2 : (b :: (t1.bl ++ r.bl)).Nodup := List.nodup_cons.2 ⟨fun c => by
        rcases List.mem_append.1 c with c | c
        · exact hbt c
        · exact HB.out.2.1 c, List.nodup_append.2 ⟨HN1'.out, HB.out.2.2.2.1, fun a ha c hc e => by subst e; exact hto a ha hc⟩⟩
      have ez := Tn.sz_ino t1; have ed := Tn.ds_ino t1
      rw [HI1.out] at ez ed
      have HB2 := Lib.hid (balance_any b t1 r y _ _ _ s _ N2 T2 O2 hnd2 (by have := HZ.out; simp only [Tn.sz] at this ⊢; omega) (by have := HD.out; simp only [Tn.ds] at this ⊢; omega))
      have HO2 := Lib.hid hO2; have HM := Lib.hid hm; have HND2 := Lib.hid hnd2
      clear N2 T2 O2 hO2 hm hto hnd2 hbt ez ed
      generalize w1.setCell ⟨b, 0, none⟩ (.pointer t1.adr) = w2 at *
      go_wp2_with fail
      refine HB2.out.mono ?_
      rintro e w3 ⟨t2, rfl, ht2, hi2, hp2, ho2, _⟩
      unfold Tn.ptr
      go_wp2_with fail
      go_ret
      have hmem : ∀ j, j ∈ b :: (t1.bl ++ r.bl) → j ∈ (Tn.nd b l r y s).bl ∨ w.heap.size ≤ j := fun j hj => by
        simp only [Tn.bl, List.mem_cons, List.mem_append] at hj ⊢
        rcases hj with hj | hj | hj
        · exact .inl (.inl hj)
        · exact (HM.out j hj).elim (fun h => .inl (.inr (.inl h))) .inr
        · exact .inl (.inr (.inr hj))
      refine ⟨t2, rfl, ht2, by rw [hi2, HI1.out, HSet.out], fun j hj => hmem j (hp2.subset hj), hp2.nodup_iff.2 HND2.out, HO2.out.trans ho2 hmem⟩
    · subst hxy
      have hs0 : s = k0 := by
        rw [← hg, Tn.ino, getC_app (fun q hq => by have := q3 q hq; omega)]; simp [getC]
      subst hs0
      have c3 := hT.1.c3
      have f3 := hT.1.fz 3
      have HSet : Hid (tlSet (Tn.nd b l r x s).ino x k1 = if k1 = 0 then l.ino ++ r.ino else l.ino ++ (x, k1) :: r.ino) := Lib.hid (by
        rw [Tn.ino, setC_gt q3, tlSet, if_neg (by omega), if_pos rfl]; split <;> rfl)
      have HQ := Lib.hid (HF.out w hcc)
      clear hT hnd hz hd hg hsr q1 q2 q3 q4 hbb n1 n2 n3 hbl hbr ihl ihr hc hcc
      go_enter Tryz.func81, Tryz.ntmps81
      go_wp2_with fail
      refine HQ.out.mono ?_
      rintro e w' ⟨rfl, rfl⟩
      clear HQ
      have k0 : (w.setCell ⟨b, 3, none⟩ (.int .i64 (k1 : Nat))).cell? ⟨b, 0, none⟩ = some (.pointer l.adr) := (HT.out.1.set3 _).c0
      have k1' : (w.setCell ⟨b, 3, none⟩ (.int .i64 (k1 : Nat))).cell? ⟨b, 1, none⟩ = some (.pointer r.adr) := (HT.out.1.set3 _).c1
      have k3 : (w.setCell ⟨b, 3, none⟩ (.int .i64 (k1 : Nat))).cell? ⟨b, 3, none⟩ = some (.int .i64 (k1 : Nat)) := (HT.out.1.set3 _).c3
      have hN1 := HT.out.1.set3 (k1 : Nat)
      have hL1 := HT.out.2.1.set (p := ⟨b, 3, none⟩) HB.out.1 (.int .i64 (k1 : Nat))
      have hR1 := HT.out.2.2.set (p := ⟨b, 3, none⟩) HB.out.2.1 (.int .i64 (k1 : Nat))
      have hO1 := (Off.refl (Tn.nd b l r x s).bl w).setCell (p := ⟨b, 3, none⟩) (by simp [Tn.bl]) (.int .i64 (k1 : Nat))
      have HN1 := Lib.hid hN1; have HL1 := Lib.hid hL1; have HR1 := Lib.hid hR1; have HO1 := Lib.hid hO1
      have hS1 : (w.setCell ⟨b, 3, none⟩ (.int .i64 (k1 : Nat))).heap.size = w.heap.size := by simp [World.setCell]
      have HS1 := Lib.hid hS1
      have hz := HZ.out; have hd := HD.out
      clear hN1 hL1 hR1 hO1 hS1 hcl hcl2
      by_cases hk : k1 = 0
      · subst hk
        have d1 : (((0 : Nat) : Int) == 0) = true := rfl
        go_wp2_with fail
        have j0 : (w.setCell ⟨b, 3, none⟩ (.int .i64 0)).cell? ⟨b, 0, none⟩ = some (.pointer l.adr) := k0
        have j1 : (w.setCell ⟨b, 3, none⟩ (.int .i64 0)).cell? ⟨b, 1, none⟩ = some (.pointer r.adr) := k1'
        clear k0 k1' k3
        have HJ := Lib.hid (join_any l r (w.setCell ⟨b, 3, none⟩ (.int .i64 0)).drew (HL1.out.keep fun j _ => rfl) (HR1.out.keep fun j _ => rfl) (List.nodup_append.2 HB.out.2.2) (by omega) (by omega))
        have HO3 := Lib.hid (show Off (Tn.nd b l r x s).bl w (w.setCell ⟨b, 3, none⟩ (.int .i64 0)).drew from HO1.out.drew)
        have HS : True := trivial
        refine region_plain (fun _ => True) (by kernel_rfl) ?_
        refine take_at (i := 0) (d := 35) (v := ?_) rfl rfl (by kernel_rfl) (by kernel_rfl) (by kernel_rfl) (fun _ _ _ _ => NormalOnly.any) rfl ?hy11 HS ?rest11
        case hy11 => intro w' hSw; (try dsimp only at hSw); go_simp; try (with_reducible rfl)
        try simp only [List.setIfInBounds_toArray, List.set_cons_zero, List.set_cons_succ]
        refine take_at (i := 1) (d := 36) (v := ?_) rfl rfl (by kernel_rfl) (by kernel_rfl) (by kernel_rfl) (fun _ _ _ _ => NormalOnly.any) rfl ?hy12 HS ?rest12
        case hy12 => intro w' hSw; (try dsimp only at hSw); go_simp; try (with_reducible rfl)
        try simp only [List.setIfInBounds_toArray, List.set_cons_zero, List.set_cons_succ]
        refine take_at (i := 2) (d := 37) (v := ?_) rfl rfl (by kernel_rfl) (by kernel_rfl) (by kernel_rfl) (fun _ _ _ _ => NormalOnly.any) rfl ?hy13 HS ?rest13
        case hy13 => intro w' hSw; (try dsimp only at hSw); go_simp; try (with_reducible rfl)
        try simp only [List.setIfInBounds_toArray, List.set_cons_zero, List.set_cons_succ]
        refine take_at (i := 3) (d := 38) (v := ?_) rfl rfl (by kernel_rfl) (by kernel_rfl) (by kernel_rfl) (fun _ _ _ _ => NormalOnly.any) rfl ?hy14 HS ?rest14
        case hy14 => intro w' hSw; (try dsimp only at hSw); go_simp; try (with_reducible rfl)
        try simp only [List.setIfInBounds_toArray, List.set_cons_zero, List.set_cons_succ]
        refine take_at (i := 5) (d := 40) (v := ?_) rfl rfl (by kernel_rfl) (by kernel_rfl) (by kernel_rfl) (fun _ _ _ _ => NormalOnly.any) rfl ?hy15 HS ?rest15
        case hy15 => intro w' hSw; (try dsimp only at hSw); go_simp; try (with_reducible rfl)
        try simp only [List.setIfInBounds_toArray, List.set_cons_zero, List.set_cons_succ]
        refine take_at (i := 6) (d := 41) (v := ?_) rfl rfl (by kernel_rfl) (by kernel_rfl) (by kernel_rfl) (fun _ _ _ _ => NormalOnly.any) rfl ?hy16 HS ?rest16
        case hy16 => intro w' hSw; (try dsimp only at hSw); go_simp; try (with_reducible rfl)
        try simp only [List.setIfInBounds_toArray, List.set_cons_zero, List.set_cons_succ]
        refine take_at (i := 7) (d := 42) (v := ?_) rfl rfl (by kernel_rfl) (by kernel_rfl) (by kernel_rfl) (fun _ _ _ _ => NormalOnly.any) rfl ?hy17 HS ?rest17
        case hy17 => intro w' hSw; (try dsimp only at hSw); go_simp; try (with_reducible rfl)
        try simp only [List.setIfInBounds_toArray, List.set_cons_zero, List.set_cons_succ]
        refine take_at (i := 8) (d := 43) (v := ?_) rfl rfl (by kernel_rfl) (by kernel_rfl) (by kernel_rfl) (fun _ _ _ _ => NormalOnly.any) rfl ?hy18 HS ?rest18
        case hy18 => intro w' hSw; (try dsimp only at hSw); go_simp; try (with_reducible rfl)
        try simp only [List.setIfInBounds_toArray, List.set_cons_zero, List.set_cons_succ]
        refine wpAnyH_ready (rs := [4, 9]) (by kernel_rfl) (by simp) ?_
        refine AllReadyH.cons rfl (fun K hK => ?_) (AllReadyH.cons rfl (fun K hK => ?_) AllReadyH.nil)
        · go_simp
          refine hK.out _ _ trivial (fun _ => ?_)
          clear hK
          refine wpAnyH_ready (rs := [9]) (by kernel_rfl) (by simp) ?_
          refine AllReadyH.cons rfl (fun K hK => ?_) AllReadyH.nil
          go_simp
          refine hK.out _ _ trivial (fun _ => ?_)
          clear hK
          refine wpAnyH_ready (rs := [10]) (by kernel_rfl) (by simp) ?_
          refine AllReadyH.cons rfl (fun K hK => ?_) AllReadyH.nil
          go_simp
          refine HJ.out.mono ?_
          rintro e w2 ⟨t2, rfl, ht2, hi2, hp2, ho2, _⟩
          unfold Tn.ptr
          refine hK.out _ _ trivial (fun _ => ?_)
          clear hK
          refine take_at (i := 11) (d := 6) (v := ?_) rfl rfl (by kernel_rfl) (by kernel_rfl) (by kernel_rfl) (fun _ _ _ _ => NormalOnly.any) rfl ?hy19 HS ?rest19
          case hy19 => intro w' hSw; (try dsimp only at hSw); go_simp; try (with_reducible rfl)
          try simp only [List.setIfInBounds_toArray, List.set_cons_zero, List.set_cons_succ]
          refine wpAnyH_done (by kernel_rfl) ⟨rfl, ?_⟩ _
          go_wp2_with fail
          go_ret
          refine ⟨t2, rfl, ht2, by rw [hi2, HSet.out]; simp, fun j hj => .inl (by simp [Tn.bl]; have := hp2.subset hj; simp at this; exact .inr this), hp2.nodup_iff.2 (List.nodup_append.2 HB.out.2.2), HO3.out.trans ho2 (fun j hj => .inl (by simp [Tn.bl]; simp at hj; exact .inr hj))⟩
        · go_simp
          refine hK.out _ _ trivial (fun _ => ?_)
          clear hK
          refine wpAnyH_ready (rs := [4]) (by kernel_rfl) (by simp) ?_
          refine AllReadyH.cons rfl (fun K hK => ?_) AllReadyH.nil
          go_simp
          refine hK.out _ _ trivial (fun _ => ?_)
          clear hK
          refine wpAnyH_ready (rs := [10]) (by kernel_rfl) (by simp) ?_
          refine AllReadyH.cons rfl (fun K hK => ?_) AllReadyH.nil
          go_simp
          refine HJ.out.mono ?_
          rintro e w2 ⟨t2, rfl, ht2, hi2, hp2, ho2, _⟩
          unfold Tn.ptr
          refine hK.out _ _ trivial (fun _ => ?_)
          clear hK
          refine take_at (i := 11) (d := 6) (v := ?_) rfl rfl (by kernel_rfl) (by kernel_rfl) (by kernel_rfl) (fun _ _ _ _ => NormalOnly.any) rfl ?hy20 HS ?rest20
          case hy20 => intro w' hSw; (try dsimp only at hSw); go_simp; try (with_reducible rfl)
          try simp only [List.setIfInBounds_toArray, List.set_cons_zero, List.set_cons_succ]
          refine wpAnyH_done (by kernel_rfl) ⟨rfl, ?_⟩ _
          go_wp2_with fail
          go_ret
          refine ⟨t2, rfl, ht2, by rw [hi2, HSet.out]; simp, fun j hj => .inl (by simp [Tn.bl]; have := hp2.subset hj; simp at this; exact .inr this), hp2.nodup_iff.2 (List.nodup_append.2 HB.out.2.2), HO3.out.trans ho2 (fun j hj => .inl (by simp [Tn.bl]; simp at hj; exact .inr hj))⟩
      · have d1 : (((k1 : Nat) : Int) == 0) = false := by simpa using hk
        have d2 : decide (((k1 : Nat) : Int) = 0) = false := decide_eq_false (by omega)
        have HBl := Lib.hid (balance_any b l r x _ _ _ k1 _ HN1.out HL1.out HR1.out HND.out (by simp only [Tn.sz]; omega) (by simp only [Tn.ds]; omega))
        go_wp2_with fail
        refine HBl.out.mono ?_
        rintro e w2 ⟨t2, rfl, ht2, hi2, hp2, ho2, _⟩
        unfold Tn.ptr
        go_wp2_with fail
        go_ret
        refine ⟨t2, rfl, ht2, by rw [hi2, HSet.out, if_neg hk], fun j hj => .inl (hp2.subset hj), hp2.nodup_iff.2 HND.out, HO1.out.trans ho2 (fun j hj => .inl hj)⟩
    · have hgl : getC r.ino x = k0 := by
        rw [← hg, Tn.ino, getC_app (fun q hq => by have := q3 q hq; omega), getC, if_neg (by show ¬ y = x; omega)]
      have hset : tlSet (Tn.nd b l r y s).ino x k1 = l.ino ++ (y, s) :: tlSet r.ino x k1 := by
        rw [Tn.ino, setC_gt (fun q hq => by have := q3 q hq; omega), tlSet, if_neg (by show ¬ x < y; omega), if_neg (by show ¬ x = y; omega)]
      have HI := Lib.hid (ihr w.drew (hT.2.2.keep fun j _ => rfl) n2 hcl2.2.1 hcl hcc q2 hgl (by omega) (by omega))
      have HSet := Lib.hid hset
      have hdj : ∀ j, j ∈ l.bl → j ∉ r.bl := fun j hj c => n3 j hj j c rfl
      have HDj := Lib.hid hdj
      have hk2 := setC_sz (x := x) (k := k1) q2
      have hk3 := setC_len r.ino x k1
      rw [← Tn.sz_ino] at hk2
      rw [← Tn.ds_ino] at hk3
      clear hT hnd hz hd hg hsr q1 q2 q3 q4 hbb n1 n2 n3 hbl hbr ihl ihr hc hcc hgl hset hdj
      go_enter Tryz.func81, Tryz.ntmps81
      go_wp2_with fail
      have HS : True := trivial
      refine region_plain (fun _ => True) (by kernel_rfl) ?_
      refine take_at (i := 0) (d := 72) (v := ?_) rfl rfl (by kernel_rfl) (by kernel_rfl) (by kernel_rfl) (fun _ _ _ _ => NormalOnly.any) rfl ?hy21 HS ?rest21
      case hy21 => intro w' hSw; (try dsimp only at hSw); go_simp; try (with_reducible rfl)
      try simp only [List.setIfInBounds_toArray, List.set_cons_zero, List.set_cons_succ]
      refine take_at (i := 1) (d := 73) (v := ?_) rfl rfl (by kernel_rfl) (by kernel_rfl) (by kernel_rfl) (fun _ _ _ _ => NormalOnly.any) rfl ?hy22 HS ?rest22
      case hy22 => intro w' hSw; (try dsimp only at hSw); go_simp; try (with_reducible rfl)
      try simp only [List.setIfInBounds_toArray, List.set_cons_zero, List.set_cons_succ]
      refine take_at (i := 2) (d := 74) (v := ?_) rfl rfl (by kernel_rfl) (by kernel_rfl) (by kernel_rfl) (fun _ _ _ _ => NormalOnly.any) rfl ?hy23 HS ?rest23
      case hy23 => intro w' hSw; (try dsimp only at hSw); go_simp; try (with_reducible rfl)
      try simp only [List.setIfInBounds_toArray, List.set_cons_zero, List.set_cons_succ]
      refine take_at (i := 3) (d := 75) (v := ?_) rfl rfl (by kernel_rfl) (by kernel_rfl) (by kernel_rfl) (fun _ _ _ _ => NormalOnly.any) rfl ?hy24 HS ?rest24
      case hy24 => intro w' hSw; (try dsimp only at hSw); go_simp; try (with_reducible rfl)
      try simp only [List.setIfInBounds_toArray, List.set_cons_zero, List.set_cons_succ]
      refine take_at (i := 4) (d := 76) (v := ?_) rfl rfl (by kernel_rfl) (by kernel_rfl) (by kernel_rfl) (fun _ _ _ _ => NormalOnly.any) rfl ?hy25 HS ?rest25
      case hy25 => intro w' hSw; (try dsimp only at hSw); go_simp; try (with_reducible rfl)
      try simp only [List.setIfInBounds_toArray, List.set_cons_zero, List.set_cons_succ]
      refine take_at (i := 6) (d := 78) (v := ?_) rfl rfl (by kernel_rfl) (by kernel_rfl) (by kernel_rfl) (fun _ _ _ _ => NormalOnly.any) rfl ?hy26 HS ?rest26
      case hy26 => intro w' hSw; (try dsimp only at hSw); go_simp; try (with_reducible rfl)
      try simp only [List.setIfInBounds_toArray, List.set_cons_zero, List.set_cons_succ]
      refine take_at (i := 7) (d := 79) (v := ?_) rfl rfl (by kernel_rfl) (by kernel_rfl) (by kernel_rfl) (fun _ _ _ _ => NormalOnly.any) rfl ?hy27 HS ?rest27
      case hy27 => intro w' hSw; (try dsimp only at hSw); go_simp; try (with_reducible rfl)
      try simp only [List.setIfInBounds_toArray, List.set_cons_zero, List.set_cons_succ]
      refine take_at (i := 9) (d := 81) (v := ?_) rfl rfl (by kernel_rfl) (by kernel_rfl) (by kernel_rfl) (fun _ _ _ _ => NormalOnly.any) rfl ?hy28 HS ?rest28
      case hy28 => intro w' hSw; (try dsimp only at hSw); go_simp; try (with_reducible rfl)
      try simp only [List.setIfInBounds_toArray, List.set_cons_zero, List.set_cons_succ]
      refine take_at (i := 10) (d := 82) (v := ?_) rfl rfl (by kernel_rfl) (by kernel_rfl) (by kernel_rfl) (fun _ _ _ _ => NormalOnly.any) rfl ?hy29 HS ?rest29
      case hy29 => intro w' hSw; (try dsimp only at hSw); go_simp; try (with_reducible rfl)
      try simp only [List.setIfInBounds_toArray, List.set_cons_zero, List.set_cons_succ]
      refine wpAnyH_ready (rs := [5]) (by kernel_rfl) (by simp) ?_
      refine AllReadyH.cons rfl (fun K hK => ?_) AllReadyH.nil
      go_simp
      refine hK.out _ _ trivial (fun _ => ?_)
      clear hK
      refine wpAnyH_ready (rs := [8]) (by kernel_rfl) (by simp) ?_
      refine AllReadyH.cons rfl (fun K hK => ?_) AllReadyH.nil
      go_simp
      refine HI.out.mono ?_
      rintro e w1 ⟨t1, rfl, hT1, hi1, hm1, hn1, ho1⟩
      unfold Tn.ptr
      have hN1 := (HT.out.1.of_block (w' := w.drew) rfl).off ho1 HB.out.2.1
      have k0 := hN1.c1
      have f0 := hN1.fz 1
      refine hK.out _ _ trivial (fun _ => ?_)
      clear hK
      have HT1 := Lib.hid hT1; have HI1 := Lib.hid hi1; have HM1 := Lib.hid hm1; have HN1' := Lib.hid hn1; have HO1 := Lib.hid ho1; have HN1 := Lib.hid hN1
      clear hT1 hi1 hm1 hn1 ho1 hN1 HI
      refine take_at (i := 11) (d := 83) (v := ?_) rfl rfl (by kernel_rfl) (by kernel_rfl) (by kernel_rfl) (fun _ _ _ _ => NormalOnly.any) rfl ?hy30 HS ?rest30
      case hy30 => intro w' hSw; (try dsimp only at hSw); go_simp; try (with_reducible rfl)
      try simp only [List.setIfInBounds_toArray, List.set_cons_zero, List.set_cons_succ]
      refine wpAnyH_ready (rs := [12]) (by kernel_rfl) (by simp) ?_
      refine AllReadyH.cons rfl (fun K hK => ?_) AllReadyH.nil
      go_simp
      refine hK.out _ _ trivial (fun _ => ?_)
      clear hK
      refine wpAnyH_done (by kernel_rfl) ⟨rfl, ?_⟩ _
      clear k0 f0
      have hbw : b < w.heap.size := HT.out.1.lt
      have hm : ∀ j, j ∈ t1.bl → j ∈ r.bl ∨ w.heap.size ≤ j := HM1.out
      have hbt : b ∉ t1.bl := fun c => (hm b c).elim HB.out.2.1 fun e => by omega
      have N2 := HN1.out.set1 (.pointer t1.adr)
      have T2 := HT1.out.set (p := ⟨b, 1, none⟩) hbt (.pointer t1.adr)
      have O2 := (HO1.out.tat (HT.out.2.1.keep (w' := w.drew) fun j _ => rfl) HDj.out).set (p := ⟨b, 1, none⟩) HB.out.1 (.pointer t1.adr)
      have hO2 : Off (Tn.nd b l r y s).bl w (w1.setCell ⟨b, 1, none⟩ (.pointer t1.adr)) := (((Off.refl _ w).drew).trans HO1.out (fun j hj => .inl (by simp [Tn.bl, hj]))).setCell (p := ⟨b, 1, none⟩) (by simp [Tn.bl]) _
      have hto : ∀ j, j ∈ t1.bl → j ∉ l.bl := fun j hj c => (hm j hj).elim (HDj.out j c) fun e => by have := HT.out.2.1.lt j c; omega
      have hnd2 : (b :: (l.bl ++ t1.bl)).Nodup := List.nodup_cons.2 ⟨fun c => by
        rcases List.mem_append.1 c with c | c
        · exact HB.out.1 c
        · exact hbt c, List.nodup_append.2 ⟨HB.out.2.2.1, HN1'.out, fun a ha c hc e => by subst e; exact hto a hc ha⟩⟩
      have ez := Tn.sz_ino t1; have ed := Tn.ds_ino t1
      rw [HI1.out] at ez ed
      have HB2 := Lib.hid (balance_any b l t1 y _ _ _ s _ N2 O2 T2 hnd2 (by have := HZ.out; simp only [Tn.sz] at this ⊢; omega) (by have := HD.out; simp only [Tn.ds] at this ⊢; omega))
      have HO2 := Lib.hid hO2; have HM := Lib.hid hm; have HND2 := Lib.hid hnd2
      clear N2 T2 O2 hO2 hm hto hnd2 hbt ez ed
      generalize w1.setCell ⟨b, 1, none⟩ (.pointer t1.adr) = w2 at *
      go_wp2_with fail
      refine HB2.out.mono ?_
      rintro e w3 ⟨t2, rfl, ht2, hi2, hp2, ho2, _⟩
      unfold Tn.ptr
      go_wp2_with fail
      go_ret
      have hmem : ∀ j, j ∈ b :: (l.bl ++ t1.bl) → j ∈ (Tn.nd b l r y s).bl ∨ w.heap.size ≤ j := fun j hj => by
        simp only [Tn.bl, List.mem_cons, List.mem_append] at hj ⊢
        rcases hj with hj | hj | hj
        · exact .inl (.inl hj)
        · exact .inl (.inr (.inl hj))
        · exact (HM.out j hj).elim (fun h => .inl (.inr (.inr h))) .inr
      refine ⟨t2, rfl, ht2, by rw [hi2, HI1.out, HSet.out], fun j hj => hmem j (hp2.subset hj), hp2.nodup_iff.2 HND2.out, HO2.out.trans ho2 hmem⟩

end Go.Proofs.YtpbgophogneecaaGreat

/- The walks of package bag: New, Size, Count, Add, Remove, Max. Conditions: the bag was made by New; it has at most some hundred thousand numbers. -/
namespace Go.Proofs.YtpbgophogneecaaGreat
open Go.RowKit

/-- a bag in memory -/
structure BagAt (w : World) (bb : Nat) (t : Tn) : Prop where
  row : Row w bb 2 (fun i => (#[Value.pointer (some ⟨bb, 0, none⟩), t.ptr] : Array Value).getD i undef)
  tr : TAt w t
  nd : (bb :: t.bl).Nodup
  srt : SrtC t.ino
section
variable {w w' : World} {bb : Nat} {t : Tn}
theorem BagAt.c0 (h : BagAt w bb t) : w.cell? ⟨bb, 0, none⟩ = some (.pointer (some ⟨bb, 0, none⟩)) := h.row.cell (i := 0) (by omega)
theorem BagAt.c1 (h : BagAt w bb t) : w.cell? ⟨bb, 1, none⟩ = some (.pointer t.adr) := h.row.cell (i := 1) (by omega)
theorem BagAt.keep (h : BagAt w bb t) (e : ∀ j ∈ bb :: t.bl, w'.heap[j]? = w.heap[j]?) : BagAt w' bb t := ⟨h.row.of_block (e bb (by simp)), h.tr.keep fun j hj => e j (by simp [hj]), h.nd, h.srt⟩
theorem BagAt.dn (h : BagAt w bb t) (q : Nat) : BagAt (w.drewN q) bb t := h.keep fun j _ => by simp
theorem BagAt.lt (h : BagAt w bb t) : ∀ j ∈ bb :: t.bl, j < w.heap.size := fun j hj => by
  rcases List.mem_cons.1 hj with rfl | hj
  · exact h.row.lt
  · exact h.tr.lt j hj
end
set_option maxRecDepth 100000 in
set_option maxHeartbeats 1000000 in
theorem bagnew_any (w : World) : Calls Tryz.prog 50 #[] w fun e w' => e = .returned (.pointer (some ⟨w.heap.size, 0, none⟩)) ∧ BagAt w' w.heap.size .nil ∧ Below w.heap.size w w' ∧ w'.heap.size = w.heap.size + 1 := by
  go_enter Tryz.func50, Tryz.ntmps50
  go_wp2_with fail
  go_ret
  have hr : Row (w.alloc (.cells #[.pointer (some ⟨w.heap.size, 0, none⟩), .pointer none] 135)) w.heap.size 2 (fun i => (#[Value.pointer (some ⟨w.heap.size, 0, none⟩), Tn.nil.ptr] : Array Value).getD i undef) := Row.lit w _ _ (by simp) fun i hi => by
    match i, hi with
    | 0, _ => rfl
    | 1, _ => rfl
    | n + 2, h => omega
  exact ⟨rfl, ⟨hr, trivial, by simp [Tn.bl], by simp [SrtC, Tn.ino]⟩, (Below.refl _ w).alloc (Nat.le_refl _) _, by simp⟩
theorem Tryz.infoBag : (Tryz.prog.info? 135).isSome = true := by kernel_rfl
theorem bag_same (a : Addr) (w : World) : (binOp .eql 111 (.pointer (some a)) (.pointer (some a))).run Tryz.prog w = .ok (.bool true) w := by
  obtain ⟨j, hj⟩ := Option.isSome_iff_exists.1 Tryz.infoBag
  exact run_eql_ptr_same w a Tryz.underlying111 hj
section
variable {w : World} {bb : Nat} {t : Tn}
set_option maxRecDepth 100000 in
set_option maxHeartbeats 1000000 in
theorem bagvalid_any (h : BagAt w bb t) : Calls Tryz.prog 79 #[.pointer (some ⟨bb, 0, none⟩)] w fun e w' => e = .returned (.bool true) ∧ w = w' := by
  have c0 := h.c0
  have eq := bag_same ⟨bb, 0, none⟩
  clear h
  go_enter Tryz.func79, Tryz.ntmps79
  go_wp2_with fail
  go_ret
  exact ⟨rfl, rfl⟩
set_option maxRecDepth 100000 in
set_option maxHeartbeats 1000000 in
theorem bagtree_any (h : BagAt w bb t) : Calls Tryz.prog 104 #[.pointer (some ⟨bb, 0, none⟩)] w fun e w' => e = .returned t.ptr ∧ w = w' := by
  have HV := Lib.hid (bagvalid_any h)
  have c1 := h.c1
  clear h
  go_enter Tryz.func104, Tryz.ntmps104
  go_wp2_with fail
  refine HV.out.mono ?_
  rintro e w' ⟨rfl, rfl⟩
  go_wp2_with fail
  go_ret
  exact ⟨rfl, rfl⟩
set_option maxRecDepth 100000 in
set_option maxHeartbeats 1000000 in
theorem bagsize_any (h : BagAt w bb t) : Calls Tryz.prog 80 #[.pointer (some ⟨bb, 0, none⟩)] w fun e w' => e = .returned (.int .i64 (t.sz : Nat)) ∧ ∃ q, w' = w.drewN q := by
  have HV := Lib.hid (bagtree_any h)
  have HS := Lib.hid (sizes_any t w h.tr)
  clear h
  go_enter Tryz.func80, Tryz.ntmps80
  go_wp2_with fail
  refine HV.out.mono ?_
  rintro e w' ⟨rfl, rfl⟩
  go_wp2_with fail
  refine HS.out.mono ?_
  rintro e w' ⟨rfl, q, rfl⟩
  go_wp2_with fail
  go_ret
  exact ⟨rfl, q, rfl⟩
set_option maxRecDepth 100000 in
set_option maxHeartbeats 4000000 in
theorem bagcount_any (x : Int) (h : BagAt w bb t) : Calls Tryz.prog 94 #[.pointer (some ⟨bb, 0, none⟩), .int .i64 x] w fun e w' => e = .returned (.int .i64 (getC t.ino x : Nat)) ∧ w = w' := by
  have HV := Lib.hid (bagtree_any h)
  have HT := Lib.hid h.tr
  have HSr := Lib.hid h.srt
  clear h
  go_enter Tryz.func94, Tryz.ntmps94
  go_wp2_with fail
  refine HV.out.mono ?_
  rintro e w' ⟨rfl, rfl⟩
  clear HV
  unfold Tn.ptr
  go_wp2_with fail
  have e0 : (.pointer (Tn.nil.adr) : Value) = .pointer none := rfl
  go_loopg [5] t.ds (fun g nv w2 => ∃ s : Tn, nv = .pointer s.adr ∧ g = s.ds ∧ Hid (TAt w s) ∧ Hid (SrtC s.ino) ∧ Hid (getC s.ino x = getC t.ino x) ∧ w2 = w)
  case atStart => exact ⟨t, rfl, rfl, HT, HSr, Lib.hid rfl, rfl⟩
  case round =>
    obtain ⟨s, rfl, rfl, HTs, HSs, HGs, rfl⟩ := hrel
    cases s with
    | nil =>
      rw [show Tn.nil.adr = none from rfl]
      clear e0
      go_wp2_with fail
      go_ret
      exact ⟨by rw [← HGs.out]; rfl, rfl⟩
    | nd b l r y k =>
      rw [show (Tn.nd b l r y k).adr = some ⟨b, 0, none⟩ from rfl]
      have c0 : wr.cell? ⟨b, 0, none⟩ = some (.pointer l.adr) := HTs.out.1.c0
      have c1 : wr.cell? ⟨b, 1, none⟩ = some (.pointer r.adr) := HTs.out.1.c1
      have c2 := HTs.out.1.c2
      have c3 := HTs.out.1.c3
      obtain ⟨q1, q2, q3, q4⟩ := srt_parts HSs.out
      have hl : (Tn.nd b l r y k).ds = 1 + l.ds + r.ds := rfl
      have HQ := Lib.hid (And.intro q1 (And.intro q2 (And.intro q3 q4)))
      clear q1 q2 q3 q4
      rcases Int.lt_trichotomy x y with hxy | hxy | hxy
      · have d1 : (y != x) = true := by simp; omega
        have d2 : decide (y = x) = false := decide_eq_false (by omega)
        go_wp2_with fail
        go_roundg l.ds
        case measure => omega
        case rel => exact ⟨l, rfl, rfl, Lib.hid HTs.out.2.1, Lib.hid HQ.out.1, Lib.hid (by
          rw [← HGs.out, Tn.ino, getC_left (fun q hq => by
            rcases List.mem_cons.1 hq with rfl | hq
            · show y ≠ x; omega
            · have := HQ.out.2.2.2 q hq; omega)]), by first | trivial | rfl⟩
      · subst hxy
        have d1 : (x != x) = false := by simp
        have hg : getC t.ino x = k := by
          rw [← HGs.out, Tn.ino, getC_app (fun q hq => by have := HQ.out.2.2.1 q hq; omega)]; simp [getC]
        have HG := Lib.hid hg
        clear hg
        go_wp2_with fail
        go_ret
        exact ⟨by rw [HG.out]; rfl, rfl⟩
      · have d1 : (y != x) = true := by simp; omega
        have d2 : decide (y = x) = false := decide_eq_false (by omega)
        go_wp2_with fail
        go_roundg r.ds
        case measure => omega
        case rel => exact ⟨r, rfl, rfl, Lib.hid HTs.out.2.2, Lib.hid HQ.out.2.1, Lib.hid (by
          rw [← HGs.out, Tn.ino, getC_app (fun q hq => by have := HQ.out.2.2.1 q hq; omega), getC, if_neg (by show ¬ y = x; omega)]), by first | trivial | rfl⟩
set_option maxRecDepth 100000 in
set_option maxHeartbeats 4000000 in
theorem bagkth_any (k : Nat) (h : BagAt w bb t) (hk : k < t.sz) (hz : t.sz ≤ 1000000) : Calls Tryz.prog 96 #[.pointer (some ⟨bb, 0, none⟩), .int .i64 (k : Nat)] w fun e w' => e = .returned (.tuple #[.int .i64 (kthL t.ino k), .bool true]) ∧ ∃ q, w' = w.drewN q := by
  have HV := Lib.hid (bagtree_any h)
  have HS := Lib.hid (bagsize_any h)
  have HT := Lib.hid h.tr
  clear h
  go_enter Tryz.func96, Tryz.ntmps96
  go_wp2_with fail
  refine HV.out.mono ?_
  rintro e w' ⟨rfl, rfl⟩
  clear HV
  unfold Tn.ptr
  go_wp2_with fail
  refine HS.out.mono ?_
  rintro e w' ⟨rfl, q0, rfl⟩
  clear HS
  go_wp2_with fail
  simp only [show decide (t.sz ≤ k) = false from decide_eq_false (by omega), show decide ((k : Int) < 0) = false from decide_eq_false (by omega), Bool.or_false]
  go_loopg [1, 6] t.ds (fun g kv nv w2 => ∃ (s : Tn) (j q : Nat), kv = .int .i64 (j : Nat) ∧ nv = .pointer s.adr ∧ g = s.ds ∧ j < s.sz ∧ s.sz ≤ 1000000 ∧ Hid (TAt w s) ∧ Hid (kthL s.ino j = kthL t.ino k) ∧ w2 = w.drewN q)
  case atStart => exact ⟨t, k, q0, rfl, rfl, rfl, hk, hz, HT, Lib.hid rfl, rfl⟩
  case round =>
    clear HT
    obtain ⟨s, j, q, rfl, rfl, rfl, hj, hsz, HTs, HK, rfl⟩ := hrel
    cases s with
    | nil => exact absurd hj (by simp [Tn.sz])
    | nd b l r y m =>
      rw [show (Tn.nd b l r y m).adr = some ⟨b, 0, none⟩ from rfl]
      have c0 : w.cell? ⟨b, 0, none⟩ = some (.pointer l.adr) := HTs.out.1.c0
      have c1 : w.cell? ⟨b, 1, none⟩ = some (.pointer r.adr) := HTs.out.1.c1
      have c2 := HTs.out.1.c2
      have c3 := HTs.out.1.c3
      have hl : (Tn.nd b l r y m).ds = 1 + l.ds + r.ds := rfl
      have hs : (Tn.nd b l r y m).sz = m + l.sz + r.sz := rfl
      have HE : Hid (kthL (Tn.nd b l r y m).ino j = if j < l.sz then kthL l.ino j else if j < l.sz + m then y else kthL r.ino (j - (l.sz + m))) := Lib.hid (by
        rw [Tn.ino, kthL_app, ← Tn.sz_ino, kthL]
        by_cases h1 : j < l.sz
        · rw [if_pos h1, if_pos h1]
        · rw [if_neg h1, if_neg h1]
          by_cases h2 : j < l.sz + m
          · rw [if_pos (show j - l.sz < (y, m).2 by show _ < m; omega), if_pos h2]
          · rw [if_neg (show ¬ j - l.sz < (y, m).2 by show ¬ _ < m; omega), if_neg h2, show j - l.sz - (y, m).2 = j - (l.sz + m) by show j - l.sz - m = _; omega])
      go_wp2_with fail
      refine (sizes_any l _ (HTs.out.2.1.dn _)).mono ?_
      rintro e w1 ⟨rfl, q1, rfl⟩
      by_cases h1 : j < l.sz
      · have HE2 := Lib.hid (HK.out.symm.trans (HE.out.trans (if_pos h1)))
        go_wp2_with fail
        go_roundg l.ds
        case measure => omega
        case rel => exact ⟨l, j, _, rfl, rfl, rfl, h1, by omega, Lib.hid HTs.out.2.1, Lib.hid HE2.out.symm, by first | trivial | rfl⟩
      · by_cases h2 : j < l.sz + m
        · have HE2 := Lib.hid (HK.out.symm.trans (HE.out.trans ((if_neg h1).trans (if_pos h2))))
          go_wp2_with fail
          go_ret2
          exact ⟨by rw [HE2.out]; rfl, _, rfl⟩
        · have HE2 := Lib.hid (HK.out.symm.trans (HE.out.trans ((if_neg h1).trans (if_neg h2))))
          have hw : ((j : Nat) : Int) - ((l.sz : Nat) + (m : Nat)) = ((j - (l.sz + m) : Nat) : Int) := by omega
          go_wp2_with fail
          go_roundg r.ds
          case measure => omega
          case rel => exact ⟨r, j - (l.sz + m), _, rfl, rfl, rfl, by omega, by omega, Lib.hid HTs.out.2.2, Lib.hid HE2.out.symm, by first | trivial | rfl⟩
set_option maxRecDepth 100000 in
set_option maxHeartbeats 4000000 in
theorem bagmax_any (h : BagAt w bb t) (hk : 0 < t.sz) (hz : t.sz ≤ 1000000) : Calls Tryz.prog 60 #[.pointer (some ⟨bb, 0, none⟩)] w fun e w' => e = .returned (.tuple #[.int .i64 (kthL t.ino (t.sz - 1)), .bool true]) ∧ ∃ q, w' = w.drewN q := by
  have HS := Lib.hid (bagsize_any h)
  have HK := Lib.hid (fun q => bagkth_any (t.sz - 1) (h.dn q) (by omega) hz)
  have hw : ((t.sz : Nat) : Int) - 1 = ((t.sz - 1 : Nat) : Int) := by omega
  clear h
  go_enter Tryz.func60, Tryz.ntmps60
  go_wp2_with fail
  refine HS.out.mono ?_
  rintro e w' ⟨rfl, q0, rfl⟩
  clear HS
  go_wp2_with fail
  refine (HK.out _).mono ?_
  rintro e w' ⟨rfl, q1, rfl⟩
  go_wp2_with fail
  go_ret2
  exact ⟨rfl, _, rfl⟩
end
end Go.Proofs.YtpbgophogneecaaGreat

/- The walks of Add and Remove of package bag, of one number. Conditions: the bag was made by New; it has at most some hundred thousand numbers. -/
namespace Go.Proofs.YtpbgophogneecaaGreat
open Go.RowKit

/-- what Add and Remove answer: the count of a number has become k -/
def BagR (bb : Nat) (t : Tn) (x : Int) (k : Nat) (w : World) (e : Ending) (w' : World) : Prop :=
  e = .returned (.int .i64 0) ∧ ∃ t' : Tn, BagAt w' bb t' ∧ t'.ino = tlSet t.ino x k ∧ (∀ j ∈ t'.bl, j ∈ t.bl ∨ w.heap.size ≤ j) ∧ Off (bb :: t.bl) w w'
theorem callFunc_go {f : FuncId} {fn : Func} (hf : Tryz.prog.funcs[f]? = some fn) (hname : (fn.name == "runtime.NumGoroutine") = false) (hb : fn.body.isSome = true) (args : Array Value) (w : World) : (callFunc f args).run Tryz.prog w = .ok (.enter f args) w := by
  obtain ⟨c, hc⟩ := Option.isSome_iff_exists.1 hb
  have h1 : fn.name ≠ "runtime.NumGoroutine" := by simpa using hname
  simp [callFunc, hf, h1, hc]
section
variable {w : World} {bb : Nat} {t : Tn}
set_option maxRecDepth 100000 in
set_option maxHeartbeats 4000000 in
theorem addf_any (c k0 k1 : Nat) (hk : k1 = k0 + 1) (hb : k0 ≤ 1000000) (W : World) (h : W.cell? ⟨c, 0, none⟩ = some (.int .i64 1)) : Calls Tryz.prog 82 #[.int .i64 (k0 : Nat), .pointer (some ⟨c, 0, none⟩)] W fun e w' => e = .returned (.int .i64 (k1 : Nat)) ∧ W = w' := by
  have HW := Lib.hid (show ((k0 : Nat) : Int) + 1 = (k1 : Nat) by omega)
  clear hk
  go_enter Tryz.func82, Tryz.ntmps82
  go_wp2_with fail
  go_ret
  refine ⟨?_, rfl⟩
  rw [← HW.out]
  exact rfl
theorem addf_enter (c : Nat) (old : Int) (W : World) : (callFunc 82 #[.int .i64 old, .pointer (some ⟨c, 0, none⟩)]).run Tryz.prog W = .ok (.enter 82 #[.int .i64 old, .pointer (some ⟨c, 0, none⟩)]) W := callFunc_go Tryz.func82 (by kernel_rfl) (by kernel_rfl) _ _
set_option maxRecDepth 100000 in
set_option maxHeartbeats 4000000 in
theorem bagadd_any (x : Int) (h : BagAt w bb t) (hz : t.sz ≤ 100000) (hd : t.ds ≤ 100000) : Calls Tryz.prog 51 #[.pointer (some ⟨bb, 0, none⟩), .int .i64 x, .int .i64 1] w (BagR bb t x (getC t.ino x + 1) w) := by
  have hcb : getC t.ino x ≤ t.sz := by
    have := setC_sz (x := x) (k := 0) h.srt
    rw [← Tn.sz_ino] at this; omega
  have H1 := Lib.hid (h.keep (w' := w.alloc (.cells #[.int .i64 1] 3)) fun j hj => Below.heap_alloc _ _ _ (h.lt j hj))
  have HL := Lib.hid h.lt
  have hO1 : Off [] w (w.alloc (.cells #[.int .i64 1] 3)) := ⟨rfl, rfl, rfl, by simp, fun j hj _ => Below.heap_alloc _ _ _ hj⟩
  have hc1 : (w.alloc (.cells #[.int .i64 1] 3)).cell? ⟨w.heap.size, 0, none⟩ = some (.int .i64 1) := (Row.lit (f := fun _ => .int .i64 1) w #[.int .i64 1] 3 (by simp) fun i hi => by
    match i, hi with
    | 0, _ => rfl
    | n + 1, h => omega).cell (i := 0) (n := 1) (by omega)
  have hcl : w.heap.size < (w.alloc (.cells #[.int .i64 1] 3)).heap.size := by simp
  have HO1 := Lib.hid hO1
  have HG := Lib.hid (rfl : getC t.ino x = getC t.ino x)
  clear h hO1
  go_enter Tryz.func51, Tryz.ntmps51
  go_wp2_with fail
  generalize w.alloc (.cells #[.int .i64 1] 3) = w1 at *
  refine (bagvalid_any H1.out).mono ?_
  rintro e w' ⟨rfl, rfl⟩
  go_wp2_with fail
  go_quiet (exact Calls.quiet_of (bagsize_any (H1.out.dn _)))
  have r1 := H1.out.c1
  go_wp2_with fail
  clear r1
  have hT1 : TAt (w1.drewN nq) t := H1.out.tr.dn nq
  have hcn : w.heap.size ∉ t.bl := fun c => by have := HL.out _ (List.mem_cons_of_mem bb c); omega
  refine (update_any x 82 w.heap.size (getC t.ino x) (getC t.ino x + 1) (addf_enter _) (addf_any _ _ _ (by omega) (by omega)) t (w1.drewN nq) hT1 (List.nodup_cons.1 H1.out.nd).2 hcn (by simpa using hcl) (by simpa using hc1) H1.out.srt rfl (by omega) (by omega)).mono ?_
  rintro e w2 ⟨t', rfl, ht2, hi2, hm2, hn2, ho2⟩
  unfold Tn.ptr
  have hbt : bb ∉ t.bl := (List.nodup_cons.1 H1.out.nd).1
  have hr2 : Row w2 bb 2 (fun i => (#[Value.pointer (some ⟨bb, 0, none⟩), t.ptr] : Array Value).getD i undef) := (H1.out.dn nq).row.of_block (ho2.block bb (H1.out.dn nq).row.lt hbt)
  have c1 : w2.cell? ⟨bb, 1, none⟩ = some (.pointer t.adr) := hr2.cell (i := 1) (by omega)
  have f1 : w2.frozen? ⟨bb, 1, none⟩ = false := hr2.frozen 1
  have hbb : bb < w.heap.size := HL.out bb (by simp)
  have hs1 := HO1.out.size
  have hbt' : bb ∉ t'.bl := fun c => (hm2 bb c).elim hbt fun e => by simp at e; omega
  have hr3 : Row (w2.setCell ⟨bb, 1, none⟩ (.pointer t'.adr)) bb 2 (fun i => (#[Value.pointer (some ⟨bb, 0, none⟩), t'.ptr] : Array Value).getD i undef) := (hr2.set 1 _).congr fun i hi => by
    match i, hi with
    | 0, _ => rfl
    | 1, _ => rfl
    | n + 2, h => omega
  have HF := Lib.hid (show BagR bb t x (getC t.ino x + 1) w (.returned (.int .i64 0)) (w2.setCell ⟨bb, 1, none⟩ (.pointer t'.adr)) from
    ⟨rfl, t', ⟨hr3, ht2.set (p := ⟨bb, 1, none⟩) hbt' _, List.nodup_cons.2 ⟨hbt', hn2⟩, by rw [hi2]; exact setC_srt H1.out.srt⟩, hi2,
      fun j hj => (hm2 j hj).imp id fun e => by simp at e; omega,
      (((HO1.out.nil.drewN nq).trans ho2 (fun j hj => .inl (by simp [hj]))).setCell (p := ⟨bb, 1, none⟩) (by simp) _)⟩)
  clear hT1 hcn ht2 hi2 hm2 hn2 ho2 hr2 hr3 hbt'
  go_wp2_with fail
  go_ret
  exact HF.out
set_option maxRecDepth 100000 in
set_option maxHeartbeats 4000000 in
theorem remf_any (c k0 k1 : Nat) (hk : k0 = k1 + 1) (hb : k0 ≤ 1000000) (W : World) (h : W.cell? ⟨c, 0, none⟩ = some (.int .i64 1)) : Calls Tryz.prog 95 #[.int .i64 (k0 : Nat), .pointer (some ⟨c, 0, none⟩)] W fun e w' => e = .returned (.int .i64 (k1 : Nat)) ∧ W = w' := by
  have HW := Lib.hid (show ((k0 : Nat) : Int) - 1 = (k1 : Nat) by omega)
  clear hk
  go_enter Tryz.func95, Tryz.ntmps95
  go_wp2_with fail
  go_ret
  refine ⟨?_, rfl⟩
  rw [← HW.out]
  exact rfl
theorem remf_enter (c : Nat) (old : Int) (W : World) : (callFunc 95 #[.int .i64 old, .pointer (some ⟨c, 0, none⟩)]).run Tryz.prog W = .ok (.enter 95 #[.int .i64 old, .pointer (some ⟨c, 0, none⟩)]) W := callFunc_go Tryz.func95 (by kernel_rfl) (by kernel_rfl) _ _
set_option maxRecDepth 100000 in
set_option maxHeartbeats 4000000 in
theorem bagrem_any (x : Int) (h : BagAt w bb t) (hz : t.sz ≤ 100000) (hd : t.ds ≤ 100000) (hp : 0 < getC t.ino x) : Calls Tryz.prog 59 #[.pointer (some ⟨bb, 0, none⟩), .int .i64 x, .int .i64 1] w (BagR bb t x (getC t.ino x - 1) w) := by
  have hcb : getC t.ino x ≤ t.sz := by
    have := setC_sz (x := x) (k := 0) h.srt
    rw [← Tn.sz_ino] at this; omega
  have H1 := Lib.hid (h.keep (w' := w.alloc (.cells #[.int .i64 1] 3)) fun j hj => Below.heap_alloc _ _ _ (h.lt j hj))
  have HL := Lib.hid h.lt
  have hO1 : Off [] w (w.alloc (.cells #[.int .i64 1] 3)) := ⟨rfl, rfl, rfl, by simp, fun j hj _ => Below.heap_alloc _ _ _ hj⟩
  have hc1 : (w.alloc (.cells #[.int .i64 1] 3)).cell? ⟨w.heap.size, 0, none⟩ = some (.int .i64 1) := (Row.lit (f := fun _ => .int .i64 1) w #[.int .i64 1] 3 (by simp) fun i hi => by
    match i, hi with
    | 0, _ => rfl
    | n + 1, h => omega).cell (i := 0) (n := 1) (by omega)
  have hcl : w.heap.size < (w.alloc (.cells #[.int .i64 1] 3)).heap.size := by simp
  have HO1 := Lib.hid hO1
  have HG := Lib.hid (rfl : getC t.ino x = getC t.ino x)
  clear h hO1
  go_enter Tryz.func59, Tryz.ntmps59
  go_wp2_with fail
  generalize w.alloc (.cells #[.int .i64 1] 3) = w1 at *
  refine (bagvalid_any H1.out).mono ?_
  rintro e w' ⟨rfl, rfl⟩
  go_wp2_with fail
  go_quiet (exact Calls.quiet_of_same ((bagcount_any x (H1.out.dn _)).mono fun e w2 ⟨a, b⟩ => ⟨a, b.symm⟩))
  have r1 := H1.out.c1
  go_wp2_with fail
  clear r1
  have hT1 : TAt (w1.drewN nq) t := H1.out.tr.dn nq
  have hcn : w.heap.size ∉ t.bl := fun c => by have := HL.out _ (List.mem_cons_of_mem bb c); omega
  refine (update_any x 95 w.heap.size (getC t.ino x) (getC t.ino x - 1) (remf_enter _) (remf_any _ _ _ (by omega) (by omega)) t (w1.drewN nq) hT1 (List.nodup_cons.1 H1.out.nd).2 hcn (by simpa using hcl) (by simpa using hc1) H1.out.srt rfl (by omega) (by omega)).mono ?_
  rintro e w2 ⟨t', rfl, ht2, hi2, hm2, hn2, ho2⟩
  unfold Tn.ptr
  have hbt : bb ∉ t.bl := (List.nodup_cons.1 H1.out.nd).1
  have hr2 : Row w2 bb 2 (fun i => (#[Value.pointer (some ⟨bb, 0, none⟩), t.ptr] : Array Value).getD i undef) := (H1.out.dn nq).row.of_block (ho2.block bb (H1.out.dn nq).row.lt hbt)
  have c1 : w2.cell? ⟨bb, 1, none⟩ = some (.pointer t.adr) := hr2.cell (i := 1) (by omega)
  have f1 : w2.frozen? ⟨bb, 1, none⟩ = false := hr2.frozen 1
  have hbb : bb < w.heap.size := HL.out bb (by simp)
  have hs1 := HO1.out.size
  have hbt' : bb ∉ t'.bl := fun c => (hm2 bb c).elim hbt fun e => by simp at e; omega
  have hr3 : Row (w2.setCell ⟨bb, 1, none⟩ (.pointer t'.adr)) bb 2 (fun i => (#[Value.pointer (some ⟨bb, 0, none⟩), t'.ptr] : Array Value).getD i undef) := (hr2.set 1 _).congr fun i hi => by
    match i, hi with
    | 0, _ => rfl
    | 1, _ => rfl
    | n + 2, h => omega
  have HF := Lib.hid (show BagR bb t x (getC t.ino x - 1) w (.returned (.int .i64 0)) (w2.setCell ⟨bb, 1, none⟩ (.pointer t'.adr)) from
    ⟨rfl, t', ⟨hr3, ht2.set (p := ⟨bb, 1, none⟩) hbt' _, List.nodup_cons.2 ⟨hbt', hn2⟩, by rw [hi2]; exact setC_srt H1.out.srt⟩, hi2,
      fun j hj => (hm2 j hj).imp id fun e => by simp at e; omega,
      (((HO1.out.nil.drewN nq).trans ho2 (fun j hj => .inl (by simp [hj]))).setCell (p := ⟨bb, 1, none⟩) (by simp) _)⟩)
  clear hT1 hcn ht2 hi2 hm2 hn2 ho2 hr2 hr3 hbt'
  go_wp2_with fail
  go_ret
  exact HF.out
end
end Go.Proofs.YtpbgophogneecaaGreat

/- Add64 in plain words. No conditions. -/
namespace Go.Proofs.YtpbgophogneecaaGreat
open Go.RowKit

theorem add64c (x y c : Int) (hx : 0 ≤ x) (hy : 0 ≤ y) (hc0 : 0 ≤ c) (hc : c ≤ 1) (w : World) : (callFunc 100 #[.int .u64 x, .int .u64 y, .int .u64 c]).run Tryz.prog w =
    .ok (.value (.tuple #[.int .u64 ((x + y + c) % 18446744073709551616), .int .u64 ((x + y + c) / 18446744073709551616)])) w := by
  rw [run_callFunc_extern Tryz.func100 (by kernel_rfl) (by kernel_rfl) (by kernel_rfl) (e := add64Entry) (by kernel_rfl), run_add64 x y c hx hy hc0 hc]
  rfl
theorem add64z (x y : Int) (hx : 0 ≤ x) (hy : 0 ≤ y) (w : World) : (callFunc 100 #[.int .u64 x, .int .u64 y, .int .u64 0]).run Tryz.prog w =
    .ok (.value (.tuple #[.int .u64 ((x + y) % 18446744073709551616), .int .u64 ((x + y) / 18446744073709551616)])) w := by
  simpa using add64c x y 0 hx hy (Int.le_refl 0) (by decide) w
end Go.Proofs.YtpbgophogneecaaGreat

/- The walk of Squares of package bag: the sum of squares, by a walk over the tree. Conditions: the numbers are small. -/
namespace Go.Proofs.YtpbgophogneecaaGreat
open Go.RowKit

theorem mask32 (a : Nat) (h : a < 4294967296) : bits .and .u64 (a : Nat) 4294967295 = (a : Nat) := by
  have h1 := bits_and_u64_nat a 4294967295 (by omega) (by decide)
  have h2 : a &&& 4294967295 = a := by
    rw [show 4294967295 = 2 ^ 32 - 1 by decide, Nat.and_two_pow_sub_one_eq_mod]; exact Nat.mod_eq_of_lt h
  rw [h2] at h1
  exact h1
theorem wrapU (a : Nat) (h : a < 18446744073709551616) : IntKind.u64.wrap ((a : Nat) : Int) = (a : Nat) := by rw [IntKind.wrap_u64]; omega
set_option maxRecDepth 100000 in
set_option maxHeartbeats 4000000 in
theorem mul64_any (x y : Nat) (hx : x ≤ 2147483647) (hy : y ≤ 2147483647) (w : World) : Calls Tryz.prog 99 #[.int .u64 (x : Nat), .int .u64 (y : Nat)] w fun e w' => e = .returned (.tuple #[.int .u64 0, .int .u64 ((x * y : Nat) : Int)]) ∧ w = w' := by
  go_enter Tryz.func99, Tryz.ntmps99
  go_wp2_with fail
  have hP : x * y < 18446744073709551616 := Nat.lt_of_le_of_lt (Nat.mul_le_mul hx hy) (by decide)
  have e1 := mask32 x (by omega)
  have e2 := mask32 y (by omega)
  have e3 : ((x : Nat) : Int) / 4294967296 = 0 := by omega
  have e4 : ((y : Nat) : Int) / 4294967296 = 0 := by omega
  have e5 : ((x : Nat) : Int) * ((y : Nat) : Int) = ((x * y : Nat) : Int) := by simp
  have e6 := wrapU (x * y) hP
  generalize x * y = P at *
  have e7 : ((P : Nat) : Int) / 4294967296 = ((P / 4294967296 : Nat) : Int) := by omega
  have hQ : P / 4294967296 < 4294967296 := by omega
  generalize P / 4294967296 = Q at *
  have e8 := wrapU Q (by omega)
  have e9 := mask32 Q hQ
  have e10 : ((Q : Nat) : Int) / 4294967296 = 0 := by omega
  have e11 : IntKind.u64.wrap 0 = 0 := by decide
  simp only [e1, e2, e3, e4, e5, e6, e7, Int.zero_mul, Int.mul_zero, e11, Int.zero_add, e8, e9, e10, Int.add_zero]
  go_ret2
  exact ⟨rfl, rfl⟩
/-- the sum of squares -/
def sqC (L : List (Int × Nat)) : Nat := (L.map fun p => p.2 * (p.1.toNat * p.1.toNat)).sum
theorem sqC_app (A B : List (Int × Nat)) : sqC (A ++ B) = sqC A + sqC B := by unfold sqC; rw [List.map_append, List.sum_append]
theorem sqC_cons (p : Int × Nat) (B : List (Int × Nat)) : sqC (p :: B) = p.2 * (p.1.toNat * p.1.toNat) + sqC B := by unfold sqC; rw [List.map_cons, List.sum_cons]
/-- the numbers and their counts are small -/
def SmlC (L : List (Int × Nat)) : Prop := ∀ p ∈ L, 0 ≤ p.1 ∧ p.1 ≤ 10000 ∧ p.2 ≤ 10000
def sumV (v : Nat) : Array Value := #[.int .u64 0, .int .u64 (v : Nat)]
def SumAt (w : World) (sb v : Nat) : Prop := Row w sb 2 (fun i => (sumV v).getD i undef)
theorem SumAt.c0 {w : World} {sb v : Nat} (h : SumAt w sb v) : w.cell? ⟨sb, 0, none⟩ = some (.int .u64 0) := Row.cell h (i := 0) (by omega)
theorem SumAt.c1 {w : World} {sb v : Nat} (h : SumAt w sb v) : w.cell? ⟨sb, 1, none⟩ = some (.int .u64 (v : Nat)) := Row.cell h (i := 1) (by omega)
theorem SumAt.set {w : World} {sb v : Nat} (h : SumAt w sb v) (u : Nat) : SumAt ((w.setCell ⟨sb, 1, none⟩ (.int .u64 (u : Nat))).setCell ⟨sb, 0, none⟩ (.int .u64 0)) sb u := ((Row.set h 1 _).set 0 _).congr fun i hi => by
  match i, hi with
  | 0, _ => rfl
  | 1, _ => rfl
  | n + 2, h => omega
set_option maxRecDepth 100000 in
set_option maxHeartbeats 4000000 in
theorem sqf_any (b : Nat) (l r : Value) (x : Int) (t : Nat) (s d hh : Int) (sb v : Nat) (w : World) (hN : NodAt w b l r x (t : Nat) s d hh) (hS : SumAt w sb v) (hx : 0 ≤ x ∧ x ≤ 10000) (ht : t ≤ 10000) (hv : v + t * (x.toNat * x.toNat) ≤ 1000000000000000000) :
    Calls Tryz.prog 98 #[.pointer (some ⟨b, 0, none⟩), .pointer (some ⟨sb, 0, none⟩)] w fun e w' => e = .returned (.bool true) ∧ SumAt w' sb (v + t * (x.toNat * x.toNat)) ∧ Off [sb] w w' ∧ w'.heap.size = w.heap.size := by
  have c1 := hN.c2; have c2 := hN.c3
  have s0 := hS.c0; have s1 := hS.c1
  have f0 := Row.frozen hS 0; have f1 := Row.frozen hS 1
  have HS := Lib.hid hS
  obtain ⟨X, rfl⟩ : ∃ X : Nat, x = X := ⟨x.toNat, by omega⟩
  have hXX : X * X ≤ 100000000 := Nat.mul_le_mul (show X ≤ 10000 by omega) (show X ≤ 10000 by omega)
  have HM1 := Lib.hid (mul64_any X X (by omega) (by omega) w)
  have HM2 := Lib.hid (mul64_any (X * X) t (by omega) (by omega) w)
  rw [Int.toNat_natCast] at hv ⊢
  have hS2 : X * X * t = t * (X * X) := Nat.mul_comm _ _
  rw [hS2] at HM2
  generalize X * X = Y at *
  generalize t * Y = Z at *
  have ha := add64z ((v : Nat) : Int) ((Z : Nat) : Int) (by omega) (by omega)
  have hb := add64z 0 0 (by omega) (by omega)
  rw [show (((v : Nat) : Int) + ((Z : Nat) : Int)) % 18446744073709551616 = ((v + Z : Nat) : Int) by omega, show (((v : Nat) : Int) + ((Z : Nat) : Int)) / 18446744073709551616 = 0 by omega] at ha
  simp only [Int.add_zero, show (0 : Int) % 18446744073709551616 = 0 by decide, show (0 : Int) / 18446744073709551616 = 0 by decide] at hb
  clear hN hS hXX hS2
  go_enter Tryz.func98, Tryz.ntmps98
  go_wp2_with fail
  refine HM1.out.mono ?_
  rintro e w1 ⟨rfl, rfl⟩
  go_wp2_with fail
  refine HM2.out.mono ?_
  rintro e w1 ⟨rfl, rfl⟩
  clear HM1 HM2
  go_wp2_with fail
  rw [show decide (((v : Nat) : Int) + ((Z : Nat) : Int) ≤ 9223372036854775807) = true from decide_eq_true (by omega)]
  go_ret
  exact ⟨rfl, HS.out.set (v + Z), (((Off.refl [sb] w).setCell (p := ⟨sb, 1, none⟩) (by simp) _).setCell (p := ⟨sb, 0, none⟩) (by simp) _), by simp [World.setCell]⟩
set_option maxRecDepth 100000 in
set_option maxHeartbeats 8000000 in
theorem walk_any (sb : Nat) (t : Tn) : ∀ (v : Nat) (w : World), TAt w t → sb ∉ t.bl → SumAt w sb v → SmlC t.ino → v + sqC t.ino ≤ 1000000000000000000 →
    Calls Tryz.prog 97 #[t.ptr, .func (.func 98) #[] #[.pointer (some ⟨sb, 0, none⟩)]] w fun e w' => e = .returned (.bool true) ∧ SumAt w' sb (v + sqC t.ino) ∧ Off [sb] w w' ∧ w'.heap.size = w.heap.size := by
  induction t with
  | nil =>
    intro v w hT hn hS hm hv
    show Calls _ _ #[.pointer none, _] _ _
    have HS := Lib.hid hS
    clear hT hn hS hm hv
    go_enter Tryz.func97, Tryz.ntmps97
    go_wp2_with fail
    go_ret
    exact ⟨rfl, HS.out, Off.refl _ _, rfl⟩
  | nd b l r x t ihl ihr =>
    intro v w hT hn hS hm hv
    show Calls _ _ #[.pointer (some ⟨b, 0, none⟩), _] _ _
    rw [Tn.ino, sqC_app, sqC_cons] at hv
    have hml : SmlC l.ino := fun p hp => hm p (by simp [Tn.ino, hp])
    have hmr : SmlC r.ino := fun p hp => hm p (by simp [Tn.ino, hp])
    have hmx := hm (x, t) (by simp [Tn.ino])
    have hnb : b ≠ sb := fun e => hn (by simp [Tn.bl, e])
    have hnl : sb ∉ l.bl := fun c => hn (by simp [Tn.bl, c])
    have hnr : sb ∉ r.bl := fun c => hn (by simp [Tn.bl, c])
    have hv : v + sqC l.ino + t * (x.toNat * x.toNat) + sqC r.ino ≤ 1000000000000000000 := by
      have h2 : ((x, t) : Int × Nat).2 * (((x, t) : Int × Nat).1.toNat * ((x, t) : Int × Nat).1.toNat) = t * (x.toNat * x.toNat) := rfl
      rw [h2] at hv; omega
    have c0 : w.cell? ⟨b, 0, none⟩ = some (.pointer l.adr) := hT.1.c0
    have HI := Lib.hid (ihl v w hT.2.1 hnl hS hml (by omega))
    have HT := Lib.hid hT
    have HR := Lib.hid (fun v w => ihr v w)
    have HX := Lib.hid hmx
    have HN := Lib.hid (And.intro hnb (And.intro hnl hnr))
    have HMr := Lib.hid hmr
    have HE := Lib.hid (show v + sqC (Tn.nd b l r x t).ino = v + sqC l.ino + t * (x.toNat * x.toNat) + sqC r.ino by
      rw [Tn.ino, sqC_app, sqC_cons]; show v + (sqC l.ino + (t * (x.toNat * x.toNat) + sqC r.ino)) = _; omega)
    clear hT hS hm hml hmr hmx hnb hnl hnr ihl ihr hn
    go_enter Tryz.func97, Tryz.ntmps97
    go_wp2_with fail
    refine HI.out.mono ?_
    rintro e w1 ⟨rfl, hS1, ho1, hs1⟩
    have hN1 := HT.out.1.off ho1 (by simpa using HN.out.1)
    have HQ := Lib.hid (sqf_any b _ _ x t _ _ _ sb _ w1 hN1 hS1 ⟨HX.out.1, HX.out.2.1⟩ HX.out.2.2 (by omega))
    have HO1 := Lib.hid ho1; have HS1 := Lib.hid hs1
    clear hS1 ho1 hs1 hN1 HI c0
    go_wp2_with fail
    refine HQ.out.mono ?_
    rintro e w2 ⟨rfl, hS2, ho2, hs2⟩
    have hO2 := HO1.out.trans ho2 (fun j hj => .inl hj)
    have hN2 := HT.out.1.off hO2 (by simpa using HN.out.1)
    have c1 : w2.cell? ⟨b, 1, none⟩ = some (.pointer r.adr) := hN2.c1
    have hR2 := hO2.tat HT.out.2.2 (fun j hj c => HN.out.2.2 (by simp at c; rw [← c]; exact hj))
    have HI2 := Lib.hid (HR.out _ w2 hR2 HN.out.2.2 hS2 HMr.out (by omega))
    have HO2 := Lib.hid hO2; have HS2 := Lib.hid (hs2.trans HS1.out)
    clear hS2 ho2 hs2 hO2 hN2 hR2 HQ
    go_wp2_with fail
    refine HI2.out.mono ?_
    rintro e w3 ⟨rfl, hS3, ho3, hs3⟩
    have HF := Lib.hid (And.intro hS3 (And.intro (HO2.out.trans ho3 (fun j hj => .inl hj)) (hs3.trans HS2.out)))
    clear hS3 ho3 hs3 HI2 c1
    go_wp2_with fail
    go_ret
    exact ⟨rfl, by rw [HE.out]; exact HF.out.1, HF.out.2.1, HF.out.2.2⟩
set_option maxRecDepth 100000 in
set_option maxHeartbeats 8000000 in
theorem bagsq_any {w : World} {bb : Nat} {t : Tn} (h : BagAt w bb t) (hm : SmlC t.ino) (hv : sqC t.ino ≤ 1000000000000000000) : Calls Tryz.prog 62 #[.pointer (some ⟨bb, 0, none⟩)] w fun e w' => e = .returned (.tuple #[.int .i64 (sqC t.ino : Nat), .int .i64 0]) ∧ Below w.heap.size w w' := by
  have HV := Lib.hid (bagvalid_any h)
  have hb := h.lt bb (by simp)
  have HL := Lib.hid h.lt
  have H := Lib.hid h
  have HM := Lib.hid hm
  clear h hm
  go_enter Tryz.func62, Tryz.ntmps62
  go_wp2_with fail
  refine HV.out.mono ?_
  rintro e w' ⟨rfl, rfl⟩
  have r1 := H.out.c1
  go_wp2_with fail
  have hT : TAt (w.alloc (.cells #[.int .u64 0, .int .u64 0] 151)) t := H.out.tr.keep fun j hj => Below.heap_alloc _ _ _ (HL.out j (by simp [hj]))
  have hS : SumAt (w.alloc (.cells #[.int .u64 0, .int .u64 0] 151)) w.heap.size 0 := Row.lit w _ _ (by simp) fun i hi => by
    match i, hi with
    | 0, _ => rfl
    | 1, _ => rfl
    | n + 2, h => omega
  have hB : Below w.heap.size w (w.alloc (.cells #[.int .u64 0, .int .u64 0] 151)) := (Below.refl _ w).alloc (Nat.le_refl _) _
  have HW := Lib.hid (walk_any w.heap.size t 0 _ hT (fun c => by have := HL.out _ (List.mem_cons_of_mem bb c); omega) hS HM.out (by omega))
  have HB := Lib.hid hB
  clear hT hS hB r1
  generalize w.alloc (.cells #[.int .u64 0, .int .u64 0] 151) = w1 at *
  refine HW.out.mono ?_
  rintro e w2 ⟨rfl, hS2, ho2, _⟩
  rw [Nat.zero_add] at hS2
  have c1 := hS2.c1
  have HF := Lib.hid (HB.out.trans (ho2.below HB.out.size (fun j hj => by simp at hj; omega)))
  clear hS2 ho2 HW
  obtain ⟨S, hS⟩ : ∃ S, sqC t.ino = S := ⟨_, rfl⟩
  have HSq := Lib.hid hS
  rw [hS] at c1 hv
  clear hS
  go_wp2_with fail
  go_ret2
  exact ⟨by rw [HSq.out]; rfl, HF.out⟩
end Go.Proofs.YtpbgophogneecaaGreat
