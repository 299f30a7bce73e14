/- The walk of the law LiftClimbs, the limits the same. Conditions: the bytes and the keys are given as cells; the library's table of de Bruijn is as its initialiser lays it. -/
import Derived.Test.YtbjakjgabolkeaaDoorClimbs2
namespace Go.Proofs.YtbjakjgabolkeaaDoor
open Go.RowKit Go.Shelf

set_option maxRecDepth 100000 in
set_option maxHeartbeats 8000000 in
theorem climbs_eq (B : Nat) (ao : Option Addr) (cap : Nat) (A : Nat → Addr) (L : List Int) (turned : Bool) (ak : Option Addr) (capk : Nat) (Ak : Nat → Addr) (ks : List Int) (x : Nat) (low high : Int) (w : World) (hT : DeB w) (hS : Sl 22 .u8 w B (.slice ao L.length cap) L A) (hB : B ≤ w.heap.size) (hc : L.length ≤ cap) (hm : L.length ≤ 9223372036854775807) (hb : ∀ i, i < L.length → 0 ≤ nth L i ∧ nth L i ≤ 255) (hx : x ≤ 65535)
    (hSk : Sl 59 .i16 w B (.slice ak ks.length capk) ks Ak) (hmk : ks.length ≤ 9223372036854775807) (hbk : ∀ i, i < ks.length → -32768 ≤ nth ks i ∧ nth ks i ≤ 32767) (hl1 : -32768 ≤ low ∧ low ≤ 32767) (hh1 : -32768 ≤ high ∧ high ≤ 32767) (hlh : low = high) :
    Calls Tryd.prog 11 #[.slice ao L.length cap, .bool turned, .slice ak ks.length capk, .int .u16 x, .int .i16 low, .int .i16 high] w fun e w' => e = .returned (.bool true) ∧ Below w.heap.size w w' := by
  have hM := made_any B ao cap A L turned w hT hS hB hc hm hb
  have hR := made_range L turned
  obtain ⟨hl2, hl3⟩ := hl1
  obtain ⟨hh2, hh3⟩ := hh1
  subst hlh
  clear hS hc hb hT
  generalize madeL L turned = p at hM hR
  go_enter Tryd.func11, Tryd.ntmps11
  go_wp2_with fail
  refine hM.mono ?_
  rintro e w1 ⟨b0, a1, cap1, A1, K, rfl, S, hSp⟩
  clear hM
  by_cases h0 : p.length = 0
  · have h0' : ((p.length : Int) == 0) = true := by rw [h0]; rfl
    clear h0
    go_wp2_with fail
    refine (works_any _ S.deb).mono ?_
    rintro e w3 ⟨rfl, hb3⟩
    go_wp2_with fail
    go_ret
    exact ⟨rfl, (S.step hb3).bel⟩
  have h0' : ((p.length : Int) == 0) = false := by rw [beq_eq_false_iff_ne]; omega
  by_cases k0 : ks.length = 0
  · have k0' : ((ks.length : Int) == 0) = true := by rw [k0]; rfl
    clear h0 k0
    go_wp2_with fail
    refine (works_any _ S.deb).mono ?_
    rintro e w3 ⟨rfl, hb3⟩
    go_wp2_with fail
    go_ret
    exact ⟨rfl, (S.step hb3).bel⟩
  have k0' : ((ks.length : Int) == 0) = false := by rw [beq_eq_false_iff_ne]; omega
  have hn : (1 : Int) ≤ p.length := by omega
  have hkn : (1 : Int) ≤ ks.length := by omega
  have hsm := S.tab.small
  obtain ⟨v, hv, hvl⟩ := mod_nat x (show 0 < p.length by omega)
  have F := S.tab.tree
  have hSk1 := hSk.below (S.bel.mono hB)
  have hBw := S.bel.size
  have hBw' : B ≤ w1.heap.size := by omega
  have HV := Lib.hid hv; have HF := Lib.hid F
  clear hv F hSk
  go_wp2_with fail
  go_loopw [15, 16] (fun s i wr => ∃ k : Nat, k ≤ p.length ∧ i = .int .i64 k ∧ wr.ownsRow w1.heap.size 2 1 s k ((keyTo ks k).map (Value.int .i64)) ∧ Below w1.heap.size w1 wr) (fun _ i _ => p.length - (intOf i).toNat)
  case atStart => exact ⟨0, Nat.zero_le _, rfl, World.ownsRow_nil _ _ _ _, Below.refl _ _⟩
  case round =>
    obtain ⟨k, hk, rfl, hown, hBr⟩ := hrel
    by_cases hlt : k < p.length
    · obtain ⟨q, hq, hql⟩ := mod_nat k (show 0 < ks.length by omega)
      have hix := hSk1.ix q hql
      have hce := (hSk1.below (hBr.mono hBw')).cell q hql
      obtain ⟨hb1, hb2⟩ := hbk q hql
      have HG := Lib.hid (keyTo_succ ks k)
      have hqn : k % ks.length = q := by omega
      rw [hqn] at HG
      clear hqn
      go_wp2_with (at_builtin; refine push et40 rfl _ _ rfl w1.heap.size _ _ _ hown rfl #[.int .i64 (nth ks q)] _ rfl rfl rfl (by simp [Value.oneCell']) (by omega) (by omega) (by have := hBr.size; omega) ?_; intro g cp w2 hown1 hg1 hv1)
      go_roundw
      case rel =>
        refine ⟨k + 1, by omega, by go_num, ?_, hBr.grown hg1 hBr.size (fun j e => (hown.lt j e).1)⟩
        rw [HG.out, List.map_append]; exact hown1
      case measure => simp [intOf]; omega
    · obtain rfl : k = p.length := by omega
      obtain ⟨hkl, a2, cap2, A2, rfl, hKs⟩ := Sl.own et40 hown
      have hcap2 : p.length ≤ cap2 := by
        rcases hown.2 with ⟨e, h0⟩ | ⟨g, cap, cur, e, _, _, h5, _⟩
        · omega
        · cases e; exact h5
      have hkv : ∀ u, u < p.length → nth (keyTo ks p.length) u ≤ 9223372036854775807 := fun u hu => by
        rw [keyTo_nth ks hu]; have := hbk (u % ks.length) (Nat.mod_lt _ (by omega)); omega
      have hS1 := (S.top.step hBr).top.hold (hSp.below hBr |>.mono hBr.size)
      clear hown hBr S hSp hSk1 hbk
      generalize keyTo ks p.length = key at *
      obtain ⟨S0⟩ : Nonempty (SQ w wr.heap.size b0 p (fun w => Sl 25 .i64 w wr.heap.size (.slice a1 p.length cap1) p A1 ∧ Sl 40 .i64 w wr.heap.size (.slice a2 p.length cap2) key A2) wr) := ⟨⟨hS1.st, ⟨hS1.q, hKs⟩, fun _ _ hb h => ⟨h.1.below hb, h.2.below hb⟩⟩⟩
      clear hS1 hKs
      obtain ⟨xx, hX⟩ : ∃ xx, climb p key (low) v = xx := ⟨_, rfl⟩
      obtain ⟨yy, hY⟩ : ∃ yy, climb p key (low) v = yy := ⟨_, rfl⟩
      have Tx : Stops p key (low) v xx := hX ▸ stops_of HF.out hvl
      have hY2 : climb p key (low) xx = yy := by rw [← hX, ← climb_more HF.out (by omega) _ v hvl rfl]; exact hY
      have Ty : Stops p key (low) xx yy := hY2 ▸ stops_of HF.out Tx.lt
      have hxl := Tx.lt
      have c1 := Lib.hid (cl_at (m := low) hvl hkl); rw [hX] at c1
      have c2 := Lib.hid (cl_at (m := low) hvl hkl); rw [hY] at c2
      have c3 := Lib.hid (cl_at (m := low) hxl hkl); rw [climb_stop Tx.stop] at c3
      have c4 := Lib.hid (cl_at (m := 9223372036854775807) hvl hkl); rw [climb_root HF.out hvl hkv] at c4
      have hkl2 : (key.take (p.length - 1)).length = p.length - 1 := by simp; omega
      have c5 := Lib.hid (cl_few (m := low) (key := key.take (p.length - 1)) hvl (by omega))
      have c6 := Lib.hid (cl_out (p := p) (key := key) (m := low) (v := p.length) (by simp [inB]))
      have ga := Lib.hid (root_at HF.out hvl)
      have ea := Lib.hid (dp_v hvl)
      have ex := Lib.hid (dp_v hxl)
      have ab1 := Lib.hid ((ab_at hxl hvl).trans Tx.anc)
      have ab2 := Lib.hid ((ab_at Ty.lt hxl).trans Ty.anc)
      have hsl : ∀ w', (Instr.slice 40 (.slice a2 p.length cap2) none (some (.int .i64 ((p.length : Int) - 1))) none).run Tryd.prog w' = .ok (.slice a2 (p.length - 1 : Nat) cap2) w' := fun w' => by
        have := run_slice_to et40 a2 p.length cap2 (p.length - 1) .i64 (by omega) w'
        rw [show ((p.length - 1 : Nat) : Int) = (p.length : Int) - 1 by omega] at this

        exact this
      have Tw := Lib.hid Tx.way
      have Td := Tx.dep
      have Ts := Lib.hid Tx.stop
      have hyl := Ty.lt
      have hrx := Lib.hid (nth_pa hxl hR)
      have dv := dep_lt HF.out hvl
      clear hX hY hY2 Tx Ty hkv
      go_wp2_with fail
      rw [HV.out]
      clear HV
      refine (S0.climbN hkl c1.out.1 c1.out.2 S0.q.2 S0.st.le).mono ?_
      rintro e w2 ⟨rfl, S2⟩
      clear S0
      go_wp2_with fail
      refine (S2.climbN hkl c2.out.1 c2.out.2 S2.q.2 S2.st.le).mono ?_
      rintro e w3 ⟨rfl, S3⟩
      clear S2
      go_wp2_with fail
      refine (S3.climbN hkl c3.out.1 c3.out.2 S3.q.2 S3.st.le).mono ?_
      rintro e w4 ⟨rfl, S4⟩
      clear S3
      go_wp2_with fail
      refine (S4.climbN hkl c4.out.1 c4.out.2 S4.q.2 S4.st.le).mono ?_
      rintro e w5 ⟨rfl, S5⟩
      clear S4
      go_wp2_with fail
      refine (S5.root (x := rootOf p v) (y := true) (by rw [ea.out]; exact ga.out.1) (by rw [ea.out]; exact ga.out.2)).mono ?_
      rintro e w6 ⟨rfl, S6⟩
      clear S5
      go_wp2_with fail
      refine (S6.climbN hkl2 c5.out.1 c5.out.2 (S6.q.2.take et40 hkl (by omega)) S6.st.le).mono ?_
      rintro e w7 ⟨rfl, S7⟩
      clear S6
      go_wp2_with fail
      refine (S7.climbN hkl c6.out.1 c6.out.2 S7.q.2 S7.st.le).mono ?_
      rintro e w8 ⟨rfl, S8⟩
      clear S7
      go_wp2_with fail
      refine (S8.above ab1.out).mono ?_
      rintro e w9 ⟨rfl, S9⟩
      clear S8
      go_wp2_with fail
      refine (S9.above ab2.out).mono ?_
      rintro e w10 ⟨rfl, S10⟩
      clear S9
      have i1 : ¬ ((xx : Int) < 0) := by omega
      have i2 : ¬ (p.length ≤ xx) := by omega
      have ix1 := S10.q.1.ix xx hxl
      have ce1 := S10.q.1.cell xx hxl
      rw [hrx.out] at ce1
      cases hpa : pa p xx with
      | none =>
        rw [hpa] at ce1
        have ce2 : w10.cell? (A1 xx) = some (.int .i64 (-1)) := ce1
        clear ce1 hpa hsl
        go_wp2_with fail
        go_loopw [34] (fun i wx => ∃ k : Nat, 1 ≤ k ∧ k ≤ dp p v - dp p xx + 1 ∧ i = .int .i64 k ∧ SQ w wr.heap.size b0 p (fun w => Sl 25 .i64 w wr.heap.size (.slice a1 p.length cap1) p A1 ∧ Sl 40 .i64 w wr.heap.size (.slice a2 p.length cap2) key A2) wx) (fun i _ => dp p v + 1 - (intOf i).toNat)
        case atStart => exact ⟨1, Nat.le_refl _, by omega, rfl, S10⟩
        case round =>
          obtain ⟨k, hk1, hk2, rfl, T0⟩ := hrel
          clear S10
          by_cases hlt : k ≤ dp p v - dp p xx
          · obtain ⟨u, hul, hu, -, q1⟩ := up_at HF.out hvl (show k ≤ dp p v by omega)
            have hle := Tw.out k hk1 hlt u hu
            have Q1 := Lib.hid q1
            have hlt' : (k : Int) ≤ (dp p v : Int) - (dp p xx : Int) := by omega
            clear hu q1
            go_wp2_with fail
            refine (T0.depth ea.out).mono ?_
            rintro e w21 ⟨rfl, T1⟩
            clear T0
            go_wp2_with fail
            refine (T1.depth ex.out).mono ?_
            rintro e w22 ⟨rfl, T2⟩
            clear T1
            go_wp2_with fail
            refine (T2.up Q1.out.1 Q1.out.2).mono ?_
            rintro e w23 ⟨rfl, T3⟩
            clear T2
            have i3 : ¬ ((u : Int) < 0) := by omega
            have i4 : ¬ (p.length ≤ u) := by omega
            have ix3 := T3.q.2.ix u (by omega)
            have ce3 := T3.q.2.cell u (by omega)
            go_wp2_with fail
            go_roundw
            case rel => exact ⟨k + 1, by omega, by omega, by go_num, T3⟩
            case measure => simp [intOf]; omega
          · have hlt' : (dp p v : Int) - (dp p xx : Int) < (k : Int) := by omega
            go_wp2_with fail
            refine (T0.depth ea.out).mono ?_
            rintro e w21 ⟨rfl, T1⟩
            clear T0
            go_wp2_with fail
            refine (T1.depth ex.out).mono ?_
            rintro e w22 ⟨rfl, T2⟩
            clear T1
            go_wp2_with fail
            refine T2.works.mono ?_
            rintro e w23 ⟨rfl, T3⟩
            go_wp2_with fail
            go_ret
            exact ⟨rfl, T3.st.bel⟩
      | some u =>
        have hul := HF.out.rng xx u hxl hpa
        have hgt : (low) < nth key u := by
          have := Ts.out
          unfold onward at this
          rw [hpa] at this
          simp at this; omega
        rw [hpa] at ce1
        have ce2 : w10.cell? (A1 xx) = some (.int .i64 u) := ce1
        have ix2 := S10.q.2.ix u (by omega)
        have ce3 := S10.q.2.cell u (by omega)
        clear ce1 hpa hsl
        go_wp2_with fail
        go_loopw [34] (fun i wx => ∃ k : Nat, 1 ≤ k ∧ k ≤ dp p v - dp p xx + 1 ∧ i = .int .i64 k ∧ SQ w wr.heap.size b0 p (fun w => Sl 25 .i64 w wr.heap.size (.slice a1 p.length cap1) p A1 ∧ Sl 40 .i64 w wr.heap.size (.slice a2 p.length cap2) key A2) wx) (fun i _ => dp p v + 1 - (intOf i).toNat)
        case atStart => exact ⟨1, Nat.le_refl _, by omega, rfl, S10⟩
        case round =>
          obtain ⟨k, hk1, hk2, rfl, T0⟩ := hrel
          clear S10
          by_cases hlt : k ≤ dp p v - dp p xx
          · obtain ⟨u, hul, hu, -, q1⟩ := up_at HF.out hvl (show k ≤ dp p v by omega)
            have hle := Tw.out k hk1 hlt u hu
            have Q1 := Lib.hid q1
            have hlt' : (k : Int) ≤ (dp p v : Int) - (dp p xx : Int) := by omega
            clear hu q1
            go_wp2_with fail
            refine (T0.depth ea.out).mono ?_
            rintro e w21 ⟨rfl, T1⟩
            clear T0
            go_wp2_with fail
            refine (T1.depth ex.out).mono ?_
            rintro e w22 ⟨rfl, T2⟩
            clear T1
            go_wp2_with fail
            refine (T2.up Q1.out.1 Q1.out.2).mono ?_
            rintro e w23 ⟨rfl, T3⟩
            clear T2
            have i3 : ¬ ((u : Int) < 0) := by omega
            have i4 : ¬ (p.length ≤ u) := by omega
            have ix3 := T3.q.2.ix u (by omega)
            have ce3 := T3.q.2.cell u (by omega)
            go_wp2_with fail
            go_roundw
            case rel => exact ⟨k + 1, by omega, by omega, by go_num, T3⟩
            case measure => simp [intOf]; omega
          · have hlt' : (dp p v : Int) - (dp p xx : Int) < (k : Int) := by omega
            go_wp2_with fail
            refine (T0.depth ea.out).mono ?_
            rintro e w21 ⟨rfl, T1⟩
            clear T0
            go_wp2_with fail
            refine (T1.depth ex.out).mono ?_
            rintro e w22 ⟨rfl, T2⟩
            clear T1
            go_wp2_with fail
            refine T2.works.mono ?_
            rintro e w23 ⟨rfl, T3⟩
            go_wp2_with fail
            go_ret
            exact ⟨rfl, T3.st.bel⟩
end Go.Proofs.YtbjakjgabolkeaaDoor
