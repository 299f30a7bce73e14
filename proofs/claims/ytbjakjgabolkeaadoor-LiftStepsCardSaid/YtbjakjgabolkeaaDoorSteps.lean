/- The walk of the law LiftSteps. Conditions: the bytes are given as cells; the library's table of de Bruijn is as its initialiser lays it. -/
import Derived.Test.YtbjakjgabolkeaaDoorHold
namespace Go.Proofs.YtbjakjgabolkeaaDoor
open Go.RowKit Go.Shelf

set_option maxRecDepth 100000 in
set_option maxHeartbeats 8000000 in
theorem steps_walk (B : Nat) (ao : Option Addr) (cap : Nat) (A : Nat → Addr) (L : List Int) (turned : Bool) (x y z : Nat) (w : World) (hT : DeB w) (hS : Sl 22 .u8 w B (.slice ao L.length cap) L A) (hB : B ≤ w.heap.size) (hc : L.length ≤ cap) (hm : L.length ≤ 9223372036854775807) (hb : ∀ i, i < L.length → 0 ≤ nth L i ∧ nth L i ≤ 255) (hx : x ≤ 65535) (hy : y ≤ 65535) (hz : z ≤ 65535) :
    Calls Tryd.prog 5 #[.slice ao L.length cap, .bool turned, .int .u16 x, .int .u16 y, .int .u16 z] w fun e w' => e = .returned (.bool true) ∧ Below w.heap.size w w' := by
  have hM := made_any B ao cap A L turned w hT hS hB hc hm hb
  have hR := made_range L turned
  clear hS hB hc hb hT
  generalize madeL L turned = p at hM hR
  go_enter Tryd.func5, Tryd.ntmps5
  go_wp2_with fail
  refine hM.mono ?_
  rintro e w1 ⟨b0, a1, cap1, A1, K, rfl, S, hSp⟩
  clear hM
  by_cases h0 : p.length = 0
  · have h0' : ((p.length : Int) == 0) = true := by rw [h0]; rfl
    have hd0 := dp0 h0
    clear h0
    go_wp2_with fail
    refine (S.depth hd0).mono ?_
    rintro e w2 ⟨rfl, S2⟩
    go_wp2_with fail
    refine (works_any _ S2.deb).mono ?_
    rintro e w3 ⟨rfl, hb3⟩
    go_wp2_with fail
    go_ret
    exact ⟨rfl, (S2.step hb3).bel⟩
  · have h0' : ((p.length : Int) == 0) = false := by rw [beq_eq_false_iff_ne]; omega
    have hn : (1 : Int) ≤ p.length := by omega
    have hsm := S.tab.small
    obtain ⟨v, hv, hvl⟩ := mod_nat x (show 0 < p.length by omega)
    have F := S.tab.tree
    have dv := dep_lt F hvl
    have d1 := dp_v hvl
    have r1 := root_at F hvl
    have rl := rootOf_lt F hvl
    have hrp := nth_pa rl hR
    rw [pa_of_root F hvl] at hrp
    have u1 := up_no (p := p) (v := v) (k := dp p v + 1) (by omega)
    obtain ⟨v', -, e0, -, u0⟩ := up_at F hvl (Nat.zero_le (dp p v))
    cases e0
    have hvp := nth_pa hvl hR
    obtain ⟨j, hj, hjl⟩ : ∃ j : Nat, (y : Int) % ((dp p v : Int) + 2) = j ∧ j < dp p v + 2 := mod_nat y (show 0 < dp p v + 2 by omega)
    obtain ⟨k, hk, hkl⟩ : ∃ j : Nat, (z : Int) % ((dp p v : Int) + 2) = j ∧ j < dp p v + 2 := mod_nat z (show 0 < dp p v + 2 by omega)
    have HV := Lib.hid hv; have D1 := Lib.hid d1; have R1 := Lib.hid r1; have HRP := Lib.hid hrp; have U1 := Lib.hid u1; have U0 := Lib.hid u0; have HVP := Lib.hid hvp; have HJ := Lib.hid hj; have HK := Lib.hid hk; have HF := Lib.hid F
    clear h0 hv d1 r1 hrp u1 u0 hvp hj hk F
    have S0 := S.top.hold hSp
    clear S hSp
    go_wp2_with fail
    rw [HV.out]
    have S1 := S0
    clear S0 HV
    refine (S1.depth D1.out).mono ?_
    rintro e w2 ⟨rfl, S2⟩
    clear S1
    go_wp2_with fail
    refine (S2.root (x := rootOf p v) (y := true) (by rw [D1.out]; exact R1.out.1) (by rw [D1.out]; exact R1.out.2)).mono ?_
    rintro e w3 ⟨rfl, S3⟩
    clear S2
    go_wp2_with fail
    refine (S3.up R1.out.1 R1.out.2).mono ?_
    rintro e w4 ⟨rfl, S4⟩
    clear S3
    go_wp2_with fail
    refine (S4.up U1.out.1 U1.out.2).mono ?_
    rintro e w5 ⟨rfl, S5⟩
    clear S4
    go_wp2_with fail
    refine (S5.up U0.out.1 U0.out.2).mono ?_
    rintro e w6 ⟨rfl, S6⟩
    clear S5
    have ix1 := S6.q.ix _ rl
    have ce1 := S6.q.cell _ rl
    rw [HRP.out] at ce1
    have ce1' : w6.cell? (A1 (rootOf p v)) = some (.int .i64 (-1)) := ce1
    clear ce1
    go_wp2_with fail
    have ix2 := S6.q.ix _ hvl
    have ce2 := S6.q.cell _ hvl
    rw [HVP.out] at ce2
    cases hpa : pa p v with
    | none =>
      have hd : dp p v = 0 := HF.out.root v hvl hpa
      have ce2' : w6.cell? (A1 v) = some (.int .i64 (-1)) := by rw [hpa] at ce2; exact ce2
      have q1 := Lib.hid (up_no (p := p) (v := v) (k := 1) (by omega))
      clear ce2 HVP hpa hd
      refine (S6.up q1.out.1 q1.out.2).mono ?_
      rintro e w7 ⟨rfl, S7⟩
      have ce3 : w7.cell? (A1 v) = some (.int .i64 (-1)) := by rw [S7.q.cell v hvl, ← S6.q.cell v hvl]; exact ce2'
      clear ce2' S6
      go_wp2_with fail
      go_quiet (fail)
      go_wp2_with fail
      rw [HJ.out, HK.out]
      have T0 := S7.drew nq
      clear S7 ix1 ix2 ce3
      by_cases hjd : j ≤ dp p v
      · obtain ⟨a, hal, ea, -, q3⟩ := up_at HF.out hvl hjd
        have q4 := up_add (j := k) HF.out hvl ea
        obtain ⟨c, hc⟩ : ∃ c, upV p a k = c := ⟨_, rfl⟩
        obtain ⟨d, hd⟩ : ∃ d, upB p a k = d := ⟨_, rfl⟩
        have Q3 := Lib.hid q3; have Q4 := Lib.hid q4; have C1 := Lib.hid hc; have C2 := Lib.hid hd
        have hj' : (j : Int) ≤ dp p v := by omega
        clear ea q3 q4 hc hd
        refine (T0.up Q3.out.1 Q3.out.2).mono ?_
        rintro e w20 ⟨rfl, T1⟩
        clear T0
        go_wp2_with fail
        refine (T1.up C1.out C2.out).mono ?_
        rintro e w21 ⟨rfl, T2⟩
        clear T1
        go_wp2_with fail
        refine (T2.up (Q4.out.1.symm.trans C1.out) (Q4.out.2.symm.trans C2.out)).mono ?_
        rintro e w22 ⟨rfl, T3⟩
        clear T2
        go_wp2_with fail
        refine T3.works.mono ?_
        rintro e w23 ⟨rfl, T4⟩
        go_wp2_with fail
        go_ret
        exact ⟨rfl, T4.st.bel⟩
      · have q3 := Lib.hid (up_no (p := p) (v := v) (k := j) (by omega))
        obtain ⟨c, hc⟩ : ∃ c, upV p v ((j : Int) + k) = c := ⟨_, rfl⟩
        obtain ⟨d, hd⟩ : ∃ d, upB p v ((j : Int) + k) = d := ⟨_, rfl⟩
        have C1 := Lib.hid hc; have C2 := Lib.hid hd
        have hj' : (dp p v : Int) < j := by omega
        clear hc hd
        refine (T0.up q3.out.1 q3.out.2).mono ?_
        rintro e w20 ⟨rfl, T1⟩
        clear T0
        go_wp2_with fail
        refine (T1.up C1.out C2.out).mono ?_
        rintro e w22 ⟨rfl, T3⟩
        clear T1
        go_wp2_with fail
        refine T3.works.mono ?_
        rintro e w23 ⟨rfl, T4⟩
        go_wp2_with fail
        go_ret
        exact ⟨rfl, T4.st.bel⟩
    | some u =>
      have hd := HF.out.up v u hvl hpa
      have ce2' : w6.cell? (A1 v) = some (.int .i64 u) := by rw [hpa] at ce2; exact ce2
      obtain ⟨v', hul, e0, -, q1⟩ := up_at HF.out hvl (show 1 ≤ dp p v by omega)
      have e1 : pa p v = some v' := e0
      rw [hpa] at e1
      cases e1
      have Q1 := Lib.hid q1
      have Q2 := Lib.hid (dp_v hul)
      have hd' : ((dp p u : Int) != (dp p v : Int) - 1) = false := by rw [bne_eq_false_iff_eq]; omega
      clear ce2 HVP hpa e0 q1 hd
      refine (S6.up Q1.out.1 Q1.out.2).mono ?_
      rintro e w7 ⟨rfl, S7⟩
      have ce3 : w7.cell? (A1 v) = some (.int .i64 u) := by rw [S7.q.cell v hvl, ← S6.q.cell v hvl]; exact ce2'
      clear ce2' S6
      go_wp2_with fail
      refine (S7.depth Q2.out).mono ?_
      rintro e w8 ⟨rfl, S8⟩
      clear S7
      go_wp2_with fail
      go_quiet (fail)
      go_wp2_with fail
      rw [HJ.out, HK.out]
      have T0 := S8.drew nq
      clear S8 ix1 ix2 ce3
      by_cases hjd : j ≤ dp p v
      · obtain ⟨a, hal, ea, -, q3⟩ := up_at HF.out hvl hjd
        have q4 := up_add (j := k) HF.out hvl ea
        obtain ⟨c, hc⟩ : ∃ c, upV p a k = c := ⟨_, rfl⟩
        obtain ⟨d, hd⟩ : ∃ d, upB p a k = d := ⟨_, rfl⟩
        have Q3 := Lib.hid q3; have Q4 := Lib.hid q4; have C1 := Lib.hid hc; have C2 := Lib.hid hd
        have hj' : (j : Int) ≤ dp p v := by omega
        clear ea q3 q4 hc hd
        refine (T0.up Q3.out.1 Q3.out.2).mono ?_
        rintro e w20 ⟨rfl, T1⟩
        clear T0
        go_wp2_with fail
        refine (T1.up C1.out C2.out).mono ?_
        rintro e w21 ⟨rfl, T2⟩
        clear T1
        go_wp2_with fail
        refine (T2.up (Q4.out.1.symm.trans C1.out) (Q4.out.2.symm.trans C2.out)).mono ?_
        rintro e w22 ⟨rfl, T3⟩
        clear T2
        go_wp2_with fail
        refine T3.works.mono ?_
        rintro e w23 ⟨rfl, T4⟩
        go_wp2_with fail
        go_ret
        exact ⟨rfl, T4.st.bel⟩
      · have q3 := Lib.hid (up_no (p := p) (v := v) (k := j) (by omega))
        obtain ⟨c, hc⟩ : ∃ c, upV p v ((j : Int) + k) = c := ⟨_, rfl⟩
        obtain ⟨d, hd⟩ : ∃ d, upB p v ((j : Int) + k) = d := ⟨_, rfl⟩
        have C1 := Lib.hid hc; have C2 := Lib.hid hd
        have hj' : (dp p v : Int) < j := by omega
        clear hc hd
        refine (T0.up q3.out.1 q3.out.2).mono ?_
        rintro e w20 ⟨rfl, T1⟩
        clear T0
        go_wp2_with fail
        refine (T1.up C1.out C2.out).mono ?_
        rintro e w22 ⟨rfl, T3⟩
        clear T1
        go_wp2_with fail
        refine T3.works.mono ?_
        rintro e w23 ⟨rfl, T4⟩
        go_wp2_with fail
        go_ret
        exact ⟨rfl, T4.st.bel⟩
end Go.Proofs.YtbjakjgabolkeaaDoor
