/- The walk of the law TriadSimple. No conditions. -/
import Derived.Test.YtjdpkjjlcbgnbaaSimple
namespace Go.Proofs.Ytjdpkjjlcbgnbaa
open Go.RowKit Go.Shelf

set_option maxRecDepth 100000 in
set_option maxHeartbeats 2000000 in
theorem simple_walk (n : Int) (a : Option Addr) (cap : Nat) (E : List Ed) (A : Nat → Addr) (v : Int) (w : World) (hS : ES w w.heap.size (.slice a E.length cap) E A) (hl : E.length ≤ 9223372036854775807) :
    Calls Try.prog 5 #[.int .i64 n, .slice a E.length cap, .int .i64 v] w fun e w' => e = .returned (.bool true) ∧ Below w.heap.size w w' := by
  have HS := Lib.hid hS
  go_enter Try.func5, Try.ntmps5
  go_wp2_with fail
  refine (gnew_any w.heap.size a cap A n E w hS (Nat.le_refl _) hl).mono ?_
  clear hS
  rintro e w1 ⟨hb1, h1⟩
  rcases h1 with ⟨he, rfl⟩ | ⟨b, k, rfl, G, rfl, hG⟩
  · go_wp2_with fail
    refine (works_any w1).mono ?_
    rintro e w2 ⟨rfl, hb2⟩
    go_wp2_with fail
    go_ret
    exact ⟨rfl, stepB hb1 hb2⟩
  have hs1 := hb1.size
  by_cases hsm : (k : Int) ≤ 40
  · by_cases hsl : (E.length : Int) ≤ 70
    · have hk : k ≤ 40 := by omega
      have hV : GV w1 w1.heap.size (.pointer (some ⟨b, 0, none⟩)) (some (k, E)) := ⟨b, rfl, hG⟩
      have hV := Lib.hid hV
      have HS1 := Lib.hid ((HS.out.below hb1).mono hs1)
      have hl70 : E.length ≤ 70 := by omega
      clear hG hl HS
      go_wp2_with fail
      go_loopw [9, 10] (fun t i wr => ∃ q d : Nat, q + d = E.length ∧ i = .int .i64 ((q : Int) - 1) ∧ OwnE w1.heap.size t (twL E d) wr ∧ Below w1.heap.size w1 wr) (fun _ i _ => (intOf i + 1).toNat)
      case atStart => exact ⟨E.length, 0, rfl, rfl, OwnE.nil _ _, Below.refl _ _⟩
      case round =>
        obtain ⟨q, d, hqd, rfl, hown, bel⟩ := hrel
        have hsr := bel.size
        cases q with
        | succ q =>
          rw [show ((q + 1 : Nat) : Int) - 1 = q by omega]
          have hq : q < E.length := by omega
          have h1 := HS1.out.below bel
          have hix := h1.ix q hq
          have eu := ES.u h1 hq
          have ev := ES.v h1 hq
          have ew := ES.w h1 hq
          have hlen := twL_len (E := E) (d := d) (by omega)
          clear h1
          by_cases ho : q % 2 = 0
          · have hrem : (q : Int) % 2 = 0 := by omega
            have He := Lib.hid (twL_even (E := E) (q := q) (d := d) (by omega) ho)
            go_wp2_with fail
            have hownd : wr.drew.ownsRow w1.heap.size 45 3 u9 (twL E d).length (flat (edC (twL E d)) (twL E d).length 3) := hown
            go_region_law (refine step_push (w0 := wr.drew) etE rfl _ _ rfl w1.heap.size _ _ _ hownd rfl #[.int .i64 (eAt E q).v, .int .i64 (eAt E q).u, .int .i64 7] _ rfl rfl rfl (by simp [Value.oneCell']) (by omega) (by omega) bel.size ?_; intro g cp w2 hown1 hg1)
            all_goals
              have bel2 : Below w1.heap.size w1 w2 := bel.drew.grown hg1 bel.size (fun j e => (hownd.lt j e).1)
              have hsr2 := bel2.size
              have heA := HS1.out.below bel2
              have eu2 := ES.u heA hq
              have ev2 := ES.v heA hq
              have ew2 := ES.w heA hq
              obtain ⟨T2, hT2⟩ : ∃ T : List Ed, T = twL E d ++ [⟨(eAt E q).v, (eAt E q).u, 7⟩] := ⟨_, rfl⟩
              have hown2 : OwnE w1.heap.size (.slice (some ⟨g, 0, none⟩) ((twL E d).length + 1 : Nat) cp) T2 w2 := by rw [hT2]; exact OwnE.snoc (x := ⟨(eAt E q).v, (eAt E q).u, 7⟩) hown1
              have hown3 : w2.ownsRow w1.heap.size 45 3 (.slice (some ⟨g, 0, none⟩) ((twL E d).length + 1 : Nat) cp) T2.length (flat (edC T2) T2.length 3) := hown2
              have hlen2 : T2.length ≤ 2 * d + 1 := by rw [hT2, List.length_append, List.length_singleton]; omega
              have HT := Lib.hid hT2
              clear hown hownd hg1 hown1 bel eu ev ew heA hown2 hT2
              go_wp2_with (at_builtin; refine push etE rfl _ _ rfl w1.heap.size _ _ _ hown3 rfl #[.int .i64 (eAt E q).u, .int .i64 (eAt E q).v, .int .i64 (eAt E q).w] _ rfl rfl rfl (by simp [Value.oneCell']) (by omega) (by omega) bel2.size ?_; intro g' cp' w3 hown4 hg2 hv2)
              have bel3 : Below w1.heap.size w1 w3 := bel2.grown hg2 bel2.size (fun j e => (hown3.lt j e).1)
              go_roundw
              case rel => exact ⟨q, d + 1, by omega, by go_num, by rw [He.out, ← HT.out]; exact OwnE.snoc (x := eAt E q) hown4, bel3⟩
              case measure => simp only [intOf]; omega
          · have hrem : (q : Int) % 2 = 1 := by omega
            have He := Lib.hid (twL_odd (E := E) (q := q) (d := d) (by omega) ho)
            go_wp2_with fail
            have hownd : wr.drew.ownsRow w1.heap.size 45 3 u9 (twL E d).length (flat (edC (twL E d)) (twL E d).length 3) := hown
            go_region_law (refine step_push (w0 := wr.drew) etE rfl _ _ rfl w1.heap.size _ _ _ hownd rfl #[.int .i64 (eAt E q).v, .int .i64 (eAt E q).u, .int .i64 7] _ rfl rfl rfl (by simp [Value.oneCell']) (by omega) (by omega) bel.size ?_; intro g cp w2 hown1 hg1)
            all_goals
              have bel2 : Below w1.heap.size w1 w2 := bel.drew.grown hg1 bel.size (fun j e => (hownd.lt j e).1)
              have hown2 : OwnE w1.heap.size (.slice (some ⟨g, 0, none⟩) ((twL E d).length + 1 : Nat) cp) (twL E (d + 1)) w2 := by rw [He.out]; exact OwnE.snoc (x := ⟨(eAt E q).v, (eAt E q).u, 7⟩) hown1
              clear hown hownd hg1 hown1 bel eu ev ew
              go_wp2_with fail
              go_roundw
              case rel => exact ⟨q, d + 1, by omega, by go_num, hown2, bel2⟩
              case measure => simp only [intOf]; omega
        | zero =>
          obtain rfl : d = E.length := by omega
          rw [show ((0 : Nat) : Int) - 1 = -1 from rfl]
          have G2 := twL_ok G hl70
          have hnear := twL_near E
          have hlen := twL_len (E := E) (Nat.le_refl _)
          generalize twL E E.length = T at *
          obtain ⟨a2, cap2, A2, rfl, hR⟩ := Rd.own etE hown
          obtain ⟨e1, e2, e3, e4, e5, e6, e7, e8⟩ := same_all (o := some (k, E)) (o' := some (k, T)) rfl rfl (same_nbr hnear) v
          have hlt := tri_len (show GoG (some (k, E)) from G)
          have hat := atS_le (show GoG (some (k, E)) from G) v
          obtain ⟨x1, hx1⟩ : ∃ x, lcN (some (k, E)) v = x := ⟨_, rfl⟩
          obtain ⟨x2, hx2⟩ : ∃ x, lcD (some (k, E)) v = x := ⟨_, rfl⟩
          obtain ⟨x3, hx3⟩ : ∃ x, lcE (some (k, E)) v = x := ⟨_, rfl⟩
          obtain ⟨y1, hy1⟩ : ∃ x, glN (some (k, E)) = x := ⟨_, rfl⟩
          obtain ⟨y2, hy2⟩ : ∃ x, glD (some (k, E)) = x := ⟨_, rfl⟩
          obtain ⟨y3, hy3⟩ : ∃ x, glE (some (k, E)) = x := ⟨_, rfl⟩
          obtain ⟨z1, hz1⟩ : ∃ x, (tri (some (k, E))).length = x := ⟨_, rfl⟩
          obtain ⟨z2, hz2⟩ : ∃ x, atS (some (k, E)) v = x := ⟨_, rfl⟩
          rw [hx1] at e1; rw [hx2] at e2; rw [hx3] at e3; rw [hy1] at e4; rw [hy2] at e5; rw [hy3] at e6; rw [hz1] at e7 hlt; rw [hz2] at e8 hat
          have X1 := Lib.hid hx1; have X2 := Lib.hid hx2; have X3 := Lib.hid hx3; have Y1 := Lib.hid hy1; have Y2 := Lib.hid hy2; have Y3 := Lib.hid hy3; have Z1 := Lib.hid hz1; have Z2 := Lib.hid hz2
          have E1 := Lib.hid e1; have E2 := Lib.hid e2; have E3 := Lib.hid e3; have E4 := Lib.hid e4; have E5 := Lib.hid e5; have E6 := Lib.hid e6; have E7 := Lib.hid e7; have E8 := Lib.hid e8
          clear hx1 hx2 hx3 hy1 hy2 hy3 hz1 hz2
          have HC := Lib.hid (gnew_any wr.heap.size a2 cap2 A2 k T wr hR (Nat.le_refl _) (by omega))
          have HG := Lib.hid (gErr_ok G2)
          clear e1 e2 e3 e4 e5 e6 e7 e8 hown hnear hR hlen G2
          go_wp2_with fail
          refine HC.out.mono ?_
          rintro e w2 ⟨hb2, h2⟩
          rcases h2 with ⟨h2, _⟩ | ⟨b2, k2, hk2, _, rfl, hG2⟩
          · exact absurd HG.out h2
          obtain rfl : k = k2 := by omega
          have hV2 : GV w2 w2.heap.size (.pointer (some ⟨b2, 0, none⟩)) (some (k, T)) := ⟨b2, rfl, hG2⟩
          have bel2 := stepB bel hb2
          have hs2 := bel2.size
          have HV1 := Lib.hid ((hV.out.below bel2).mono hs2)
          have HV2 := Lib.hid hV2
          clear HC HG hG2 hV2 hk2 hb2 bel
          go_wp2_with fail
          have hs_w2 := hs2
          refine (local_any w2.heap.size (some ⟨b, 0, none⟩) (some (k, E)) v w2 (HV1.out) (by omega)).mono ?_
          rintro e w3 ⟨rfl, hb⟩
          rw [X1.out, X2.out, X3.out]
          have A0 := Two.new w3 x1 x2 35
          have hn : (w3.alloc (.cells #[.int .i64 x1, .int .i64 x2] 35)).heap.size = w3.heap.size + 1 := by simp
          have hsz := hb.size
          have hbn : Below w2.heap.size w2 (w3.alloc (.cells #[.int .i64 x1, .int .i64 x2] 35)) := hb.alloc hb.size _
          have bl : Below w2.heap.size w2 (w3.alloc (.cells #[.int .i64 x1, .int .i64 x2] 35)) := hbn
          clear hb hbn 
          go_wp2_with fail
          generalize w3.alloc (.cells #[.int .i64 x1, .int .i64 x2] 35) = W3 at *
          refine (local_any w2.heap.size (some ⟨b2, 0, none⟩) (some (k, T)) v W3 (HV2.out.below bl) (by omega)).mono ?_
          rintro e w4 ⟨rfl, hb⟩
          rw [E1.out, E2.out, E3.out]
          have B0 := Two.new w4 x1 x2 35
          have hn : (w4.alloc (.cells #[.int .i64 x1, .int .i64 x2] 35)).heap.size = w4.heap.size + 1 := by simp
          have hsz := hb.size
          have hbn : Below W3.heap.size W3 (w4.alloc (.cells #[.int .i64 x1, .int .i64 x2] 35)) := hb.alloc hb.size _
          have A1 := A0.below hbn (by omega)
          have bln : Below w2.heap.size w2 (w4.alloc (.cells #[.int .i64 x1, .int .i64 x2] 35)) := stepB bl hbn
          clear hb hbn A0 bl
          have bl := bln
          clear bln
          go_wp2_with fail
          generalize w4.alloc (.cells #[.int .i64 x1, .int .i64 x2] 35) = W4 at *
          refine (global_any w2.heap.size (some ⟨b, 0, none⟩) (some (k, E)) W4 (HV1.out.below bl) (by omega)).mono ?_
          rintro e w5 ⟨rfl, hb⟩
          rw [Y1.out, Y2.out, Y3.out]
          have C0 := Two.new w5 y1 y2 35
          have hn : (w5.alloc (.cells #[.int .i64 y1, .int .i64 y2] 35)).heap.size = w5.heap.size + 1 := by simp
          have hsz := hb.size
          have hbn : Below W4.heap.size W4 (w5.alloc (.cells #[.int .i64 y1, .int .i64 y2] 35)) := hb.alloc hb.size _
          have A2 := A1.below hbn (by omega)
          have B1 := B0.below hbn (by omega)
          have bln : Below w2.heap.size w2 (w5.alloc (.cells #[.int .i64 y1, .int .i64 y2] 35)) := stepB bl hbn
          clear hb hbn A1 B0 bl
          have bl := bln
          clear bln
          go_wp2_with fail
          generalize w5.alloc (.cells #[.int .i64 y1, .int .i64 y2] 35) = W5 at *
          refine (global_any w2.heap.size (some ⟨b2, 0, none⟩) (some (k, T)) W5 (HV2.out.below bl) (by omega)).mono ?_
          rintro e w6 ⟨rfl, hb⟩
          rw [E4.out, E5.out, E6.out]
          have D0 := Two.new w6 y1 y2 35
          have hn : (w6.alloc (.cells #[.int .i64 y1, .int .i64 y2] 35)).heap.size = w6.heap.size + 1 := by simp
          have hsz := hb.size
          have hbn : Below W5.heap.size W5 (w6.alloc (.cells #[.int .i64 y1, .int .i64 y2] 35)) := hb.alloc hb.size _
          have A3 := A2.below hbn (by omega)
          have B2 := B1.below hbn (by omega)
          have C1 := C0.below hbn (by omega)
          have bln : Below w2.heap.size w2 (w6.alloc (.cells #[.int .i64 y1, .int .i64 y2] 35)) := stepB bl hbn
          clear hb hbn A2 B1 C0 bl
          have bl := bln
          clear bln
          go_wp2_with fail
          generalize w6.alloc (.cells #[.int .i64 y1, .int .i64 y2] 35) = W6 at *
          refine (count_any w2.heap.size (some ⟨b, 0, none⟩) (some (k, E)) W6 (HV1.out.below bl) (by omega)).mono ?_
          rintro e w7 ⟨rfl, hb⟩
          rw [Z1.out]
          have hsz_w7 := hb.size
          have A4 := A3.below hb (by omega)
          have B3 := B2.below hb (by omega)
          have C2 := C1.below hb (by omega)
          have D1 := D0.below hb (by omega)
          have bln := stepB bl hb
          clear bl hb A3 B2 C1 D0
          have bl := bln
          clear bln
          go_wp2_with fail
          refine (count_any w2.heap.size (some ⟨b2, 0, none⟩) (some (k, T)) w7 (HV2.out.below bl) (by omega)).mono ?_
          rintro e w8 ⟨rfl, hb⟩
          rw [E7.out]
          have hsz_w8 := hb.size
          have A5 := A4.below hb (by omega)
          have B4 := B3.below hb (by omega)
          have C3 := C2.below hb (by omega)
          have D2 := D1.below hb (by omega)
          have bln := stepB bl hb
          clear bl hb A4 B3 C2 D1
          have bl := bln
          clear bln
          go_wp2_with fail
          refine (at_count w2.heap.size (some ⟨b, 0, none⟩) (some (k, E)) v w8 (HV1.out.below bl) (by omega)).mono ?_
          rintro e w9 ⟨rfl, hb⟩
          rw [Z2.out]
          have hsz_w9 := hb.size
          have A6 := A5.below hb (by omega)
          have B5 := B4.below hb (by omega)
          have C4 := C3.below hb (by omega)
          have D3 := D2.below hb (by omega)
          have bln := stepB bl hb
          clear bl hb A5 B4 C3 D2
          have bl := bln
          clear bln
          go_wp2_with fail
          refine (at_count w2.heap.size (some ⟨b2, 0, none⟩) (some (k, T)) v w9 (HV2.out.below bl) (by omega)).mono ?_
          rintro e w10 ⟨rfl, hb⟩
          rw [E8.out]
          have hsz_w10 := hb.size
          have A7 := A6.below hb (by omega)
          have B6 := B5.below hb (by omega)
          have C5 := C4.below hb (by omega)
          have D4 := D3.below hb (by omega)
          have bln := stepB bl hb
          clear bl hb A6 B5 C4 D3
          have bl := bln
          clear bln
          have c0A := A7.c0; have c1A := A7.c1
          have c0B := B6.c0; have c1B := B6.c1
          have c0C := C5.c0; have c1C := C5.c1
          have c0D := D4.c0; have c1D := D4.c1
          have q1 : ∀ w, (binOp .eql 35 (.agg #[.int .i64 x1, .int .i64 x2]) (.agg #[.int .i64 x1, .int .i64 x2])).run Try.prog w = .ok (.bool true) w := fun w => by simpa using frac_eq x1 x2 x1 x2 w
          have q2 : ∀ w, (binOp .eql 35 (.agg #[.int .i64 y1, .int .i64 y2]) (.agg #[.int .i64 y1, .int .i64 y2])).run Try.prog w = .ok (.bool true) w := fun w => by simpa using frac_eq y1 y2 y1 y2 w
          clear A7 B6 C5 D4
          go_wp2_with fail
          refine (works_any w10).mono ?_
          rintro e wz ⟨rfl, hb⟩
          go_wp2_with fail
          go_ret
          exact ⟨rfl, stepB hb1 (bel2.trans ((stepB bl hb).mono hs2))⟩
    · clear HS
      have hn70 : ¬ E.length ≤ 70 := by omega
      go_wp2_with fail
      refine (works_any w1).mono ?_
      rintro e w2 ⟨rfl, hb2⟩
      go_wp2_with fail
      go_ret
      exact ⟨rfl, stepB hb1 hb2⟩
  · clear HS
    go_wp2_with fail
    refine (works_any w1).mono ?_
    rintro e w2 ⟨rfl, hb2⟩
    go_wp2_with fail
    go_ret
    exact ⟨rfl, stepB hb1 hb2⟩
end Go.Proofs.Ytjdpkjjlcbgnbaa
