/- The walk of the law TriadOrder. No conditions. -/
import Derived.Test.YtjdpkjjlcbgnbaaOrderL
import Derived.Deep.DeepCutAuto
namespace Go.Proofs.Ytjdpkjjlcbgnbaa
open Go.RowKit Go.Shelf

/-- three Booleans in a block -/
structure Fnd (w : World) (b : Nat) (x y z : Bool) : Prop where
  c0 : w.cell? ⟨b, 0, none⟩ = some (.bool x)
  c1 : w.cell? ⟨b, 1, none⟩ = some (.bool y)
  c2 : w.cell? ⟨b, 2, none⟩ = some (.bool z)
  z : ∀ j : Nat, w.frozen? ⟨b, j, none⟩ = false
theorem Fnd.set0 {w : World} {b : Nat} {x y z : Bool} (h : Fnd w b x y z) (v : Bool) : Fnd (w.setCell ⟨b, 0, none⟩ (.bool v)) b v y z := by
  have c0 := h.c0; have c1 := h.c1; have c2 := h.c2; have hz := h.z
  exact ⟨by go_simp, by go_simp, by go_simp, fun j => by have := hz j; go_simp⟩
theorem Fnd.set1 {w : World} {b : Nat} {x y z : Bool} (h : Fnd w b x y z) (v : Bool) : Fnd (w.setCell ⟨b, 1, none⟩ (.bool v)) b x v z := by
  have c0 := h.c0; have c1 := h.c1; have c2 := h.c2; have hz := h.z
  exact ⟨by go_simp, by go_simp, by go_simp, fun j => by have := hz j; go_simp⟩
theorem Fnd.set2 {w : World} {b : Nat} {x y z : Bool} (h : Fnd w b x y z) (v : Bool) : Fnd (w.setCell ⟨b, 2, none⟩ (.bool v)) b x y v := by
  have c0 := h.c0; have c1 := h.c1; have c2 := h.c2; have hz := h.z
  exact ⟨by go_simp, by go_simp, by go_simp, fun j => by have := hz j; go_simp⟩
/-- three numbers in a block -/
structure Tri3 (w : World) (b : Nat) (x y z : Int) : Prop where
  c0 : w.cell? ⟨b, 0, none⟩ = some (.int .i64 x)
  c1 : w.cell? ⟨b, 1, none⟩ = some (.int .i64 y)
  c2 : w.cell? ⟨b, 2, none⟩ = some (.int .i64 z)
  z : ∀ j : Nat, w.frozen? ⟨b, j, none⟩ = false
theorem Tri3.below {w w' : World} {b B : Nat} {x y z : Int} (h : Tri3 w b x y z) (hb : Below B w w') (hB : b < B) : Tri3 w' b x y z :=
  ⟨(hb.cell hB).trans h.c0, (hb.cell hB).trans h.c1, (hb.cell hB).trans h.c2, fun j => (hb.frozen hB).trans (h.z j)⟩

set_option maxRecDepth 100000 in
set_option maxHeartbeats 4000000 in
theorem order_walk (n : Int) (a : Option Addr) (cap : Nat) (E : List Ed) (A : Nat → Addr) (m : Int) (hm : 0 ≤ m ∧ m ≤ 255) (w : World) (hS : ES w w.heap.size (.slice a E.length cap) E A) (hl : E.length ≤ 9223372036854775807) :
    Calls Try.prog 10 #[.int .i64 n, .slice a E.length cap, .int .u8 m] w fun e w' => e = .returned (.bool true) ∧ Below w.heap.size w w' := by
  have HS := Lib.hid hS
  go_enter Try.func10, Try.ntmps10
  go_wp2_with fail
  refine (gnew_any w.heap.size a cap A n E w hS (Nat.le_refl _) hl).mono ?_
  clear hS
  rintro e w1 ⟨hb1, h1⟩
  rcases h1 with ⟨he, rfl⟩ | ⟨b, k, rfl, G, rfl, hG⟩
  · go_wp2_with fail
    refine (works_any w1).mono ?_
    rintro e w2 ⟨rfl, hb2⟩
    go_wp2_with fail
    go_ret
    exact ⟨rfl, stepB hb1 hb2⟩
  have hs1 := hb1.size
  have hV : GV w1 w1.heap.size (.pointer (some ⟨b, 0, none⟩)) (some (k, E)) := ⟨b, rfl, hG⟩
  have hV := Lib.hid hV
  have HS1 := Lib.hid ((HS.out.below hb1).mono hs1)
  clear hG HS
  by_cases hsm : (k : Int) ≤ 40 ∧ E.length ≤ 150
  · have hx := decide_eq_true hsm
    have hk : k ≤ 40 := by omega
    have hl150 : E.length ≤ 150 := by omega
    clear hsm
    go_wp2_with fail
    refine (small_is hx hl).mono ?_
    rintro e w1' ⟨rfl, rfl⟩
    clear hx
    obtain ⟨T, hT⟩ : ∃ T, tri (some (k, E)) = T := ⟨_, rfl⟩
    have hTl : T.length ≤ 68719476736 := by rw [← hT]; exact tri_len (show GoG (some (k, E)) from G)
    have hTm : ∀ i, i < T.length → _ := fun i hi => mem_tri (show GoG (some (k, E)) from G) (by rw [hT]; exact tAt_mem hi)
    have hTx : ∀ i, i + 1 < T.length → lexL (tAt T i) (tAt T (i + 1)) := fun i hi => by rw [← hT]; exact tAt_lex (by rw [hT]; exact hi)
    have H1 := Lib.hid hT; have H2 := Lib.hid hTm; have H3 := Lib.hid hTx
    clear hT hTm hTx
    go_wp2_with fail
    refine (list_any w1'.heap.size (some ⟨b, 0, none⟩) (some (k, E)) 1099511627776 w1' hV.out (Nat.le_refl _)).mono ?_
    rintro e w2 ⟨v2, rfl, hv2, hb2⟩
    rw [H1.out, show T.take (Int.toNat 1099511627776) = T from List.take_of_length_le (by rw [show Int.toNat 1099511627776 = 1099511627776 from rfl]; omega)] at hv2
    obtain ⟨la, lc, LA, rfl, hRL⟩ := Rd.own etT hv2
    have hs2 := hb2.size
    clear hv2
    go_wp2_with fail
    refine (list_any w1'.heap.size (some ⟨b, 0, none⟩) (some (k, E)) m w2 (hV.out.below hb2) hs2).mono ?_
    rintro e w3 ⟨v3, rfl, hv3, hb3⟩
    rw [H1.out] at hv3
    obtain ⟨fa, fc, FA, rfl, hRF⟩ := Rd.own etT hv3
    have bel3 := stepB hb2 hb3
    have hs3 := bel3.size
    have hFe : (((T.take m.toNat).length : Int) != min (T.length : Int) m) = false := by rw [List.length_take]; simp; omega
    have hFT : (T.take m.toNat).length ≤ T.length := by rw [List.length_take]; omega
    have HF := Lib.hid (show ∀ i, i < (T.take m.toNat).length → tAt (T.take m.toNat) i = tAt T i from fun i hi => tAt_take hi)
    have HRL := Lib.hid ((hRL.below hb3).mono hb3.size)
    have HRF := Lib.hid hRF
    have HS3 := Lib.hid ((HS1.out.below bel3).mono hs3)
    generalize T.take m.toNat = F at *
    clear hv3 hRL hRF HS1
    go_wp2_with fail
    clear hFe
    go_loopw [11] (fun i wr => ∃ q : Nat, q ≤ T.length ∧ i = .int .i64 q ∧ Below w3.heap.size w3 wr) (fun i _ => T.length - (intOf i).toNat)
    case atStart => exact ⟨0, Nat.zero_le _, rfl, Below.refl _ _⟩
    case round =>
      obtain ⟨q, hq, rfl, bel⟩ := hrel
      have hsr := bel.size
      by_cases hlt : q < T.length
      · have h1 := HRL.out.below bel
        have hix := h1.ix q hlt
        obtain ⟨x0, x1, x2, hxe⟩ : ∃ x0 x1 x2, tAt T q = (x0, x1, x2) := ⟨_, _, _, rfl⟩
        have e0 := h1.cell q hlt 0 (by omega)
        have e1 : wr.cell? ⟨(LA q).block, (LA q).off + 1, none⟩ = _ := h1.cell q hlt 1 (by omega)
        have e2 : wr.cell? ⟨(LA q).block, (LA q).off + 2, none⟩ = _ := h1.cell q hlt 2 (by omega)
        rw [add_zero] at e0
        have hlb : (LA q).block < wr.heap.size := Nat.lt_of_lt_of_le (h1.lt q hlt) hsr
        rw [show tC T q 0 = .int .i64 (tAt T q).1 from rfl, hxe] at e0
        rw [show tC T q 1 = .int .i64 (tAt T q).2.1 from rfl, hxe] at e1
        rw [show tC T q 2 = .int .i64 (tAt T q).2.2 from rfl, hxe] at e2
        simp only at e0 e1 e2
        have hmt := H2.out q hlt
        rw [hxe] at hmt
        obtain ⟨p1, p2, p3, p4, n1, n2, n3⟩ := hmt
        simp only at p1 p2 p3 p4 n1 n2 n3
        have p4' : x2 < (k : Int) := p4
        have HX := Lib.hid hxe; have N1 := Lib.hid n1; have N2 := Lib.hid n2; have N3 := Lib.hid n3
        have hT3 : Tri3 (wr.alloc (.cells #[.int .i64 x0, .int .i64 x1, .int .i64 x2] 56)) wr.heap.size x0 x1 x2 := ⟨by go_simp, by go_simp, by go_simp, fun j => by go_simp⟩
        have hb4 : Below wr.heap.size wr (wr.alloc (.cells #[.int .i64 x0, .int .i64 x1, .int .i64 x2] 56)) := (Below.refl _ _).alloc (Nat.le_refl _) _
        have hs4 : (wr.alloc (.cells #[.int .i64 x0, .int .i64 x1, .int .i64 x2] 56)).heap.size = wr.heap.size + 1 := by simp
        clear h1 n1 n2 n3 p4 hxe
        go_upto_region 12 with fail
        generalize wr.alloc (.cells #[.int .i64 x0, .int .i64 x1, .int .i64 x2] 56) = W4 at *
        have c0 := hT3.c0; have c1 := hT3.c1; have c2 := hT3.c2
        have bel4 := stepB bel hb4
        have b1 : decide (x0 < 0) = false := decide_eq_false (by omega)
        have b2 : decide (x1 ≤ x0) = false := decide_eq_false (by omega)
        have b3 : decide (x2 ≤ x1) = false := decide_eq_false (by omega)
        have b4 : decide ((k : Int) ≤ x2) = false := decide_eq_false (by omega)
        go_cut [93] (fun s93 wx => s93 = .bool false ∧ ∃ nq, wx = W4.drewN nq)
        case first =>
          as_aux_lemma =>
            by_cases hqF : q < F.length
            · have h2 := HRF.out.below bel4
              have hix2 := h2.ix q hqF
              have f0 := h2.cell q hqF 0 (by omega)
              have f1 : W4.cell? ⟨(FA q).block, (FA q).off + 1, none⟩ = _ := h2.cell q hqF 1 (by omega)
              have f2 : W4.cell? ⟨(FA q).block, (FA q).off + 2, none⟩ = _ := h2.cell q hqF 2 (by omega)
              rw [add_zero] at f0
              rw [show tC F q 0 = .int .i64 (tAt F q).1 from rfl, HF.out q hqF, HX.out] at f0
              rw [show tC F q 1 = .int .i64 (tAt F q).2.1 from rfl, HF.out q hqF, HX.out] at f1
              rw [show tC F q 2 = .int .i64 (tAt F q).2.2 from rfl, HF.out q hqF, HX.out] at f2
              simp only at f0 f1 f2
              have qn : ∀ w, (binOp .neq 56 (.agg #[.int .i64 x0, .int .i64 x1, .int .i64 x2]) (.agg #[.int .i64 x0, .int .i64 x1, .int .i64 x2])).run Try.prog w = .ok (.bool false) w := fun w => by simpa using arr_neq x0 x1 x2 x0 x1 x2 w
              have b0 : decide ((q : Int) < F.length) = true := decide_eq_true (by omega)
              clear h2
              go_quiet (fail)
              go_wp2_with fail
              go_meet
              exact ⟨rfl, _, rfl⟩
            · have b0 : decide ((q : Int) < F.length) = false := decide_eq_false (by omega)
              go_quiet (fail)
              go_wp2_with fail
              go_meet
              exact ⟨rfl, _, rfl⟩
        case rest =>
          obtain ⟨rfl, nq, rfl⟩ := hcut
          have bel5 : Below w3.heap.size w3 (W4.drewN nq) := below_drewN bel4 nq
          have hT5 : Tri3 (W4.drewN nq) wr.heap.size x0 x1 x2 := hT3.below (below_drewN (Below.refl W4.heap.size W4) nq) (by omega)
          have hs5 : (W4.drewN nq).heap.size = wr.heap.size + 1 := hs4
          clear c0 c1 c2 hT3 hb4 bel4 hs4 e0 e1 e2 hlb hix b1 b2 b3 b4
          generalize W4.drewN nq = W5 at *
          have c0 := hT5.c0; have c1 := hT5.c1; have c2 := hT5.c2
          go_upto_if 95 with (fail)
          go_cut [13] (fun _ wx => Below W5.heap.size W5 wx)
          case first =>
            as_aux_lemma =>
              by_cases hq0 : q = 0
              · have b0 : decide ((0 : Int) < q) = false := decide_eq_false (by omega)
                go_wp2_with fail
                go_meet
                exact Below.refl _ _
              · have b0 : decide ((0 : Int) < q) = true := decide_eq_true (by omega)
                obtain ⟨q', hq'⟩ : ∃ q', q = q' + 1 := ⟨q - 1, by omega⟩
                have h3 := HRL.out.below bel5
                have hix3 := h3.ix q' (by omega)
                rw [show ((q' : Nat) : Int) = (q : Int) - 1 by omega] at hix3
                obtain ⟨y0, y1, y2, hye⟩ : ∃ x0 x1 x2, tAt T q' = (x0, x1, x2) := ⟨_, _, _, rfl⟩
                have e0 := h3.cell q' (by omega) 0 (by omega)
                have e1 : W5.cell? ⟨(LA q').block, (LA q').off + 1, none⟩ = _ := h3.cell q' (by omega) 1 (by omega)
                have e2 : W5.cell? ⟨(LA q').block, (LA q').off + 2, none⟩ = _ := h3.cell q' (by omega) 2 (by omega)
                rw [add_zero] at e0
                rw [show tC T q' 0 = .int .i64 (tAt T q').1 from rfl, hye] at e0
                rw [show tC T q' 1 = .int .i64 (tAt T q').2.1 from rfl, hye] at e1
                rw [show tC T q' 2 = .int .i64 (tAt T q').2.2 from rfl, hye] at e2
                simp only at e0 e1 e2
                have hlx := H3.out q' (by omega)
                rw [hye, ← hq', HX.out] at hlx
                have hlb : (LA q').block < W5.heap.size := Nat.lt_of_lt_of_le (h3.lt q' (by omega)) bel5.size
                have hb6 : Below W5.heap.size W5 (W5.alloc (.cells #[.int .i64 y0, .int .i64 y1, .int .i64 y2] 56)) := (Below.refl _ _).alloc (Nat.le_refl _) _
                clear h3 hye hq'
                rcases hlx with hc | ⟨hc, hc2 | ⟨hc2, hc3⟩⟩
                · simp only at hc
                  have k1 : decide (x0 < y0) = false := decide_eq_false (by omega)
                  have k2 : (y0 == x0) = false := by simp; omega
                  go_wp2_with fail
                  go_meet
                  exact hb6
                · simp only at hc hc2
                  subst hc
                  have k1 : decide (y0 < y0) = false := decide_eq_false (by omega)
                  have k2 : (y0 == y0) = true := by simp
                  have k3 : decide (x1 < y1) = false := decide_eq_false (by omega)
                  have k4 : (y1 == x1) = false := by simp; omega
                  go_wp2_with fail
                  go_meet
                  exact hb6
                · simp only at hc hc2 hc3
                  subst hc; subst hc2
                  have k1 : decide (y0 < y0) = false := decide_eq_false (by omega)
                  have k2 : (y0 == y0) = true := by simp
                  have k3 : decide (y1 < y1) = false := decide_eq_false (by omega)
                  have k4 : (y1 == y1) = true := by simp
                  have k5 : decide (x2 ≤ y2) = false := decide_eq_false (by omega)
                  go_wp2_with fail
                  go_meet
                  exact hb6
          case rest =>
            rename World => wq
            have hT7 := hT5.below hcut (by omega)
            have bel7 := stepB bel5 hcut
            clear c0 c1 c2 hT5
            have c0 := hT7.c0; have c1 := hT7.c1; have c2 := hT7.c2
            have hE7 := HS3.out.below bel7
            have HE7 := Lib.hid hE7
            have hF8 : Fnd (wq.alloc (.cells #[.bool false, .bool false, .bool false] 57)) wq.heap.size (nearTo E x0 x1 0) (nearTo E x0 x2 0) (nearTo E x1 x2 0) := ⟨by go_simp; rfl, by go_simp; rfl, by go_simp; rfl, fun j => by go_simp⟩
            have hb8 : Below wq.heap.size wq (wq.alloc (.cells #[.bool false, .bool false, .bool false] 57)) := (Below.refl _ _).alloc (Nat.le_refl _) _
            have hs8 : (wq.alloc (.cells #[.bool false, .bool false, .bool false] 57)).heap.size = wq.heap.size + 1 := by simp
            have hs7 := bel7.size
            have hwc := hcut.size
            clear hE7
            go_wp2_with fail
            generalize wq.alloc (.cells #[.bool false, .bool false, .bool false] 57) = W8 at *
            have HT8 := Lib.hid (hT7.below hb8 (by omega))
            have HE8 := Lib.hid (HE7.out.below (hb8.mono hs7))
            have hTb : wr.heap.size < wq.heap.size := by omega
            have hB8 : Below wq.heap.size W8 W8 := Below.refl _ _
            clear c0 c1 c2 hT7
            go_loopw [15, 16, 17] (fun s _ _ wz => ∃ r : Nat, r ≤ E.length ∧ s = .int .i64 r ∧ Below wq.heap.size W8 wz ∧ Fnd wz wq.heap.size (nearTo E x0 x1 r) (nearTo E x0 x2 r) (nearTo E x1 x2 r)) (fun i _ _ _ => E.length - (intOf i).toNat)
            case atStart => exact ⟨0, Nat.zero_le _, rfl, hB8, hF8⟩
            case round =>
              obtain ⟨r, hr, rfl, belz, hFz⟩ := hrel
              rename_i wz _
              have hsz := belz.size
              by_cases hrl : r < E.length
              · have hE := HE8.out.below (belz.mono hs7)
                have hixe := hE.ix r hrl
                have eu := ES.u hE hrl
                have ev := ES.v hE hrl
                have hT := HT8.out.below belz hTb
                clear hE
                go_upto_region 22 with fail
                go_region
                go_wp2_with fail
                go_region
                obtain ⟨xm, hxm⟩ : ∃ xm, min (eAt E r).u (eAt E r).v = xm := ⟨_, rfl⟩
                obtain ⟨ym, hym⟩ : ∃ ym, max (eAt E r).u (eAt E r).v = ym := ⟨_, rfl⟩
                have hmm : ((eAt E r).u ≤ (eAt E r).v ∧ xm = (eAt E r).u ∧ ym = (eAt E r).v) ∨ ((eAt E r).v < (eAt E r).u ∧ xm = (eAt E r).v ∧ ym = (eAt E r).u) := by omega
                have n1 := nearTo_mm (a := x0) (b := x1) hrl (by omega) hmm
                have n2 := nearTo_mm (a := x0) (b := x2) hrl (by omega) hmm
                have n3 := nearTo_mm (a := x1) (b := x2) hrl (by omega) hmm
                rw [hxm, hym]
                clear hmm hxm hym eu ev hixe
                have M1 := Lib.hid n1; have M2 := Lib.hid n2; have M3 := Lib.hid n3
                have belA := belz.drew.drew
                have FA : Fnd wr.drew.drew wq.heap.size (nearTo E x0 x1 r) (nearTo E x0 x2 r) (nearTo E x1 x2 r) := ⟨hFz.c0, hFz.c1, hFz.c2, hFz.z⟩
                have TA : Tri3 wr.drew.drew _ x0 x1 x2 := ⟨hT.c0, hT.c1, hT.c2, hT.z⟩
                have TA := Lib.hid TA
                have hszA := belA.size
                clear n1 n2 n3 hT hFz belz hsz
                generalize wr.drew.drew = Wa at *
                go_upto_region 24 with fail
                have TB := TA.out
                have c0 := TB.c0; have c1 := TB.c1; have c2 := TB.c2
                have d0 := FA.c0; have d1 := FA.c1; have d2 := FA.c2; have dz := FA.z 0
                go_cut [] (fun wx => Below wq.heap.size W8 wx ∧ Fnd wx wq.heap.size (nearTo E x0 x1 (r + 1)) (nearTo E x0 x2 r) (nearTo E x1 x2 r))
                case first =>
                  as_aux_lemma =>
                    have nn := M1.out
                    clear M1 M2 M3
                    generalize nearTo E x0 x1 (r + 1) = g at *
                    generalize nearTo E x0 x1 r = f at *
                    cases f with
                    | true =>
                      obtain rfl : g = true := by rw [nn]; rfl
                      clear nn
                      go_wp2_with fail
                      go_meet
                      exact ⟨belA.setCell (Nat.le_refl _) _, FA.set0 _⟩
                    | false =>
                      cases hx : (xm == x0) with
                      | false =>
                        obtain rfl : g = false := by rw [nn, hx]; rfl
                        clear nn
                        go_wp2_with fail
                        go_meet
                        exact ⟨belA.setCell (Nat.le_refl _) _, FA.set0 _⟩
                      | true =>
                        cases hy : (ym == x1) with
                        | false =>
                          obtain rfl : g = false := by rw [nn, hx, hy]; rfl
                          clear nn
                          go_wp2_with fail
                          go_meet
                          exact ⟨belA.setCell (Nat.le_refl _) _, FA.set0 _⟩
                        | true =>
                          obtain rfl : g = true := by rw [nn, hx, hy]; rfl
                          clear nn
                          go_wp2_with fail
                          go_meet
                          exact ⟨belA.setCell (Nat.le_refl _) _, FA.set0 _⟩
                case rest =>
                  obtain ⟨belB, FB⟩ := hcut
                  have TA' := Lib.hid (HT8.out.below belB hTb)
                  clear TB c0 c1 c2 d0 d1 d2 dz TA FA belA hszA
                  have TA := TA'
                  have FA := FB
                  have belA := belB
                  have hszA := belA.size
                  clear TA' FB belB
                  go_upto_region 25 with fail
                  have TB := TA.out
                  have c0 := TB.c0; have c1 := TB.c1; have c2 := TB.c2
                  have d0 := FA.c0; have d1 := FA.c1; have d2 := FA.c2; have dz := FA.z 1
                  go_cut [] (fun wx => Below wq.heap.size W8 wx ∧ Fnd wx wq.heap.size (nearTo E x0 x1 (r + 1)) (nearTo E x0 x2 (r + 1)) (nearTo E x1 x2 r))
                  case first =>
                    as_aux_lemma =>
                      have nn := M2.out
                      clear M1 M2 M3
                      generalize nearTo E x0 x2 (r + 1) = g at *
                      generalize nearTo E x0 x2 r = f at *
                      cases f with
                      | true =>
                        obtain rfl : g = true := by rw [nn]; rfl
                        clear nn
                        go_wp2_with fail
                        go_meet
                        exact ⟨belA.setCell (Nat.le_refl _) _, FA.set1 _⟩
                      | false =>
                        cases hx : (xm == x0) with
                        | false =>
                          obtain rfl : g = false := by rw [nn, hx]; rfl
                          clear nn
                          go_wp2_with fail
                          go_meet
                          exact ⟨belA.setCell (Nat.le_refl _) _, FA.set1 _⟩
                        | true =>
                          cases hy : (ym == x2) with
                          | false =>
                            obtain rfl : g = false := by rw [nn, hx, hy]; rfl
                            clear nn
                            go_wp2_with fail
                            go_meet
                            exact ⟨belA.setCell (Nat.le_refl _) _, FA.set1 _⟩
                          | true =>
                            obtain rfl : g = true := by rw [nn, hx, hy]; rfl
                            clear nn
                            go_wp2_with fail
                            go_meet
                            exact ⟨belA.setCell (Nat.le_refl _) _, FA.set1 _⟩
                  case rest =>
                    obtain ⟨belB, FB⟩ := hcut
                    have TA' := Lib.hid (HT8.out.below belB hTb)
                    clear TB c0 c1 c2 d0 d1 d2 dz TA FA belA hszA
                    have TA := TA'
                    have FA := FB
                    have belA := belB
                    have hszA := belA.size
                    clear TA' FB belB
                    have TB := TA.out
                    have c0 := TB.c0; have c1 := TB.c1; have c2 := TB.c2
                    have d0 := FA.c0; have d1 := FA.c1; have d2 := FA.c2; have dz := FA.z 2
                    have nn := M3.out
                    clear M1 M2 M3
                    have RL : ∀ v, v = nearTo E x1 x2 (r + 1) → Fnd (wc.setCell ⟨wq.heap.size, 2, none⟩ (.bool v)) wq.heap.size (nearTo E x0 x1 (r + 1)) (nearTo E x0 x2 (r + 1)) (nearTo E x1 x2 (r + 1)) := fun v hv => by rw [← hv]; exact FA.set2 v
                    have RL := Lib.hid RL
                    clear FA
                    cases hf : nearTo E x1 x2 r with
                    | true =>
                      have gv : true = nearTo E x1 x2 (r + 1) := by rw [nn, hf]; rfl
                      have FF := Lib.hid (RL.out _ gv)
                      rw [hf] at d2
                      clear nn hf gv
                      go_wp2_with fail
                      go_roundw
                      case rel => exact ⟨r + 1, by omega, by go_num, belA.setCell (Nat.le_refl _) _, FF.out⟩
                      case measure => simp only [intOf]; omega
                    | false =>
                      rw [hf] at d2
                      cases hx : (xm == x1) with
                      | false =>
                        have gv : false = nearTo E x1 x2 (r + 1) := by rw [nn, hf, hx]; rfl
                        have FF := Lib.hid (RL.out _ gv)
                        clear nn hf gv
                        go_wp2_with fail
                        go_roundw
                        case rel => exact ⟨r + 1, by omega, by go_num, belA.setCell (Nat.le_refl _) _, FF.out⟩
                        case measure => simp only [intOf]; omega
                      | true =>
                        cases hy : (ym == x2) with
                        | false =>
                          have gv : false = nearTo E x1 x2 (r + 1) := by rw [nn, hf, hx, hy]; rfl
                          have FF := Lib.hid (RL.out _ gv)
                          clear nn hf gv
                          go_wp2_with fail
                          go_roundw
                          case rel => exact ⟨r + 1, by omega, by go_num, belA.setCell (Nat.le_refl _) _, FF.out⟩
                          case measure => simp only [intOf]; omega
                        | true =>
                          have gv : true = nearTo E x1 x2 (r + 1) := by rw [nn, hf, hx, hy]; rfl
                          have FF := Lib.hid (RL.out _ gv)
                          clear nn hf gv
                          go_wp2_with fail
                          go_roundw
                          case rel => exact ⟨r + 1, by omega, by go_num, belA.setCell (Nat.le_refl _) _, FF.out⟩
                          case measure => simp only [intOf]; omega
              · obtain rfl : r = E.length := by omega
                have g1 := N1.out; have g2 := N2.out; have g3 := N3.out
                have hFz' := hFz
                rw [nearTo_end, nearTo_end, nearTo_end, show nearB E x0 x1 = true from g1, show nearB E x0 x2 = true from g2, show nearB E x1 x2 = true from g3] at hFz'
                have d0 := hFz'.c0; have d1 := hFz'.c1; have d2 := hFz'.c2
                clear hFz hFz' g1 g2 g3
                go_wp2_with fail
                go_roundw
                case rel => exact ⟨q + 1, by omega, by go_num, stepB bel7 (hb8.trans belz)⟩
                case measure => simp only [intOf]; omega
      · obtain rfl : q = T.length := by omega
        go_wp2_with fail
        refine (works_any wr).mono ?_
        rintro e w2 ⟨rfl, hb2⟩
        go_wp2_with fail
        go_ret
        exact ⟨rfl, stepB hb1 (bel3.trans ((stepB bel hb2).mono hs3))⟩
  · have hx := decide_eq_false hsm
    clear hsm
    go_wp2_with fail
    refine (small_is hx hl).mono ?_
    rintro e w1' ⟨rfl, rfl⟩
    go_wp2_with fail
    refine (works_any w1').mono ?_
    rintro e w2 ⟨rfl, hb2⟩
    go_wp2_with fail
    go_ret
    exact ⟨rfl, hb1.trans (hb2.mono hs1)⟩
end Go.Proofs.Ytjdpkjjlcbgnbaa
