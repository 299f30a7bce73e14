/- The walk of the law ClusterIgnores. Conditions: the links are in range. -/
import Derived.Test.YtibdggbejogciaaCvB
import Derived.Test.YtibdggbejogciaaCk
import Derived.Test.YtibdggbejogciaaCvPi
import Derived.IntWalk
namespace Go.Proofs.Ytibdggbejogciaa
open Go.RowKit

/-- further edges in memory: those from the k-th on are as they were -/
def MoreAt (w : World) (g : Nat) (M : List Ed) (k : Nat) : Prop := ∃ f, Row w g (3 * M.length) f ∧ ∀ i, k ≤ i → i < M.length → ∀ j, j < 3 → f (i * 3 + j) = edC M i j
theorem MoreAt.of {base : Nat} {v : Value} {M : List Ed} {w : World} (h : OwnE base v M w) : ∃ (a : Option Addr) (cap g : Nat), v = .slice a M.length cap ∧ (0 < M.length → a = some ⟨g, 0, none⟩ ∧ base ≤ g ∧ g < w.heap.size ∧ MoreAt w g M 0) := by
  rcases h.2 with ⟨h0, h1⟩ | ⟨g, cap, cur, h1, hb, hg, _, _, _, ht⟩
  · exact ⟨none, 0, 0, by rw [h0, h1], fun c => by omega⟩
  · refine ⟨_, cap, g, h1, fun _ => ⟨rfl, hb, (Array.getElem?_eq_some_iff.1 hg).1, fun q => edC M (q / 3) (q % 3), ⟨cur, _, hg, fun q hq => ?_⟩, fun i _ hi j hj => ?_⟩⟩
    · have h2 := flat_at (f := edC M) (n := M.length) (size := 3) (i := q / 3) (j := q % 3) (by omega) (by omega)
      rw [show q / 3 * 3 + q % 3 = q by omega, ← ht, List.getElem?_take, if_pos (by omega), Array.getElem?_toList] at h2
      exact h2
    · dsimp only
      rw [show (i * 3 + j) / 3 = i by omega, show (i * 3 + j) % 3 = j by omega]
section
variable {w w' : World} {g k : Nat} {M : List Ed}
theorem MoreAt.cell (h : MoreAt w g M k) (hk : k < M.length) {j : Nat} (hj : j < 3) : w.cell? ⟨g, k * 3 + j, none⟩ = some (edC M k j) := by
  obtain ⟨f, h1, h2⟩ := h
  rw [h1.cell (by omega), h2 k (Nat.le_refl _) hk j hj]
theorem MoreAt.frozen (h : MoreAt w g M k) (q : Nat) : w.frozen? ⟨g, q, none⟩ = false := by
  obtain ⟨f, h1, _⟩ := h
  exact h1.frozen q
theorem MoreAt.of_block (h : MoreAt w g M k) (e : w'.heap[g]? = w.heap[g]?) : MoreAt w' g M k := by
  obtain ⟨f, h1, h2⟩ := h
  exact ⟨f, h1.of_block e, h2⟩
theorem MoreAt.next (h : MoreAt w g M k) : MoreAt w g M (k + 1) := by
  obtain ⟨f, h1, h2⟩ := h
  exact ⟨f, h1, fun i hi => h2 i (by omega)⟩
theorem MoreAt.set (h : MoreAt w g M k) (v : Value) : MoreAt (w.setCell ⟨g, k * 3 + 2, none⟩ v) g M (k + 1) := by
  obtain ⟨f, h1, h2⟩ := h
  refine ⟨_, h1.set (k * 3 + 2) v, fun i hi hl j hj => ?_⟩
  rw [if_neg (by omega), h2 i (by omega) hl j hj]
theorem MoreAt.lt (h : MoreAt w g M k) : g < w.heap.size := by
  obtain ⟨f, h1, _⟩ := h
  exact h1.lt
end
theorem grown_set (w : World) (g q : Nat) (v : Value) : w.grownBy (w.setCell ⟨g, q, none⟩ v) (some g) :=
  ⟨rfl, rfl, rfl, by simp, fun k _ hne => Below.heap_setCell _ _ _ _ (fun e => hne (by rw [e]))⟩
theorem moreIx {cap g n k : Nat} (hk : k < n) (w : World) : (Instr.indexAt 26 (.slice (some ⟨g, 0, none⟩) n cap) (.int .i64 (k : Nat))).run Try.prog w = .ok (.pointer (some ⟨g, k * 3, none⟩)) w := by
  have h1 : (0 : Int) ≤ (k : Int) ∧ (k : Int) < (n : Int) := by omega
  have he : Try.prog.elem 26 = 29 := by simp [Program.elem, etE.ht]
  rw [run_indexAt_slice w 26 ⟨g, 0, none⟩ n cap .i64 k (by rw [etE.ht, he]), if_pos h1, he, etE.size]
  simp [Result.andThen, add_mk]
set_option maxRecDepth 100000 in
set_option maxHeartbeats 2000000 in
theorem cignores_walk (B : Nat) (a c : Option Addr) (cap cap' : Nat) (A C : Nat → Addr) (L M : List Lk) (θ : Int) (w : World) (hS : LS w B (.slice a L.length cap) L A) (hT : LS w B (.slice c M.length cap') M C) (hB : B ≤ w.heap.size) (hr : LkR L) (hr' : LkR M) (bd : -9223372036854775808 ≤ θ ∧ θ ≤ 9223372036854775807) :
    Calls Try.prog 3 #[.slice a L.length cap, .slice c M.length cap', .int .i64 θ] w fun e w' => e = .returned (.bool true) ∧ Below w.heap.size w w' := by
  have HS := Lib.hid hS; have HR := Lib.hid hr; have HS' := Lib.hid hT; have HR' := Lib.hid hr'
  clear hS hr hT hr'
  by_cases hl : L.length ≤ 120 ∧ M.length ≤ 60 ∧ θ ≠ 9223372036854775807
  · have k0 : decide ((L.length : Int) > 120) = false := decide_eq_false (by omega)
    have k0' : decide ((120 : Int) < (L.length : Int)) = false := decide_eq_false (by omega)
    have k1 : decide ((M.length : Int) > 60) = false := decide_eq_false (by omega)
    have k1' : decide ((60 : Int) < (M.length : Int)) = false := decide_eq_false (by omega)
    have k2 : (θ == 9223372036854775807) = false := by simpa using hl.2.2
    have k2' : decide (θ = 9223372036854775807) = false := decide_eq_false hl.2.2
    have hw : IntKind.i64.wrap (θ + 1) = θ + 1 := IntWalk.i64_in _ (by omega)
    go_enter Try.func3, Try.ntmps3
    go_wp2_with fail
    refine (made_any B a cap A L w HS.out hB HR.out hl.1).mono ?_
    rintro e w1 ⟨vb, rfl, hv, b1⟩
    have HV1 := Lib.hid hv; have B1 := Lib.hid b1
    clear hv b1
    go_wp2_with fail
    refine (built_any B a cap 30 A L w1 (HS.out.below (B1.out.mono hB)) (Nat.le_trans hB B1.out.size) HR.out (by omega) (by decide) (by decide)).mono ?_
    rintro e w2 ⟨lv, rfl, ho, b2⟩
    have HO2 := Lib.hid ho; have B2 := Lib.hid b2
    clear ho b2
    go_wp2_with fail
    refine (built_any B c cap' 30 C M w2 (HS'.out.below ((B1.out.trans (B2.out.mono B1.out.size)).mono hB)) (Nat.le_trans hB (Nat.le_trans B1.out.size B2.out.size)) HR'.out (by omega) (by decide) (by decide)).mono ?_
    rintro e w3 ⟨mv, rfl, hm, b3⟩
    obtain ⟨ma, mc, mg, rfl, hmg⟩ := MoreAt.of hm
    have hne : 0 < (bltE 30 M).length → lv.ownBlock ≠ some mg := fun h0 c => by
      have h1 := HO2.out.lt mg c
      have h2 := (hmg h0).2.1
      omega
    have hb12 := B2.out.size
    have b3' : Below w1.heap.size w1 w3 := B2.out.trans (b3.mono B2.out.size)
    have HO3 := Lib.hid (HO2.out.below b3)
    have hle2 := bltE_len 30 L
    have hle3 := bltE_len 30 M
    have HG := Lib.hid (And.intro (bltE_ok (n := 30) (L := L) (by decide) (by decide) (by omega)) (bltE_ok (n := 30) (L := M) (by decide) (by decide) (by omega)))
    obtain ⟨E, hE⟩ : ∃ x, bltE 30 L = x := ⟨_, rfl⟩
    obtain ⟨T, hT⟩ : ∃ x, bltE 30 M = x := ⟨_, rfl⟩
    rw [hE] at HO3 HV1 hle2 HG
    rw [hT] at hmg hne hle3 HG ⊢
    obtain ⟨n, hn⟩ : ∃ x, T.length = x := ⟨_, rfl⟩
    have Hn := Lib.hid hn
    rw [hn] at hmg hne hle3 ⊢
    have HM3 := Lib.hid hmg; have HNe := Lib.hid hne; have B3 := Lib.hid b3'
    have HB1 : B ≤ w1.heap.size := Nat.le_trans hB B1.out.size
    clear hm hmg hne b3 b3' B2 HO2 hE hT hn HS HS' HR HR'
    go_wp2_with fail
    go_loopw [8, 10] (fun v iv wr => ∃ k : Nat, k ≤ n ∧ iv = .int .i64 (k : Nat) ∧ Hid (OwnE w1.heap.size v (E ++ (T.take k).map (upE θ)) wr) ∧ Hid (0 < n → v.ownBlock ≠ some mg ∧ ma = some ⟨mg, 0, none⟩ ∧ w1.heap.size ≤ mg ∧ MoreAt wr mg T k) ∧ Hid (Below w1.heap.size w1 wr)) (fun _ iv _ => n - (intOf iv).toNat)
    case atStart => exact ⟨0, Nat.zero_le _, rfl, Lib.hid (by simpa using HO3.out), Lib.hid fun h0 => ⟨HNe.out h0, (HM3.out h0).1, Nat.le_trans hb12 (HM3.out h0).2.1, (HM3.out h0).2.2.2⟩, B3⟩
    case round =>
      obtain ⟨k, hk, rfl, HO, HM, BW⟩ := hrel
      by_cases hlt : k < n
      · obtain ⟨hne, rfl, hmg, hM⟩ := HM.out (by omega)
        have ix := fun w => moreIx (cap := mc) (g := mg) hlt w
        have hkT : k < T.length := by have := Hn.out; omega
        have c0 := hM.cell hkT (j := 0) (by omega)
        have c1 := hM.cell hkT (j := 1) (by omega)
        have c2 := hM.cell hkT (j := 2) (by omega)
        have f2 := hM.frozen (k * 3 + 2)
        rw [Nat.add_zero] at c0
        unfold edC at c0 c1 c2
        have HUt := Lib.hid (up_take (E := E) (θ := θ) hkT)
        have hlen : (E ++ (T.take k).map (upE θ)).length ≤ 16384 := by rw [List.length_append, List.length_map, List.length_take]; omega
        obtain ⟨P, hP⟩ : ∃ P, E ++ (T.take k).map (upE θ) = P := ⟨_, rfl⟩
        rw [hP] at HO HUt hlen
        clear hP
        obtain ⟨u, hu⟩ : ∃ x, (eAt T k).u = x := ⟨_, rfl⟩
        obtain ⟨v, hv⟩ : ∃ x, (eAt T k).v = x := ⟨_, rfl⟩
        obtain ⟨x, hx⟩ : ∃ x, (eAt T k).w = x := ⟨_, rfl⟩
        rw [hu] at c0; rw [hv] at c1; rw [hx] at c2
        have hsz : w1.heap.size ≤ wr.heap.size := BW.out.size
        have HNe2 := Lib.hid hne; have HMA := Lib.hid hM
        by_cases hc : x ≤ θ
        · have d1 : decide (x ≤ θ) = true := decide_eq_true hc
          have HOW := Lib.hid (show (wr.setCell ⟨mg, k * 3 + 2, none⟩ (.int .i64 (θ + 1))).ownsRow w1.heap.size 29 3 u8 P.length (flat (edC P) P.length 3) from HO.out.kept (grown_set _ _ _ _) (.inr hne))
          have HMS := Lib.hid (show MoreAt (wr.setCell ⟨mg, k * 3 + 2, none⟩ (.int .i64 (θ + 1))) mg T (k + 1) from hM.set _)
          have bS : Below w1.heap.size w1 (wr.setCell ⟨mg, k * 3 + 2, none⟩ (.int .i64 (θ + 1))) := BW.out.trans ⟨rfl, rfl, rfl, by simp, fun j hj => Below.heap_setCell _ _ _ _ (by show j ≠ mg; omega)⟩
          have hup : upE θ (eAt T k) = ⟨u, v, θ + 1⟩ := by unfold upE; rw [hu, hv, hx, if_pos hc]
          rw [hup] at HUt
          have BS := Lib.hid bS
          clear bS hu hv hx hc hM hup
          go_wp2_with (at_builtin; refine push etE rfl _ _ rfl w1.heap.size _ _ _ HOW.out rfl #[.int .i64 u, .int .i64 v, .int .i64 (θ + 1)] _ rfl (by simp) rfl (by simp [Value.oneCell']) (by omega) (by omega) BS.out.size ?_; intro g cp w5 hown5 hg5 hv5)
          have hb5 : Below w1.heap.size w1 w5 := BS.out.grown hg5 BS.out.size (fun j e => (HOW.out.lt j e).1)
          have hlt5 := HMS.out.lt
          go_roundw
          case rel =>
            refine ⟨k + 1, by omega, by go_num, Lib.hid ?_, Lib.hid fun _ => ⟨?_, by first | trivial | rfl, hmg, HMS.out.of_block (hg5.block mg hlt5 fun e => HNe2.out e.symm)⟩, Lib.hid hb5⟩
            · rw [HUt.out]
              exact OwnE.snoc (x := ⟨u, v, (θ + 1)⟩) hown5
            · intro e
              have e : g = mg := Option.some.inj e
              rcases hv5 with h | h
              · rw [e] at h; exact HNe2.out h
              · omega
          case measure => simp only [intOf]; omega
        · have d1 : decide (x ≤ θ) = false := decide_eq_false hc
          have HOW := Lib.hid (show wr.ownsRow w1.heap.size 29 3 u8 P.length (flat (edC P) P.length 3) from HO.out)
          have HMS := Lib.hid (show MoreAt wr mg T (k + 1) from hM.next)
          have bS : Below w1.heap.size w1 wr := BW.out
          have hup : upE θ (eAt T k) = ⟨u, v, x⟩ := by unfold upE; rw [hx, if_neg hc, ← hu, ← hv, ← hx]
          rw [hup] at HUt
          have BS := Lib.hid bS
          clear bS hu hv hx hc hM hup
          go_wp2_with (at_builtin; refine push etE rfl _ _ rfl w1.heap.size _ _ _ HOW.out rfl #[.int .i64 u, .int .i64 v, .int .i64 x] _ rfl rfl rfl (by simp [Value.oneCell']) (by omega) (by omega) BS.out.size ?_; intro g cp w5 hown5 hg5 hv5)
          have hb5 : Below w1.heap.size w1 w5 := BS.out.grown hg5 BS.out.size (fun j e => (HOW.out.lt j e).1)
          have hlt5 := HMS.out.lt
          go_roundw
          case rel =>
            refine ⟨k + 1, by omega, by go_num, Lib.hid ?_, Lib.hid fun _ => ⟨?_, by first | trivial | rfl, hmg, HMS.out.of_block (hg5.block mg hlt5 fun e => HNe2.out e.symm)⟩, Lib.hid hb5⟩
            · rw [HUt.out]
              exact OwnE.snoc (x := ⟨u, v, x⟩) hown5
            · intro e
              have e : g = mg := Option.some.inj e
              rcases hv5 with h | h
              · rw [e] at h; exact HNe2.out h
              · omega
          case measure => simp only [intOf]; omega
      · have hkn : k = n := by omega
        subst hkn
        have hO := HO.out
        rw [List.take_of_length_le (by have := Hn.out; omega)] at hO
        obtain ⟨ea, ec, EA, rfl, hE⟩ := hO.rd
        have HE := Lib.hid hE
        have hG := app_ok (θ := θ) HG.out.1 HG.out.2 (by have := Hn.out; omega)
        have HG2 := Lib.hid hG
        have HLb := Lib.hid (lbW_app (E := E) (M := T.map (upE θ)) (θ := θ) upE_all)
        have hlen : (E ++ T.map (upE θ)).length ≤ 16384 := hG.m_le
        clear hO hE HO HM HM3 HNe hG
        obtain ⟨F, hF⟩ : ∃ F, E ++ T.map (upE θ) = F := ⟨_, rfl⟩
        rw [hF] at HE HG2 HLb hlen ⊢
        clear hF
        go_wp2_with fail
        refine (cnew_any wr.heap.size _ _ EA 30 _ wr HE.out (Nat.le_refl _) (by omega)).mono ?_
        rintro e w5 ⟨b5, ⟨h0, _⟩ | ⟨q, vc, hq, G, rfl, hvc⟩⟩
        · exact absurd (gErr_ok HG2.out) h0
        obtain rfl : q = 30 := by omega
        have HC5 := Lib.hid hvc
        have HV5 := Lib.hid (((HV1.out.at BW.out)).at b5)
        have B5 := Lib.hid ((B1.out.trans (BW.out.mono B1.out.size)).trans (b5.mono (Nat.le_trans B1.out.size BW.out.size)))
        clear b5 hvc HE hq G BW HV1 B1
        go_wp2_with fail
        refine (clabels_any vb 30 _ θ w5 HV5.out).mono ?_
        rintro e w6 ⟨v6, rfl, hl6, b6⟩
        obtain ⟨la, lc, LA, rfl, hLA⟩ := hl6.rd
        have HC6 := Lib.hid (HC5.out.at b6)
        have B6 := Lib.hid (B5.out.trans (b6.mono B5.out.size))
        have HLA6 := Lib.hid hLA
        clear hl6 hLA b6 HC5 HV5 B5
        go_wp2_with fail
        refine (clabels_any vc 30 _ θ w6 HC6.out).mono ?_
        rintro e w7 ⟨v7, rfl, hl7, b7⟩
        obtain ⟨ra, rc, RA, rfl, hRA⟩ := hl7.rd
        rw [HLb.out] at hRA
        have B7 := Lib.hid (B6.out.trans (b7.mono B6.out.size))
        have HN := Lib.hid (numbers_n w7.heap.size 30 30 la ra lc rc LA RA _ _ w7 (by rw [intsN_len, labs_len]) (by rw [intsN_len, labs_len]) ((HLA6.out.below b7).mono b7.size) hRA (by decide))
        clear hl7 hRA b7 HC6 B6 HLA6
        go_wp2_with fail
        refine HN.out.mono ?_
        rintro e w8 ⟨rfl, q, rfl⟩
        simp only [decide_true]
        go_wp2_with fail
        refine (works_any _).mono ?_
        rintro e w9 ⟨rfl, b9⟩
        go_wp2_with fail
        go_ret
        exact ⟨rfl, (below_drewN B7.out q).trans (b9.mono (by have := B7.out.size; simpa using this))⟩
  · by_cases h1 : L.length ≤ 120
    · have k0 : decide ((L.length : Int) > 120) = false := decide_eq_false (by omega)
      have k0' : decide ((120 : Int) < (L.length : Int)) = false := decide_eq_false (by omega)
      by_cases h2 : M.length ≤ 60
      · have h3 : θ = 9223372036854775807 := Classical.byContradiction fun c => hl ⟨h1, h2, c⟩
        subst h3
        have k1 : decide ((M.length : Int) > 60) = false := decide_eq_false (by omega)
        have k1' : decide ((60 : Int) < (M.length : Int)) = false := decide_eq_false (by omega)
        go_enter Try.func3, Try.ntmps3
        go_wp2_with fail
        refine (works_any w).mono ?_
        rintro e w1 ⟨rfl, b1⟩
        go_wp2_with fail
        go_ret
        exact ⟨rfl, b1⟩
      · have k1 : decide ((M.length : Int) > 60) = true := decide_eq_true (by omega)
        have k1' : decide ((60 : Int) < (M.length : Int)) = true := decide_eq_true (by omega)
        go_enter Try.func3, Try.ntmps3
        go_wp2_with fail
        refine (works_any w).mono ?_
        rintro e w1 ⟨rfl, b1⟩
        go_wp2_with fail
        go_ret
        exact ⟨rfl, b1⟩
    · have k0 : decide ((L.length : Int) > 120) = true := decide_eq_true (by omega)
      have k0' : decide ((120 : Int) < (L.length : Int)) = true := decide_eq_true (by omega)
      go_enter Try.func3, Try.ntmps3
      go_wp2_with fail
      refine (works_any w).mono ?_
      rintro e w1 ⟨rfl, b1⟩
      go_wp2_with fail
      go_ret
      exact ⟨rfl, b1⟩
end Go.Proofs.Ytibdggbejogciaa
