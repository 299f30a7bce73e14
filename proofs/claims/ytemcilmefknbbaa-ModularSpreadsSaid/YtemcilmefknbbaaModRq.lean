/- The document's frequent and Spread. No conditions. -/
import Derived.Test.YtemcilmefknbbaaModSp
import Derived.Test.YtemcilmefknbbaaModRg
namespace Go.Proofs.Ytemcilmefknbbaa
open Go.RowKit Go.Shelf

/-- where the document's scan stands behind so many labels -/
def FScan (own : Int) (M : List Int) (i : Nat) (r : Int) (m : Nat) : Prop :=
  (i = 0 ∧ r = own ∧ m = 0) ∨ (r ∈ M.take i ∧ m = M.count r ∧ (∀ x, x ∈ M.take i → M.count x ≤ m) ∧ (own ∈ M.take i → M.count own = m → r = own) ∧ ∀ x, x ∈ M.take i → M.count x = m → r = own ∨ r ≤ x)
theorem FScan.step {own : Int} {M : List Int} {i : Nat} {r : Int} {m : Nat} (h : FScan own M i r m) (hi : i < M.length) :
    FScan own M (i + 1) (if m < M.count (nth M i) ∨ (M.count (nth M i) = m ∧ (nth M i = own ∨ (r ≠ own ∧ nth M i < r))) then nth M i else r) (if m < M.count (nth M i) ∨ (M.count (nth M i) = m ∧ (nth M i = own ∨ (r ≠ own ∧ nth M i < r))) then M.count (nth M i) else m) := by
  have ht := take_pre1 hi
  have hm : ∀ x, x ∈ M.take (i + 1) ↔ x ∈ M.take i ∨ x = nth M i := fun x => by rw [ht, List.mem_append, List.mem_singleton]
  have hp : 0 < M.count (nth M i) := List.count_pos_iff.2 (by rw [nth_eq hi]; exact List.getElem_mem hi)
  generalize hx : nth M i = x at *
  generalize hn : M.count x = n at *
  right
  rcases h with ⟨rfl, rfl, rfl⟩ | ⟨h0, h1, h2, h3, h4⟩
  · rw [if_pos (.inl hp), if_pos (.inl hp)]
    refine ⟨(hm x).2 (.inr rfl), hn.symm, fun y hy => ?_, fun hy hc => ?_, fun y hy hc => ?_⟩
    all_goals (
      rcases (hm _).1 hy with hy | hy
      · simp at hy
      · first | (rw [hy, hn]; exact Nat.le_refl _) | exact hy.symm | exact .inr (by rw [hy]; exact Int.le_refl _))
  · by_cases hc : m < n ∨ (n = m ∧ (x = own ∨ (r ≠ own ∧ x < r)))
    · rw [if_pos hc, if_pos hc]
      refine ⟨(hm x).2 (.inr rfl), hn.symm, fun y hy => ?_, fun hy he => ?_, fun y hy he => ?_⟩
      · rcases (hm _).1 hy with hy | hy
        · have := h2 y hy; omega
        · rw [hy, hn]; exact Nat.le_refl _
      · rcases (hm _).1 hy with hy | hy
        · rcases hc with hc | ⟨e1, e2 | ⟨e2, e3⟩⟩
          · have := h2 own hy; omega
          · exact e2
          · exact absurd (h3 hy (he.trans e1)) e2
        · exact hy.symm
      · rcases (hm _).1 hy with hy | hy
        · rcases hc with hc | ⟨e1, e2 | ⟨e2, e3⟩⟩
          · have := h2 y hy; omega
          · exact .inl e2
          · rcases h4 y hy (he.trans e1) with h | h
            · exact absurd h e2
            · exact .inr (by omega)
        · exact .inr (by rw [hy]; exact Int.le_refl _)
    · rw [if_neg hc, if_neg hc]
      have c1 : ¬ m < n := fun h => hc (.inl h)
      refine ⟨(hm r).2 (.inl h0), h1, fun y hy => ?_, fun hy he => ?_, fun y hy he => ?_⟩
      · rcases (hm _).1 hy with hy | hy
        · exact h2 y hy
        · rw [hy, hn]; omega
      · rcases (hm _).1 hy with hy | hy
        · exact h3 hy he
        · exact absurd (.inr ⟨by rw [← hn, ← hy]; exact he, .inl hy.symm⟩) hc
      · rcases (hm _).1 hy with hy | hy
        · exact h4 y hy he
        · rw [hy, hn] at he
          by_cases e : r = own
          · exact .inl e
          · refine .inr ?_
            rw [hy]
            by_cases e2 : x < r
            · exact absurd (.inr ⟨he, .inr ⟨e, e2⟩⟩) hc
            · omega
theorem FScan.last {own : Int} {M : List Int} {i : Nat} {r : Int} {m : Nat} (h : FScan own M i r m) (hi : i = M.length) : FreqOf own M r := by
  subst hi
  rcases h with ⟨h0, h1, _⟩ | ⟨h0, h1, h2, h3, h4⟩
  · exact .inl ⟨List.eq_nil_of_length_eq_zero h0, h1⟩
  · rw [List.take_length] at h0 h2 h3 h4
    have hp : 0 < M.count r := List.count_pos_iff.2 h0
    refine .inr ⟨h0, fun x => ?_, fun e => ?_, fun x e => ?_⟩
    · by_cases hx : x ∈ M
      · have := h2 x hx; omega
      · rw [List.count_eq_zero.2 hx]; omega
    · by_cases hx : own ∈ M
      · exact h3 hx (e.trans h1.symm)
      · rw [List.count_eq_zero.2 hx] at e; omega
    · by_cases hx : x ∈ M
      · exact h4 x hx (e.trans h1.symm)
      · rw [List.count_eq_zero.2 hx] at e; omega
theorem nl_nth {n : Nat} {E : List Ed} (G : GOk n E) (K : List Int) {v q : Nat} (hq : q < (adj E v).length) : ∃ o : Nat, oth E (v : Int) ((adj E v).getD q 0) = o ∧ o < n ∧ nth (nl E K v) q = nth K o := by
  obtain ⟨o, h1, h2, h3⟩ := adj_oth G K hq
  have hl : q < (nl E K v).length := by rw [nl, List.length_map]; exact hq
  rw [take_pre1 hl] at h3
  exact ⟨o, h1, h2, by simpa using h3⟩

set_option maxRecDepth 100000 in
set_option maxHeartbeats 4000000 in
theorem rfrequent_any (B n : Nat) (x : Value) (E : List Ed) (la : Option Addr) (lc : Nat) (LA : Nat → Addr) (L : List Int) (v : Nat) (w : World) (h : RG w B x (some (n, E))) (hL : Rd 23 1 w B (.slice la n lc) n (nums .i64 L) LA) (hB : B ≤ w.heap.size) (hv : v < n) :
    Calls Try.prog 50 #[x, .slice la n lc, .int .i64 (v : Nat)] w fun e w' => (∃ r, FreqOf (nth L v) (nl E L v) r ∧ e = .returned (.int .i64 r)) ∧ Below w.heap.size w w' := by
  have G : GOk n E := by obtain ⟨b, _, h2⟩ := h; exact h2.ok
  have hnl := G.n_le
  have HAd := Lib.hid (show gAdj (some (n, E)) (v : Int) = adj E v by rw [gAdj, if_pos (gHas_yes ⟨by omega, by show (v : Int) < (n : Int); omega⟩), Int.toNat_natCast]; rfl)
  have HA := Lib.hid (raround_any B x (some (n, E)) (v : Nat) w h hB)
  have i0 := hL.ix v hv
  have HL := Lib.hid hL
  clear h hL
  go_enter Try.func50, Try.ntmps50
  go_wp2_with fail
  refine HA.out.mono ?_
  rintro e w3 ⟨aa, ca, AA, he, hP, hb3⟩
  rw [HAd.out] at he hP
  subst he
  have hadl : (adj E v).length ≤ 16384 := Nat.le_trans (adjTo_len E E.length v) G.m_le
  have HP := Lib.hid hP
  have hL3 := HL.out.below (hb3.mono hB)
  have c0 : w3.cell? (LA v) = some (.int .i64 (nth L v)) := by have := hL3.cell v hv 0 (by omega); rwa [add_zero] at this
  have hs3 := hb3.size
  have HL3 := Lib.hid hL3
  have HM := Lib.hid (show (nl E L v).length = (adj E v).length by rw [nl, List.length_map])
  clear HA hP hL3
  generalize hlv : nth L v = lv at *
  have HLV := Lib.hid hlv
  clear hlv
  go_wp2_with fail
  go_loopw [8, 9, 10] (fun bs ts i wr => ∃ (q : Nat) (r : Int) (m : Nat), q ≤ (adj E v).length ∧ i = .int .i64 (q : Nat) ∧ bs = .int .i64 (m : Nat) ∧ ts = .int .i64 r ∧ m ≤ 16384 ∧ Hid (FScan lv (nl E L v) q r m) ∧ Below w3.heap.size w3 wr) (fun _ _ i _ => (adj E v).length - (intOf i).toNat)
  case atStart => exact ⟨0, lv, 0, Nat.zero_le _, rfl, rfl, rfl, by omega, Lib.hid (.inl ⟨rfl, rfl, rfl⟩), Below.refl _ _⟩
  case round =>
    clear c0
    obtain ⟨q, r, m, hq, rfl, rfl, rfl, hm16, hsc, bel⟩ := hrel
    by_cases hlt : q < (adj E v).length
    · obtain ⟨o, ho, hon, hnt⟩ := nl_nth G L hlt
      have hPr := HP.out.below bel
      have hLr := HL3.out.below (bel.mono (by omega))
      have iq := hPr.ix q hlt
      have io := hLr.ix o hon
      have d1 : wr.cell? ⟨(AA q).block, (AA q).off + 1, none⟩ = some (.int .i64 (o : Nat)) := by
        have := hPr.cell q hlt 1 (by omega)
        have e : prF (gE (some (n, E))) (v : Int) (adj E v) q 1 = .int .i64 (o : Nat) := by
          show Value.int .i64 (oth E (v : Int) ((adj E v).getD q 0)) = _
          rw [ho]
        rw [e] at this; exact this
      have d2 : wr.cell? (LA o) = some (.int .i64 (nth L o)) := by have := hLr.cell o hon 0 (by omega); rwa [add_zero] at this
      have HSt := Lib.hid (hsc.out.step (by rw [HM.out]; exact hlt))
      rw [hnt] at HSt
      have HO := Lib.hid ho
      clear hPr hLr ho hnt hsc
      obtain ⟨wa, rfl⟩ : ∃ wa : World, wa = wr := ⟨_, rfl⟩
      go_wp2_with fail
      go_loopw [12, 13] (fun nn kk wb => ∃ k : Nat, k ≤ (adj E v).length ∧ kk = .int .i64 (k : Nat) ∧ nn = .int .i64 (((nl E L v).take k).count (nth L o) : Nat) ∧ Below w3.heap.size w3 wb) (fun _ kk _ => (adj E v).length - (intOf kk).toNat)
      case atStart => exact ⟨0, Nat.zero_le _, rfl, rfl, bel⟩
      case round =>
        clear bel d1 d2
        obtain ⟨k, hk, rfl, rfl, bel⟩ := hrel
        by_cases hlk : k < (adj E v).length
        · obtain ⟨p, hp, hpn, hpt⟩ := nl_nth G L hlk
          have hPr := HP.out.below bel
          have hLr := HL3.out.below (bel.mono (by omega))
          have ik := hPr.ix k hlk
          have ip := hLr.ix p hpn
          have d1 : wr.cell? ⟨(AA k).block, (AA k).off + 1, none⟩ = some (.int .i64 (p : Nat)) := by
            have := hPr.cell k hlk 1 (by omega)
            have e : prF (gE (some (n, E))) (v : Int) (adj E v) k 1 = .int .i64 (p : Nat) := by
              show Value.int .i64 (oth E (v : Int) ((adj E v).getD k 0)) = _
              rw [hp]
            rw [e] at this; exact this
          have d2 : wr.cell? (LA p) = some (.int .i64 (nth L p)) := by have := hLr.cell p hpn 0 (by omega); rwa [add_zero] at this
          have HT := Lib.hid (take_pre1 (l := nl E L v) (k := k) (by rw [HM.out]; exact hlk))
          rw [hpt] at HT
          have hcl : ((nl E L v).take k).count (nth L o) ≤ 16384 := Nat.le_trans List.count_le_length (by rw [List.length_take]; omega)
          clear hPr hLr hp hpt
          by_cases hee : nth L p = nth L o
          · have hz : (nth L p == nth L o) = true := by simpa using hee
            have HC := Lib.hid (show ((nl E L v).take (k + 1)).count (nth L o) = ((nl E L v).take k).count (nth L o) + 1 by rw [HT.out, List.count_append, hee]; simp)
            generalize ((nl E L v).take k).count (nth L o) = cc at *
            clear HT
            go_wp2_with fail
            go_roundw
            case rel => exact ⟨k + 1, by omega, by go_num, by rw [HC.out]; go_num, bel⟩
            case measure => simp only [intOf]; omega
          · have hz : (nth L p == nth L o) = false := by simpa using hee
            have HC := Lib.hid (show ((nl E L v).take (k + 1)).count (nth L o) = ((nl E L v).take k).count (nth L o) by rw [HT.out, List.count_append, List.count_singleton]; simp; exact hee)
            generalize ((nl E L v).take k).count (nth L o) = cc at *
            clear HT
            go_wp2_with fail
            go_roundw
            case rel => exact ⟨k + 1, by omega, by go_num, by rw [HC.out], bel⟩
            case measure => simp only [intOf]; omega
        · have hke : k = (adj E v).length := by omega
          have hkc : ((nl E L v).take k).count (nth L o) = (nl E L v).count (nth L o) := by rw [hke, ← HM.out, List.take_length]
          rw [hkc]
          have hcl : (nl E L v).count (nth L o) ≤ 16384 := Nat.le_trans List.count_le_length (by rw [HM.out]; exact hadl)
          have hLr := HL3.out.below (bel.mono (by omega))
          have c0 : wr.cell? (LA v) = some (.int .i64 lv) := by have := hLr.cell v hv 0 (by omega); rw [add_zero, nums, HLV.out] at this; exact this
          have hd : decide ((k : Int) < ((adj E v).length : Int)) = false := decide_eq_false (by omega)
          have hd3 : decide (k < (adj E v).length) = false := decide_eq_false (by omega)
          generalize hcn : (nl E L v).count (nth L o) = cn at *
          generalize hlo : nth L o = lo at *
          clear hLr hkc hcn hlo hke
          rcases Nat.lt_trichotomy m cn with hc | hc | hc
          · have k1 : decide ((cn : Int) > (m : Int)) = true := decide_eq_true (by omega)
            have HN := Lib.hid (show FScan lv (nl E L v) (q + 1) lo cn by have := HSt.out; rwa [if_pos (.inl hc), if_pos (.inl hc)] at this)
            clear HSt
            go_wp2_with fail
            go_roundw
            case rel => exact ⟨q + 1, lo, cn, by omega, by go_num, rfl, rfl, hcl, HN, bel⟩
            case measure => simp only [intOf]; omega
          · have k1 : decide ((cn : Int) > (m : Int)) = false := decide_eq_false (by omega)
            have k2 : ((cn : Int) == (m : Int)) = true := by simp; omega
            by_cases h3 : lo = lv
            · have k3 : (lo == lv) = true := by simpa using h3
              have HN := Lib.hid (show FScan lv (nl E L v) (q + 1) lo cn by have := HSt.out; rwa [if_pos (.inr ⟨hc.symm, .inl h3⟩), if_pos (.inr ⟨hc.symm, .inl h3⟩)] at this)
              clear HSt h3
              go_wp2_with fail
              go_roundw
              case rel => exact ⟨q + 1, lo, cn, by omega, by go_num, rfl, rfl, hcl, HN, bel⟩
              case measure => simp only [intOf]; omega
            · have k3 : (lo == lv) = false := by simpa using h3
              by_cases h4 : r = lv
              · have k4 : (r != lv) = false := by simpa using h4
                have HN := Lib.hid (show FScan lv (nl E L v) (q + 1) r m by have := HSt.out; rwa [if_neg (fun h => h.elim (by omega) (fun h => h.2.elim h3 (fun h => h.1 h4))), if_neg (fun h => h.elim (by omega) (fun h => h.2.elim h3 (fun h => h.1 h4)))] at this)
                clear HSt h4 h3
                go_wp2_with fail
                go_roundw
                case rel => exact ⟨q + 1, r, m, by omega, by go_num, rfl, rfl, hm16, HN, bel⟩
                case measure => simp only [intOf]; omega
              · have k4 : (r != lv) = true := by simpa using h4
                by_cases h5 : lo < r
                · have HN := Lib.hid (show FScan lv (nl E L v) (q + 1) lo cn by have := HSt.out; rwa [if_pos (.inr ⟨hc.symm, .inr ⟨h4, h5⟩⟩), if_pos (.inr ⟨hc.symm, .inr ⟨h4, h5⟩⟩)] at this)
                  have k5 : decide (lo < r) = true := decide_eq_true h5
                  clear HSt h4 h3
                  go_wp2_with fail
                  go_roundw
                  case rel => exact ⟨q + 1, lo, cn, by omega, by go_num, rfl, rfl, hcl, HN, bel⟩
                  case measure => simp only [intOf]; omega
                · have HN := Lib.hid (show FScan lv (nl E L v) (q + 1) r m by have := HSt.out; rwa [if_neg (fun h => h.elim (by omega) (fun h => h.2.elim h3 (fun h => h5 h.2))), if_neg (fun h => h.elim (by omega) (fun h => h.2.elim h3 (fun h => h5 h.2)))] at this)
                  have k5 : decide (lo < r) = false := decide_eq_false h5
                  clear HSt h4 h3
                  go_wp2_with fail
                  go_roundw
                  case rel => exact ⟨q + 1, r, m, by omega, by go_num, rfl, rfl, hm16, HN, bel⟩
                  case measure => simp only [intOf]; omega
          · have k1 : decide ((cn : Int) > (m : Int)) = false := decide_eq_false (by omega)
            have k2 : ((cn : Int) == (m : Int)) = false := by simp; omega
            have HN := Lib.hid (show FScan lv (nl E L v) (q + 1) r m by have := HSt.out; rwa [if_neg (by omega), if_neg (by omega)] at this)
            clear HSt
            go_wp2_with fail
            go_roundw
            case rel => exact ⟨q + 1, r, m, by omega, by go_num, rfl, rfl, hm16, HN, bel⟩
            case measure => simp only [intOf]; omega
    · have hqe : q = (adj E v).length := by omega
      have HF := Lib.hid (hsc.out.last (by rw [HM.out]; exact hqe))
      go_wp2_with fail
      go_ret
      exact ⟨⟨r, by rw [HLV.out]; exact HF.out, rfl⟩, hb3.trans (bel.mono hs3)⟩

/-- numbers in a row, as a slice that is read -/
theorem row_rd {w : World} {g n cap : Nat} {K : List Int} (h : RowN w g n K) : Rd 23 1 w w.heap.size (.slice (some ⟨g, 0, none⟩) n cap) n (nums .i64 K) (fun j => (⟨g, 0, none⟩ : Addr).add (j * 1)) := by
  refine Rd.addr etI (fun _ => h.lt) fun k hk j hj => ?_
  obtain rfl : j = 0 := by omega
  rw [add_mk, Nat.mul_one, Nat.add_zero, Nat.zero_add, h.cell hk]
  rfl
theorem row_of_copy {w : World} {g n cap base : Nat} {K : List Int} (h : w.ownsRow base 3 1 (.slice (some ⟨g, 0, none⟩) n cap) n (flat (nums .i64 K) n 1)) : RowN w g n K :=
  (Row.owned h).congr fun i hi => by
    have := flat_at (f := nums .i64 K) (n := n) (size := 1) (i := i) (j := 0) hi (by omega)
    rw [Nat.mul_one, Nat.add_zero] at this
    simp [this, nums]
set_option maxRecDepth 100000 in
set_option maxHeartbeats 4000000 in
theorem rspread_any (B n : Nat) (x : Value) (E : List Ed) (la : Option Addr) (lc : Nat) (LA : Nat → Addr) (L : List Int) (rounds : Nat) (w : World) (h : RG w B x (some (n, E))) (hL : Rd 23 1 w B (.slice la L.length lc) L.length (nums .i64 L) LA) (hB : B ≤ w.heap.size) (hn : L.length = n) (hr : rounds ≤ 1000) :
    Calls Try.prog 28 #[x, .slice la L.length lc, .int .i64 (rounds : Nat)] w (SRes E L rounds w) := by
  have HW := Lib.hid (wrong_any B x (some (n, E)) la L.length lc w h)
  rw [show mErr (some (n, E)) L.length = 0 by unfold mErr; simp [gN, hn]] at HW
  have G : GOk n E := by obtain ⟨b, _, h2⟩ := h; exact h2.ok
  have hnl := G.n_le
  have hll : L.length ≤ 4096 := by omega
  have k1 : decide ((rounds : Int) < 0) = false := decide_eq_false (by omega)
  have k2 : decide ((rounds : Int) > 1000) = false := decide_eq_false (by omega)
  have HX := Lib.hid h; have HL := Lib.hid hL; have HN := Lib.hid hn
  clear h hL hn
  go_enter Try.func28, Try.ntmps28
  go_wp2_with fail
  refine HW.out.mono ?_
  rintro e w' ⟨rfl, rfl⟩
  clear HW
  go_wp2_with (at_builtin; refine Hid.out ?_)
  refine Lib.hid ?_
  refine copiedAny etI rfl _ _ rfl HL.out hB (fun i _ j _ => rfl) _ rfl rfl rfl (by omega) (by omega) ?_
  intro g0 cp0 w5 hg5 R5 hb5
  have hR5 : RowN w5 g0 L.length (spr E 0 L) := row_of_copy R5
  clear R5
  go_wp2_with fail
  go_loopw [9, 10] (fun l i wr => ∃ (j gl cl : Nat), j ≤ rounds ∧ i = .int .i64 (j : Nat) ∧ l = .slice (some ⟨gl, 0, none⟩) L.length cl ∧ Hid (RowN wr gl L.length (spr E j L)) ∧ Below w'.heap.size w' wr) (fun _ i _ => rounds - (intOf i).toNat)
  case atStart => exact ⟨0, g0, cp0, Nat.zero_le _, rfl, rfl, Lib.hid hR5, hb5⟩
  case round =>
    clear hR5 hb5
    obtain ⟨j, gl, cl, hj, rfl, rfl, hrow, bel⟩ := hrel
    by_cases hlj : j < rounds
    · have HSl := Lib.hid (show (spr E j L).length = L.length from spr_len E j L)
      have HSp := Lib.hid (show spr E (j + 1) L = rnd E (spr E j L) from rfl)
      generalize spr E j L = S at *
      obtain ⟨wa, rfl⟩ : ∃ wa : World, wa = wr := ⟨_, rfl⟩
      have hRS := row_rd (cap := cl) hrow.out
      have HRS := Lib.hid hRS
      have hsa : w'.heap.size ≤ wa.heap.size := bel.size
      have hgl := hrow.out.lt
      clear hRS
      go_wp2_with (at_builtin; refine Hid.out ?_)
      refine Lib.hid ?_
      refine copiedAny etI rfl _ _ rfl HRS.out (Nat.le_refl _) (fun i _ j _ => rfl) _ rfl rfl rfl (by omega) (by omega) ?_
      intro g3 cp3 w6 hg6 R6 hb6
      have hR6 : Hid (RowN w6 g3 L.length S) := Lib.hid (row_of_copy R6)
      clear R6
      go_wp2_with fail
      go_loopw [12] (fun i wx => ∃ (v : Nat) (M : List Int), v ≤ L.length ∧ i = .int .i64 (v : Nat) ∧ Hid (M.length = L.length) ∧ Hid (∀ i, i < v → nth M i = nth (rnd E S) i) ∧ Hid (RowN wx g3 L.length M) ∧ Below wa.heap.size wa wx) (fun i _ => L.length - (intOf i).toNat)
      case atStart => exact ⟨0, S, Nat.zero_le _, rfl, HSl, Lib.hid (fun i hi => absurd hi (by omega)), hR6, hb6⟩
      case round =>
        clear hR6 hb6
        obtain ⟨v, M, hv, rfl, hM, hMv, hRow, belx⟩ := hrel
        by_cases hlv : v < L.length
        · have hvn : v < n := by rw [← HN.out]; exact hlv
          have hvS : v < S.length := by rw [HSl.out]; exact hlv
          have hRx := HRS.out.below belx
          have hsx : wa.heap.size ≤ wr.heap.size := belx.size
          have HF := rfrequent_any wa.heap.size n x E (some ⟨gl, 0, none⟩) cl _ S v wr ((HX.out.below (bel.mono hB)).mono (Nat.le_trans hB hsa) |>.below belx) (by rw [← HN.out]; exact hRx) hsx hvn
          rw [← HN.out] at HF
          have HF := Lib.hid HF
          clear hRx
          go_wp2_with fail
          refine HF.out.mono ?_
          rintro e w4 ⟨⟨r, hfr, rfl⟩, hb4⟩
          have hrow4 : RowN w4 g3 L.length M := Row.below hRow.out hb4 hRow.out.lt
          have z1 := hrow4.cell hlv
          have z2 := hrow4.frozen v
          have HR4 := Lib.hid hrow4
          have hb4' : Below wa.heap.size wa w4 := belx.trans (hb4.mono hsx)
          clear hrow4 HF hb4
          go_wp2_with fail
          go_roundw
          case rel =>
            have hvM : v < M.length := by rw [hM.out]; exact hlv
            refine ⟨v + 1, M.set v r, by omega, by go_num, Lib.hid (by rw [List.length_set]; exact hM.out), Lib.hid (fun i hi => ?_), Lib.hid ((Row.set HR4.out v (.int .i64 r)).congr fun i _ => ?_), hb4'.setCell (p := ⟨g3, v, none⟩) hg6 _⟩
            · rw [nth_set r hvM]
              by_cases e1 : i = v
              · rw [if_pos e1, e1, rnd_is hvS hfr]
              · rw [if_neg e1]; exact hMv.out i (by omega)
            · rw [nth_set r hvM]
              by_cases e1 : i = v
              · rw [if_pos e1, if_pos e1]
              · rw [if_neg e1, if_neg e1]
          case measure => simp only [intOf]; omega
        · have hvl : v = L.length := by omega
          have hMr : M = rnd E S := eq_of_nth (by rw [rnd_len, HSl.out, hM.out]) (fun i hi => hMv.out i (by rw [hvl, ← hM.out]; exact hi))
          have hd : decide ((v : Int) < (L.length : Int)) = false := decide_eq_false (by omega)
          have hd3 : decide (v < L.length) = false := decide_eq_false (by omega)
          have HRn := Lib.hid (show RowN wr g3 L.length (rnd E S) by rw [← hMr]; exact hRow.out)
          clear hvl hMr hMv hM hRow
          go_wp2_with fail
          go_roundw
          case rel => exact ⟨j + 1, g3, cp3, by omega, by go_num, rfl, Lib.hid (by rw [HSp.out]; exact HRn.out), bel.trans (belx.mono hsa)⟩
          case measure => simp only [intOf]; omega
    · have hje : j = rounds := by omega
      subst hje
      have HRS := Lib.hid (row_rd (cap := cl) hrow.out)
      go_wp2_with fail
      go_ret2
      exact ⟨some ⟨gl, 0, none⟩, cl, _, rfl, HRS.out, bel⟩
end Go.Proofs.Ytemcilmefknbbaa
