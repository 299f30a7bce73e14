/- The document's distances without an edge, round by round. Conditions: the graph is made. -/
import Derived.Test.YtcpikabhcjkkmaaBdF
import Derived.Test.YtcpikabhcjkkmaaBrEx
namespace Go.Proofs.Ytcpikabhcjkkmaa
open Go.RowKit

/-- what holds in round r of the document's search -/
structure StI (n : Nat) (E : List Ed) (p v r : Nat) (top : Int) (f : Nat → Int) : Prop where
  root : f v = 0
  zero : ∀ x, x < n → f x = 0 → x = v
  neg : ∀ x, x < n → f x < 0 → f x = -1
  near : ∀ x, x < n → 0 < f x → ∃ i y, NE E p i ∧ Lnk E i x y ∧ y < n ∧ f y = f x - 1
  le : ∀ x, x < n → f x ≤ top
  shut : ∀ i a b, NE E p i → Lnk E i a b → 0 ≤ f a → f a < (r : Int) → 0 ≤ f b ∧ f b ≤ f a + 1
/-- what holds of the edges that the round has looked at -/
def StE (E : List Ed) (p r j : Nat) (f : Nat → Int) : Prop := ∀ i a b, i < j → NE E p i → Lnk E i a b → f a = (r : Int) → 0 ≤ f b ∧ f b ≤ (r : Int) + 1
section
variable {n : Nat} {E : List Ed} {p v r j : Nat} {top : Int} {f : Nat → Int}
theorem StI.start : StI n E p v 0 0 (upd (fun _ => -1) v 0) := by
  have h0 : ∀ x, 0 ≤ upd (fun _ => (-1 : Int)) v 0 x → x = v := fun x hx => by
    by_cases c : x = v
    · exact c
    · rw [upd_ne _ _ c] at hx; omega
  refine ⟨upd_at _ _ _, fun x _ h => h0 x (by omega), fun x _ h => ?_, fun x _ h => ?_, fun x _ => ?_, fun i a b _ _ h1 h2 => by omega⟩
  · by_cases c : x = v
    · rw [c, upd_at] at h; omega
    · rw [upd_ne _ _ c]
  · rw [h0 x (by omega), upd_at] at h; omega
  · by_cases c : x = v
    · rw [c, upd_at]; exact Int.le_refl _
    · rw [upd_ne _ _ c]; omega
theorem StI.set (G : GOk n E) (h : StI n E p v r ((r : Int) + 1) f) (he : StE E p r j f) {i x y : Nat} (hi : NE E p i) (hl : Lnk E i x y) (hx : f x = (r : Int)) (hy : f y < 0) :
    StI n E p v r ((r : Int) + 1) (upd f y ((r : Int) + 1)) ∧ StE E p r j (upd f y ((r : Int) + 1)) := by
  have hk : ∀ z, 0 ≤ f z → upd f y ((r : Int) + 1) z = f z := fun z hz => upd_ne _ _ fun c => by rw [c] at hz; omega
  have hg : ∀ z, 0 ≤ f z ∧ f z ≤ (r : Int) + 1 → 0 ≤ upd f y ((r : Int) + 1) z ∧ upd f y ((r : Int) + 1) z ≤ (r : Int) + 1 := fun z hz => by rw [hk z hz.1]; exact hz
  have hxy := ends_ne G hi.1 hl
  refine ⟨⟨by rw [hk v (by rw [h.root]; exact Int.le_refl _)]; exact h.root, fun z hz h0 => ?_, fun z hz h0 => ?_, fun z hz h0 => ?_, fun z hz => ?_, fun k a b hk' hl' h1 h2 => ?_⟩, fun k a b hkj hk' hl' h1 => ?_⟩
  · by_cases c : z = y
    · rw [c, upd_at] at h0; omega
    · rw [upd_ne _ _ c] at h0; exact h.zero z hz h0
  · by_cases c : z = y
    · rw [c, upd_at] at h0; omega
    · rw [upd_ne _ _ c] at h0 ⊢; exact h.neg z hz h0
  · by_cases c : z = y
    · subst c
      rw [upd_at]
      exact ⟨i, x, hi, hl.symm, hxy.2.1, by rw [hk x (by omega), hx]; omega⟩
    · rw [upd_ne _ _ c] at h0 ⊢
      obtain ⟨k, w, k1, k2, k3, k4⟩ := h.near z hz h0
      exact ⟨k, w, k1, k2, k3, by rw [hk w (by omega)]; exact k4⟩
  · by_cases c : z = y
    · rw [c, upd_at]; exact Int.le_refl _
    · rw [upd_ne _ _ c]; exact h.le z hz
  · have ha : a ≠ y := fun c => by rw [c, upd_at] at h2; omega
    rw [upd_ne _ _ ha] at h1 h2 ⊢
    have := h.shut k a b hk' hl' h1 h2
    rw [hk b this.1]; exact this
  · have ha : a ≠ y := fun c => by rw [c, upd_at] at h1; omega
    rw [upd_ne _ _ ha] at h1
    exact hg b (he k a b hkj hk' hl' h1)
theorem StE.next (he : StE E p r j f) (h : NE E p j → ∀ a b, Lnk E j a b → f a = (r : Int) → 0 ≤ f b ∧ f b ≤ (r : Int) + 1) : StE E p r (j + 1) f := fun i a b hi hn hl ha => by
  by_cases c : i = j
  · subst c; exact h hn a b hl ha
  · exact he i a b (by omega) hn hl ha
theorem StI.next (h : StI n E p v r ((r : Int) + 1) f) (he : StE E p r E.length f) : StI n E p v (r + 1) (((r + 1 : Nat) : Int)) f :=
  ⟨h.root, h.zero, h.neg, h.near, fun x hx => by have := h.le x hx; omega, fun i a b hi hl h1 h2 => by
    by_cases c : f a = (r : Int)
    · rw [c]; exact he i a b hi.1 hi hl c
    · exact h.shut i a b hi hl h1 (by omega)⟩
theorem StI.list (h : StI n E p v r top f) : ∀ (k x : Nat), x < n → f x = (k : Nat) → ∃ l : List Nat, l.Nodup ∧ (∀ y, y ∈ l → y < n ∧ f y ≤ k) ∧ l.length = k + 1
  | 0, x, hx, hk => ⟨[x], by simp, by simp; omega, rfl⟩
  | k + 1, x, hx, hk => by
    obtain ⟨i, y, _, _, hy, hd⟩ := h.near x hx (by omega)
    obtain ⟨l, e1, e2, e3⟩ := StI.list h k y hy (by omega)
    refine ⟨x :: l, List.nodup_cons.2 ⟨fun hm => by have := (e2 x hm).2; omega, e1⟩, fun z hz => ?_, by simp [e3]⟩
    rcases List.mem_cons.1 hz with rfl | hz
    · exact ⟨hx, by omega⟩
    · have := e2 z hz; exact ⟨this.1, by omega⟩
theorem StI.done (G : GOk n E) (h : StI n E p v n top f) : DistF E (NE E p) n v f := by
  refine dist_local h.root h.zero h.neg (fun i a b hi hl ha => ?_) h.near
  have han := (ends_ne G hi.1 hl).2.1
  obtain ⟨l, e1, e2, e3⟩ := h.list (f a).toNat a han (by omega)
  have := nodup_lt e1 fun y hy => (e2 y hy).1
  exact h.shut i a b hi hl ha (by omega)
end
/-- what steps answers -/
def StpRes (n : Nat) (E : List Ed) (p v : Nat) (w : World) (e : Ending) (w' : World) : Prop :=
  ∃ d, e = .returned (.slice (some ⟨w.heap.size, 0, none⟩) n n) ∧ DistF E (NE E p) n v d ∧ Row w' w.heap.size n (fun x => .int .i64 (d x)) ∧ Below w.heap.size w w'
set_option maxRecDepth 100000 in
set_option maxHeartbeats 4000000 in
theorem rsteps_any (B b n p v : Nat) (E : List Ed) (w : World) (hR : RAt w B b n E) (hB : B ≤ w.heap.size) (hv : v < n) :
    Calls Try.prog 58 #[.pointer (some ⟨b, 0, none⟩), .int .i64 (v : Nat), .int .i64 (p : Nat)] w (StpRes n E p v w) := by
  have hml := hR.ok.m_le
  have hn4 := hR.ok.n_le
  have HGk := Lib.hid hR.ok
  have c1 := hR.num
  have hmk : ∀ w, (Instr.makeSlice 29 (.int .i64 (n : Nat)) (.int .i64 (n : Nat))).run Try.prog w = .ok (.slice (some ⟨w.heap.size, 0, none⟩) n n) (w.alloc (.cells (madeCells #[.int .i64 0] n) 3)) := fun w =>
    run_make_row' (P := Try.prog) 29 3 (.int .i64 0) 8 Try.underlying29 Try.infoI0 rfl .i64 .i64 n (by omega) (by omega) w
  have hrow := Row.made w (.int .i64 0) n 3
  have HR0 := Lib.hid (show Row (w.alloc (.cells (madeCells #[.int .i64 0] n) 3)) w.heap.size n (fun i => .int .i64 (if i < 0 then -1 else 0 : Int)) from hrow.congr fun i _ => by rw [if_neg (by omega)])
  have HA0 := Lib.hid (show Below w.heap.size w (w.alloc (.cells (madeCells #[.int .i64 0] n) 3)) from (Below.refl _ w).alloc (Nat.le_refl _) _)
  have HR := Lib.hid hR
  have hbB := hR.lt
  clear hR hrow
  go_enter Try.func58, Try.ntmps58
  go_wp2_with fail
  clear hmk c1
  go_loopw [8] (fun iv wr => ∃ i : Nat, i ≤ n ∧ iv = .int .i64 (i : Nat) ∧ Hid (Row wr w.heap.size n (fun j => .int .i64 (if j < i then -1 else 0 : Int))) ∧ Hid (Below w.heap.size w wr)) (fun iv _ => n - (intOf iv).toNat)
  case atStart => exact ⟨0, Nat.zero_le _, rfl, HR0, HA0⟩
  case round =>
    clear HR0 HA0
    obtain ⟨i, hi, rfl, HK, HB⟩ := hrel
    by_cases hlt : i < n
    · have ci := HK.out.cell hlt
      have fi := HK.out.frozen i
      rw [if_neg (by omega)] at ci
      have hin : (0 : Int) ≤ i ∧ (i : Int) < n := by omega
      have HK2 := Lib.hid ((HK.out.set i (.int .i64 (-1))).congr (f' := fun j => .int .i64 (if j < i + 1 then -1 else 0 : Int)) fun j _ => by
        by_cases c : j = i
        · subst c; rw [if_pos rfl, if_pos (by omega)]
        · rw [if_neg c]
          by_cases d : j < i
          · rw [if_pos d, if_pos (by omega)]
          · rw [if_neg d, if_neg (by omega)])
      have HB2 := Lib.hid (HB.out.setCell (p := ⟨w.heap.size, i, none⟩) (Nat.le_refl _) (.int .i64 (-1)))
      clear HK HB
      go_wp2_with fail
      go_roundw
      case rel => exact ⟨i + 1, by omega, by go_num, HK2, HB2⟩
      case measure => simp only [intOf]; omega
    · obtain rfl : i = n := by omega
      have cv := HK.out.cell hv
      have fv := HK.out.frozen v
      rw [if_pos hv] at cv
      have hvi : (0 : Int) ≤ v ∧ (v : Int) < i := by omega
      have HK1 := Lib.hid ((HK.out.set v (.int .i64 0)).congr (f' := fun j => .int .i64 (upd (fun _ => (-1 : Int)) v 0 j)) fun j hj => by
        by_cases c : j = v
        · rw [if_pos c, c, upd_at]
        · rw [if_neg c, upd_ne _ _ c, if_pos hj])
      have HB1 := Lib.hid (HB.out.setCell (p := ⟨w.heap.size, v, none⟩) (Nat.le_refl _) (.int .i64 0))
      have HSt := Lib.hid (show StI i E p v 0 ((0 : Nat) : Int) (upd (fun _ => -1) v 0) from StI.start)
      clear HK HB hlt
      go_wp2_with fail
      clear cv fv
      go_loopw [9] (fun rv wr => ∃ (r : Nat) (f : Nat → Int), r ≤ i ∧ rv = .int .i64 (r : Nat) ∧ Hid (StI i E p v r (r : Int) f) ∧ Hid (Row wr w.heap.size i (fun j => .int .i64 (f j))) ∧ Hid (Below w.heap.size w wr)) (fun rv _ => i - (intOf rv).toNat)
      case atStart => exact ⟨0, _, Nat.zero_le _, rfl, HSt, HK1, HB1⟩
      case round =>
        clear HK1 HB1 HSt
        obtain ⟨r, f, hr, rfl, HI, HK, HB⟩ := hrel
        have cn : wr.cell? ⟨b, 1, none⟩ = some (.int .i64 i) := (HR.out.below (HB.out.mono hB)).num
        have hwr : IntKind.i64.wrap ((r : Int) + 1) = (r : Int) + 1 := IntWalk.i64_in _ (by omega)
        by_cases hrn : r < i
        · have HI1 := Lib.hid (show StI i E p v r ((r : Int) + 1) f from ⟨HI.out.root, HI.out.zero, HI.out.neg, HI.out.near, fun x hx => by have := HI.out.le x hx; omega, HI.out.shut⟩)
          have HE1 := Lib.hid (show StE E p r 0 f from fun _ _ _ h => by omega)
          have hri : (0 : Int) ≤ r ∧ (r : Int) < i := by omega
          clear HI
          go_wp2_with fail
          go_loopw [10] (fun jv wr => ∃ (j : Nat) (f : Nat → Int), j ≤ E.length ∧ jv = .int .i64 (j : Nat) ∧ Hid (StI i E p v r ((r : Int) + 1) f) ∧ Hid (StE E p r j f) ∧ Hid (Row wr w.heap.size i (fun j => .int .i64 (f j))) ∧ Hid (Below w.heap.size w wr)) (fun jv _ => E.length - (intOf jv).toNat)
          case atStart => exact ⟨0, f, Nat.zero_le _, rfl, HI1, HE1, HK, HB⟩
          case round =>
            clear HI1 HE1 HK HB
            obtain ⟨j, f, hj, rfl, HI, HE, HK, HB⟩ := hrel
            have hRr := HR.out.below (HB.out.mono hB)
            obtain ⟨ea, ec, EA, hce, hES⟩ := hRr.edges
            have hwj : IntKind.i64.wrap ((j : Int) + 1) = (j : Int) + 1 := IntWalk.i64_in _ (by omega)
            by_cases hlt : j < E.length
            · have ix := hES.ix j hlt
              have e0 := ES.u hES hlt
              have e1 := ES.v hES hlt
              obtain ⟨x, y, hx, hy, hxn, hyn, hxy⟩ := HGk.out.nats hlt
              rw [hx] at e0; rw [hy] at e1
              have hep : edP E j = (x, y) := by unfold edP; rw [hx, hy]; rfl
              have HLk := Lib.hid (show Lnk E j x y from .inl hep)
              have cx := HK.out.cell hxn
              have cy := HK.out.cell hyn
              have fx := HK.out.frozen x
              have fy := HK.out.frozen y
              obtain ⟨dx, hdx⟩ : ∃ d, f x = d := ⟨_, rfl⟩
              obtain ⟨dy, hdy⟩ : ∃ d, f y = d := ⟨_, rfl⟩
              rw [hdx] at cx; rw [hdy] at cy
              have hji : (0 : Int) ≤ j ∧ (j : Int) < E.length := by omega
              have hxi : (0 : Int) ≤ x ∧ (x : Int) < i := by omega
              have hyi : (0 : Int) ≤ y ∧ (y : Int) < i := by omega
              have HKd := Lib.hid (fun m => HK.out.drewN m)
              have HBd := Lib.hid (fun m => below_drewN HB.out m)
              clear hRr hES hx hy hep
              by_cases hjp : j = p
              · have q1 : ((j : Int) == (p : Int)) = true := by simp [hjp]
                have HE2 := Lib.hid (HE.out.next (fun h => absurd hjp h.2))
                clear hjp hdx hdy HE HK HB
                go_wp2_with fail
                go_quiet (fail)
                go_wp2_with fail
                go_roundw
                case rel => exact ⟨j + 1, f, by omega, by go_num, HI, HE2, Lib.hid (HKd.out _), Lib.hid (HBd.out _)⟩
                case measure => simp only [intOf]; omega
              · have q1 : ((j : Int) == (p : Int)) = false := by simp; omega
                have hne : NE E p j := ⟨hlt, hjp⟩
                have hlex := HI.out.le x hxn
                have hley := HI.out.le y hyn
                by_cases hA : dx = (r : Int) ∧ dy < 0
                · obtain ⟨rfl, hy0⟩ := hA
                  obtain ⟨s1, s2⟩ := HI.out.set HGk.out HE.out hne HLk.out hdx (by rw [hdy]; exact hy0)
                  have HI2 := Lib.hid s1
                  have HE2 := Lib.hid (s2.next fun _ a b' hl ha => by
                    rcases lnk_two hl HLk.out with ⟨rfl, rfl⟩ | ⟨rfl, rfl⟩
                    · rw [upd_at]; omega
                    · rw [upd_at] at ha; omega)
                  have HK2 := Lib.hid (show ∀ m, Row ((wr.drewN m).setCell ⟨w.heap.size, y, none⟩ (.int .i64 ((r : Int) + 1))) w.heap.size i (fun k => .int .i64 (upd f y ((r : Int) + 1) k)) from fun m => ((HK.out.drewN m).set y (.int .i64 ((r : Int) + 1))).congr fun k _ => by unfold upd; split <;> rfl)
                  have HB2 := Lib.hid (show ∀ m, Below w.heap.size w ((wr.drewN m).setCell ⟨w.heap.size, y, none⟩ (.int .i64 ((r : Int) + 1))) from fun m => (below_drewN HB.out m).setCell (p := ⟨w.heap.size, y, none⟩) (Nat.le_refl _) _)
                  have t1 : ((r : Int) == (r : Int)) = true := by simp
                  have t2 : decide (dy < 0) = true := decide_eq_true hy0
                  have t3 : (((r : Int) + 1) == (r : Int)) = false := beq_eq_false_iff_ne.2 (by omega)
                  have k1 : ∀ m, ((wr.drewN m).setCell ⟨w.heap.size, y, none⟩ (.int .i64 ((r : Int) + 1))).cell? ⟨w.heap.size, y, none⟩ = some (.int .i64 ((r : Int) + 1)) := fun m => World.cell?_setCell_same _ _ _ cy
                  clear hjp hdx hdy HE HK HB HI s1 s2 hy0 hne hlex hley
                  go_wp2_with fail
                  go_quiet (fail)
                  go_wp2_with fail
                  go_roundw
                  case rel => exact ⟨j + 1, _, by omega, by go_num, HI2, HE2, Lib.hid (HK2.out _), Lib.hid (HB2.out _)⟩
                  case measure => simp only [intOf]; omega
                · by_cases hBc : dy = (r : Int) ∧ dx < 0
                  · obtain ⟨rfl, hx0⟩ := hBc
                    obtain ⟨s1, s2⟩ := HI.out.set HGk.out HE.out hne HLk.out.symm hdy (by rw [hdx]; exact hx0)
                    have HI2 := Lib.hid s1
                    have HE2 := Lib.hid (s2.next fun _ a b' hl ha => by
                      rcases lnk_two hl HLk.out with ⟨rfl, rfl⟩ | ⟨rfl, rfl⟩
                      · rw [upd_at] at ha; omega
                      · rw [upd_at]; omega)
                    have HK2 := Lib.hid (show ∀ m, Row ((wr.drewN m).setCell ⟨w.heap.size, x, none⟩ (.int .i64 ((r : Int) + 1))) w.heap.size i (fun k => .int .i64 (upd f x ((r : Int) + 1) k)) from fun m => ((HK.out.drewN m).set x (.int .i64 ((r : Int) + 1))).congr fun k _ => by unfold upd; split <;> rfl)
                    have HB2 := Lib.hid (show ∀ m, Below w.heap.size w ((wr.drewN m).setCell ⟨w.heap.size, x, none⟩ (.int .i64 ((r : Int) + 1))) from fun m => (below_drewN HB.out m).setCell (p := ⟨w.heap.size, x, none⟩) (Nat.le_refl _) _)
                    have t1 : (dx == (r : Int)) = false := beq_eq_false_iff_ne.2 (by omega)
                    have t2 : decide (dx < 0) = true := decide_eq_true hx0
                    have t3 : ((r : Int) == (r : Int)) = true := by simp
                    clear hjp hdx hdy HE HK HB HI s1 s2 hx0 hne hlex hley hA
                    go_wp2_with fail
                    go_quiet (fail)
                    go_wp2_with fail
                    go_roundw
                    case rel => exact ⟨j + 1, _, by omega, by go_num, HI2, HE2, Lib.hid (HK2.out _), Lib.hid (HB2.out _)⟩
                    case measure => simp only [intOf]; omega
                  · have HE2 := Lib.hid (HE.out.next fun _ a b' hl ha => by
                      rcases lnk_two hl HLk.out with ⟨rfl, rfl⟩ | ⟨rfl, rfl⟩
                      · rw [hdx] at ha; rw [hdy]; have : ¬ dy < 0 := fun c => hA ⟨ha, c⟩; rw [hdy] at hley; omega
                      · rw [hdy] at ha; rw [hdx]; have : ¬ dx < 0 := fun c => hBc ⟨ha, c⟩; rw [hdx] at hlex; omega)
                    have hc1 : (dx == (r : Int)) = false ∨ (dx == (r : Int)) = true ∧ decide (dy < 0) = false := by
                      by_cases c : dx = (r : Int)
                      · exact .inr ⟨beq_iff_eq.2 c, decide_eq_false fun d => hA ⟨c, d⟩⟩
                      · exact .inl (beq_eq_false_iff_ne.2 c)
                    have hc2 : (dy == (r : Int)) = false ∨ (dy == (r : Int)) = true ∧ decide (dx < 0) = false := by
                      by_cases c : dy = (r : Int)
                      · exact .inr ⟨beq_iff_eq.2 c, decide_eq_false fun d => hBc ⟨c, d⟩⟩
                      · exact .inl (beq_eq_false_iff_ne.2 c)
                    clear hjp hdx hdy HE HK HB hne hlex hley hA hBc
                    rcases hc1 with t1 | ⟨t1, t2⟩ <;> rcases hc2 with t3 | ⟨t3, t4⟩
                    all_goals
                      go_wp2_with fail
                      go_quiet (fail)
                      go_wp2_with fail
                      go_roundw
                      case rel => exact ⟨j + 1, f, by omega, by go_num, HI, HE2, Lib.hid (HKd.out _), Lib.hid (HBd.out _)⟩
                      case measure => simp only [intOf]; omega
            · obtain rfl : j = E.length := by omega
              have HN := Lib.hid (HI.out.next HE.out)
              clear hRr hES HI HE
              go_wp2_with fail
              go_roundw
              case rel => exact ⟨r + 1, f, by omega, by go_num, HN, HK, HB⟩
              case measure => simp only [intOf]; omega
        · obtain rfl : r = i := by omega
          have HD := Lib.hid (HI.out.done HGk.out)
          clear HI
          go_wp2_with fail
          go_ret
          exact ⟨f, rfl, HD.out, HK.out, HB.out⟩
end Go.Proofs.Ytcpikabhcjkkmaa
