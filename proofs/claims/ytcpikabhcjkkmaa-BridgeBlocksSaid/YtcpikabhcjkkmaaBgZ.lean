/- The document's distances without an edge, round by round. Conditions: the graph is made. -/
import Derived.Test.YtcpikabhcjkkmaaBdZ
import Derived.Test.YtcpikabhcjkkmaaBrEx
import Derived.Test.YtcpikabhcjkkmaaCyM
import Derived.Deep.RegionWith
import Derived.Test.YtcpikabhcjkkmaaBrQ
import Derived.Test.YtcpikabhcjkkmaaMe
namespace Go.Proofs.Ytcpikabhcjkkmaa
open Go.RowKit

/-- what holds in round r of the document's search -/
structure StI (n : Nat) (E : List Ed) (p v r : Nat) (top : Int) (f : Nat → Int) : Prop where
  root : f v = 0
  zero : ∀ x, x < n → f x = 0 → x = v
  neg : ∀ x, x < n → f x < 0 → f x = -1
  near : ∀ x, x < n → 0 < f x → ∃ i y, NE E p i ∧ Lnk E i x y ∧ y < n ∧ f y = f x - 1
  le : ∀ x, x < n → f x ≤ top
  shut : ∀ i a b, NE E p i → Lnk E i a b → 0 ≤ f a → f a < (r : Int) → 0 ≤ f b ∧ f b ≤ f a + 1
/-- what holds of the edges that the round has looked at -/
def StE (E : List Ed) (p r j : Nat) (f : Nat → Int) : Prop := ∀ i a b, i < j → NE E p i → Lnk E i a b → f a = (r : Int) → 0 ≤ f b ∧ f b ≤ (r : Int) + 1
section
variable {n : Nat} {E : List Ed} {p v r j : Nat} {top : Int} {f : Nat → Int}
theorem StI.start : StI n E p v 0 0 (upd (fun _ => -1) v 0) := by
  have h0 : ∀ x, 0 ≤ upd (fun _ => (-1 : Int)) v 0 x → x = v := fun x hx => by
    by_cases c : x = v
    · exact c
    · rw [upd_ne _ _ c] at hx; omega
  refine ⟨upd_at _ _ _, fun x _ h => h0 x (by omega), fun x _ h => ?_, fun x _ h => ?_, fun x _ => ?_, fun i a b _ _ h1 h2 => by omega⟩
  · by_cases c : x = v
    · rw [c, upd_at] at h; omega
    · rw [upd_ne _ _ c]
  · rw [h0 x (by omega), upd_at] at h; omega
  · by_cases c : x = v
    · rw [c, upd_at]; exact Int.le_refl _
    · rw [upd_ne _ _ c]; omega
theorem StI.set (G : GOk n E) (h : StI n E p v r ((r : Int) + 1) f) (he : StE E p r j f) {i x y : Nat} (hi : NE E p i) (hl : Lnk E i x y) (hx : f x = (r : Int)) (hy : f y < 0) :
    StI n E p v r ((r : Int) + 1) (upd f y ((r : Int) + 1)) ∧ StE E p r j (upd f y ((r : Int) + 1)) := by
  have hk : ∀ z, 0 ≤ f z → upd f y ((r : Int) + 1) z = f z := fun z hz => upd_ne _ _ fun c => by rw [c] at hz; omega
  have hg : ∀ z, 0 ≤ f z ∧ f z ≤ (r : Int) + 1 → 0 ≤ upd f y ((r : Int) + 1) z ∧ upd f y ((r : Int) + 1) z ≤ (r : Int) + 1 := fun z hz => by rw [hk z hz.1]; exact hz
  have hxy := ends_ne G hi.1 hl
  refine ⟨⟨by rw [hk v (by rw [h.root]; exact Int.le_refl _)]; exact h.root, fun z hz h0 => ?_, fun z hz h0 => ?_, fun z hz h0 => ?_, fun z hz => ?_, fun k a b hk' hl' h1 h2 => ?_⟩, fun k a b hkj hk' hl' h1 => ?_⟩
  · by_cases c : z = y
    · rw [c, upd_at] at h0; omega
    · rw [upd_ne _ _ c] at h0; exact h.zero z hz h0
  · by_cases c : z = y
    · rw [c, upd_at] at h0; omega
    · rw [upd_ne _ _ c] at h0 ⊢; exact h.neg z hz h0
  · by_cases c : z = y
    · subst c
      rw [upd_at]
      exact ⟨i, x, hi, hl.symm, hxy.2.1, by rw [hk x (by omega), hx]; omega⟩
    · rw [upd_ne _ _ c] at h0 ⊢
      obtain ⟨k, w, k1, k2, k3, k4⟩ := h.near z hz h0
      exact ⟨k, w, k1, k2, k3, by rw [hk w (by omega)]; exact k4⟩
  · by_cases c : z = y
    · rw [c, upd_at]; exact Int.le_refl _
    · rw [upd_ne _ _ c]; exact h.le z hz
  · have ha : a ≠ y := fun c => by rw [c, upd_at] at h2; omega
    rw [upd_ne _ _ ha] at h1 h2 ⊢
    have := h.shut k a b hk' hl' h1 h2
    rw [hk b this.1]; exact this
  · have ha : a ≠ y := fun c => by rw [c, upd_at] at h1; omega
    rw [upd_ne _ _ ha] at h1
    exact hg b (he k a b hkj hk' hl' h1)
theorem StE.next (he : StE E p r j f) (h : NE E p j → ∀ a b, Lnk E j a b → f a = (r : Int) → 0 ≤ f b ∧ f b ≤ (r : Int) + 1) : StE E p r (j + 1) f := fun i a b hi hn hl ha => by
  by_cases c : i = j
  · subst c; exact h hn a b hl ha
  · exact he i a b (by omega) hn hl ha
theorem StI.next (h : StI n E p v r ((r : Int) + 1) f) (he : StE E p r E.length f) : StI n E p v (r + 1) (((r + 1 : Nat) : Int)) f :=
  ⟨h.root, h.zero, h.neg, h.near, fun x hx => by have := h.le x hx; omega, fun i a b hi hl h1 h2 => by
    by_cases c : f a = (r : Int)
    · rw [c]; exact he i a b hi.1 hi hl c
    · exact h.shut i a b hi hl h1 (by omega)⟩
theorem StI.list (h : StI n E p v r top f) : ∀ (k x : Nat), x < n → f x = (k : Nat) → ∃ l : List Nat, l.Nodup ∧ (∀ y, y ∈ l → y < n ∧ f y ≤ k) ∧ l.length = k + 1
  | 0, x, hx, hk => ⟨[x], by simp, by simp; omega, rfl⟩
  | k + 1, x, hx, hk => by
    obtain ⟨i, y, _, _, hy, hd⟩ := h.near x hx (by omega)
    obtain ⟨l, e1, e2, e3⟩ := StI.list h k y hy (by omega)
    refine ⟨x :: l, List.nodup_cons.2 ⟨fun hm => by have := (e2 x hm).2; omega, e1⟩, fun z hz => ?_, by simp [e3]⟩
    rcases List.mem_cons.1 hz with rfl | hz
    · exact ⟨hx, by omega⟩
    · have := e2 z hz; exact ⟨this.1, by omega⟩
theorem StI.done (G : GOk n E) (h : StI n E p v n top f) : DistF E (NE E p) n v f := by
  refine dist_local h.root h.zero h.neg (fun i a b hi hl ha => ?_) h.near
  have han := (ends_ne G hi.1 hl).2.1
  obtain ⟨l, e1, e2, e3⟩ := h.list (f a).toNat a han (by omega)
  have := nodup_lt e1 fun y hy => (e2 y hy).1
  exact h.shut i a b hi hl ha (by omega)
end
/-- what steps answers -/
def StpRes (n : Nat) (E : List Ed) (p v : Nat) (w : World) (e : Ending) (w' : World) : Prop :=
  ∃ d, e = .returned (.slice (some ⟨w.heap.size, 0, none⟩) n n) ∧ DistF E (NE E p) n v d ∧ Row w' w.heap.size n (fun x => .int .i64 (d x)) ∧ Below w.heap.size w w'
set_option maxRecDepth 100000 in
set_option maxHeartbeats 4000000 in
theorem rsteps_any (B b n p v : Nat) (E : List Ed) (w : World) (hR : RAt w B b n E) (hB : B ≤ w.heap.size) (hv : v < n) :
    Calls Try.prog 58 #[.pointer (some ⟨b, 0, none⟩), .int .i64 (v : Nat), .int .i64 (p : Nat)] w (StpRes n E p v w) := by
  have hml := hR.ok.m_le
  have hn4 := hR.ok.n_le
  have HGk := Lib.hid hR.ok
  have c1 := hR.num
  have hmk : ∀ w, (Instr.makeSlice 29 (.int .i64 (n : Nat)) (.int .i64 (n : Nat))).run Try.prog w = .ok (.slice (some ⟨w.heap.size, 0, none⟩) n n) (w.alloc (.cells (madeCells #[.int .i64 0] n) 3)) := fun w =>
    run_make_row' (P := Try.prog) 29 3 (.int .i64 0) 8 Try.underlying29 Try.infoI0 rfl .i64 .i64 n (by omega) (by omega) w
  have hrow := Row.made w (.int .i64 0) n 3
  have HR0 := Lib.hid (show Row (w.alloc (.cells (madeCells #[.int .i64 0] n) 3)) w.heap.size n (fun i => .int .i64 (if i < 0 then -1 else 0 : Int)) from hrow.congr fun i _ => by rw [if_neg (by omega)])
  have HA0 := Lib.hid (show Below w.heap.size w (w.alloc (.cells (madeCells #[.int .i64 0] n) 3)) from (Below.refl _ w).alloc (Nat.le_refl _) _)
  have HR := Lib.hid hR
  have hbB := hR.lt
  clear hR hrow
  go_enter Try.func58, Try.ntmps58
  go_wp2_with fail
  clear hmk c1
  go_loopw [8] (fun iv wr => ∃ i : Nat, i ≤ n ∧ iv = .int .i64 (i : Nat) ∧ Hid (Row wr w.heap.size n (fun j => .int .i64 (if j < i then -1 else 0 : Int))) ∧ Hid (Below w.heap.size w wr)) (fun iv _ => n - (intOf iv).toNat)
  case atStart => exact ⟨0, Nat.zero_le _, rfl, HR0, HA0⟩
  case round =>
    clear HR0 HA0
    obtain ⟨i, hi, rfl, HK, HB⟩ := hrel
    by_cases hlt : i < n
    · have ci := HK.out.cell hlt
      have fi := HK.out.frozen i
      rw [if_neg (by omega)] at ci
      have hin : (0 : Int) ≤ i ∧ (i : Int) < n := by omega
      have HK2 := Lib.hid ((HK.out.set i (.int .i64 (-1))).congr (f' := fun j => .int .i64 (if j < i + 1 then -1 else 0 : Int)) fun j _ => by
        by_cases c : j = i
        · subst c; rw [if_pos rfl, if_pos (by omega)]
        · rw [if_neg c]
          by_cases d : j < i
          · rw [if_pos d, if_pos (by omega)]
          · rw [if_neg d, if_neg (by omega)])
      have HB2 := Lib.hid (HB.out.setCell (p := ⟨w.heap.size, i, none⟩) (Nat.le_refl _) (.int .i64 (-1)))
      clear HK HB
      go_wp2_with fail
      go_roundw
      case rel => exact ⟨i + 1, by omega, by go_num, HK2, HB2⟩
      case measure => simp only [intOf]; omega
    · obtain rfl : i = n := by omega
      have cv := HK.out.cell hv
      have fv := HK.out.frozen v
      rw [if_pos hv] at cv
      have hvi : (0 : Int) ≤ v ∧ (v : Int) < i := by omega
      have HK1 := Lib.hid ((HK.out.set v (.int .i64 0)).congr (f' := fun j => .int .i64 (upd (fun _ => (-1 : Int)) v 0 j)) fun j hj => by
        by_cases c : j = v
        · rw [if_pos c, c, upd_at]
        · rw [if_neg c, upd_ne _ _ c, if_pos hj])
      have HB1 := Lib.hid (HB.out.setCell (p := ⟨w.heap.size, v, none⟩) (Nat.le_refl _) (.int .i64 0))
      have HSt := Lib.hid (show StI i E p v 0 ((0 : Nat) : Int) (upd (fun _ => -1) v 0) from StI.start)
      clear HK HB hlt
      go_wp2_with fail
      clear cv fv
      go_loopw [9] (fun rv wr => ∃ (r : Nat) (f : Nat → Int), r ≤ i ∧ rv = .int .i64 (r : Nat) ∧ Hid (StI i E p v r (r : Int) f) ∧ Hid (Row wr w.heap.size i (fun j => .int .i64 (f j))) ∧ Hid (Below w.heap.size w wr)) (fun rv _ => i - (intOf rv).toNat)
      case atStart => exact ⟨0, _, Nat.zero_le _, rfl, HSt, HK1, HB1⟩
      case round =>
        clear HK1 HB1 HSt
        obtain ⟨r, f, hr, rfl, HI, HK, HB⟩ := hrel
        have cn : wr.cell? ⟨b, 1, none⟩ = some (.int .i64 i) := (HR.out.below (HB.out.mono hB)).num
        have hwr : IntKind.i64.wrap ((r : Int) + 1) = (r : Int) + 1 := IntWalk.i64_in _ (by omega)
        by_cases hrn : r < i
        · have HI1 := Lib.hid (show StI i E p v r ((r : Int) + 1) f from ⟨HI.out.root, HI.out.zero, HI.out.neg, HI.out.near, fun x hx => by have := HI.out.le x hx; omega, HI.out.shut⟩)
          have HE1 := Lib.hid (show StE E p r 0 f from fun _ _ _ h => by omega)
          have hri : (0 : Int) ≤ r ∧ (r : Int) < i := by omega
          clear HI
          go_wp2_with fail
          go_loopw [10] (fun jv wr => ∃ (j : Nat) (f : Nat → Int), j ≤ E.length ∧ jv = .int .i64 (j : Nat) ∧ Hid (StI i E p v r ((r : Int) + 1) f) ∧ Hid (StE E p r j f) ∧ Hid (Row wr w.heap.size i (fun j => .int .i64 (f j))) ∧ Hid (Below w.heap.size w wr)) (fun jv _ => E.length - (intOf jv).toNat)
          case atStart => exact ⟨0, f, Nat.zero_le _, rfl, HI1, HE1, HK, HB⟩
          case round =>
            clear HI1 HE1 HK HB
            obtain ⟨j, f, hj, rfl, HI, HE, HK, HB⟩ := hrel
            have hRr := HR.out.below (HB.out.mono hB)
            obtain ⟨ea, ec, EA, hce, hES⟩ := hRr.edges
            have hwj : IntKind.i64.wrap ((j : Int) + 1) = (j : Int) + 1 := IntWalk.i64_in _ (by omega)
            by_cases hlt : j < E.length
            · have ix := hES.ix j hlt
              have e0 := ES.u hES hlt
              have e1 := ES.v hES hlt
              obtain ⟨x, y, hx, hy, hxn, hyn, hxy⟩ := HGk.out.nats hlt
              rw [hx] at e0; rw [hy] at e1
              have hep : edP E j = (x, y) := by unfold edP; rw [hx, hy]; rfl
              have HLk := Lib.hid (show Lnk E j x y from .inl hep)
              have cx := HK.out.cell hxn
              have cy := HK.out.cell hyn
              have fx := HK.out.frozen x
              have fy := HK.out.frozen y
              obtain ⟨dx, hdx⟩ : ∃ d, f x = d := ⟨_, rfl⟩
              obtain ⟨dy, hdy⟩ : ∃ d, f y = d := ⟨_, rfl⟩
              rw [hdx] at cx; rw [hdy] at cy
              have hji : (0 : Int) ≤ j ∧ (j : Int) < E.length := by omega
              have hxi : (0 : Int) ≤ x ∧ (x : Int) < i := by omega
              have hyi : (0 : Int) ≤ y ∧ (y : Int) < i := by omega
              have HKd := Lib.hid (fun m => HK.out.drewN m)
              have HBd := Lib.hid (fun m => below_drewN HB.out m)
              clear hRr hES hx hy hep
              by_cases hjp : j = p
              · have q1 : ((j : Int) == (p : Int)) = true := by simp [hjp]
                have HE2 := Lib.hid (HE.out.next (fun h => absurd hjp h.2))
                clear hjp hdx hdy HE HK HB
                go_wp2_with fail
                go_quiet (fail)
                go_wp2_with fail
                go_roundw
                case rel => exact ⟨j + 1, f, by omega, by go_num, HI, HE2, Lib.hid (HKd.out _), Lib.hid (HBd.out _)⟩
                case measure => simp only [intOf]; omega
              · have q1 : ((j : Int) == (p : Int)) = false := by simp; omega
                have hne : NE E p j := ⟨hlt, hjp⟩
                have hlex := HI.out.le x hxn
                have hley := HI.out.le y hyn
                by_cases hA : dx = (r : Int) ∧ dy < 0
                · obtain ⟨rfl, hy0⟩ := hA
                  obtain ⟨s1, s2⟩ := HI.out.set HGk.out HE.out hne HLk.out hdx (by rw [hdy]; exact hy0)
                  have HI2 := Lib.hid s1
                  have HE2 := Lib.hid (s2.next fun _ a b' hl ha => by
                    rcases lnk_two hl HLk.out with ⟨rfl, rfl⟩ | ⟨rfl, rfl⟩
                    · rw [upd_at]; omega
                    · rw [upd_at] at ha; omega)
                  have HK2 := Lib.hid (show ∀ m, Row ((wr.drewN m).setCell ⟨w.heap.size, y, none⟩ (.int .i64 ((r : Int) + 1))) w.heap.size i (fun k => .int .i64 (upd f y ((r : Int) + 1) k)) from fun m => ((HK.out.drewN m).set y (.int .i64 ((r : Int) + 1))).congr fun k _ => by unfold upd; split <;> rfl)
                  have HB2 := Lib.hid (show ∀ m, Below w.heap.size w ((wr.drewN m).setCell ⟨w.heap.size, y, none⟩ (.int .i64 ((r : Int) + 1))) from fun m => (below_drewN HB.out m).setCell (p := ⟨w.heap.size, y, none⟩) (Nat.le_refl _) _)
                  have t1 : ((r : Int) == (r : Int)) = true := by simp
                  have t2 : decide (dy < 0) = true := decide_eq_true hy0
                  have t3 : (((r : Int) + 1) == (r : Int)) = false := beq_eq_false_iff_ne.2 (by omega)
                  have k1 : ∀ m, ((wr.drewN m).setCell ⟨w.heap.size, y, none⟩ (.int .i64 ((r : Int) + 1))).cell? ⟨w.heap.size, y, none⟩ = some (.int .i64 ((r : Int) + 1)) := fun m => World.cell?_setCell_same _ _ _ cy
                  clear hjp hdx hdy HE HK HB HI s1 s2 hy0 hne hlex hley
                  go_wp2_with fail
                  go_quiet (fail)
                  go_wp2_with fail
                  go_roundw
                  case rel => exact ⟨j + 1, _, by omega, by go_num, HI2, HE2, Lib.hid (HK2.out _), Lib.hid (HB2.out _)⟩
                  case measure => simp only [intOf]; omega
                · by_cases hBc : dy = (r : Int) ∧ dx < 0
                  · obtain ⟨rfl, hx0⟩ := hBc
                    obtain ⟨s1, s2⟩ := HI.out.set HGk.out HE.out hne HLk.out.symm hdy (by rw [hdx]; exact hx0)
                    have HI2 := Lib.hid s1
                    have HE2 := Lib.hid (s2.next fun _ a b' hl ha => by
                      rcases lnk_two hl HLk.out with ⟨rfl, rfl⟩ | ⟨rfl, rfl⟩
                      · rw [upd_at] at ha; omega
                      · rw [upd_at]; omega)
                    have HK2 := Lib.hid (show ∀ m, Row ((wr.drewN m).setCell ⟨w.heap.size, x, none⟩ (.int .i64 ((r : Int) + 1))) w.heap.size i (fun k => .int .i64 (upd f x ((r : Int) + 1) k)) from fun m => ((HK.out.drewN m).set x (.int .i64 ((r : Int) + 1))).congr fun k _ => by unfold upd; split <;> rfl)
                    have HB2 := Lib.hid (show ∀ m, Below w.heap.size w ((wr.drewN m).setCell ⟨w.heap.size, x, none⟩ (.int .i64 ((r : Int) + 1))) from fun m => (below_drewN HB.out m).setCell (p := ⟨w.heap.size, x, none⟩) (Nat.le_refl _) _)
                    have t1 : (dx == (r : Int)) = false := beq_eq_false_iff_ne.2 (by omega)
                    have t2 : decide (dx < 0) = true := decide_eq_true hx0
                    have t3 : ((r : Int) == (r : Int)) = true := by simp
                    clear hjp hdx hdy HE HK HB HI s1 s2 hx0 hne hlex hley hA
                    go_wp2_with fail
                    go_quiet (fail)
                    go_wp2_with fail
                    go_roundw
                    case rel => exact ⟨j + 1, _, by omega, by go_num, HI2, HE2, Lib.hid (HK2.out _), Lib.hid (HB2.out _)⟩
                    case measure => simp only [intOf]; omega
                  · have HE2 := Lib.hid (HE.out.next fun _ a b' hl ha => by
                      rcases lnk_two hl HLk.out with ⟨rfl, rfl⟩ | ⟨rfl, rfl⟩
                      · rw [hdx] at ha; rw [hdy]; have : ¬ dy < 0 := fun c => hA ⟨ha, c⟩; rw [hdy] at hley; omega
                      · rw [hdy] at ha; rw [hdx]; have : ¬ dx < 0 := fun c => hBc ⟨ha, c⟩; rw [hdx] at hlex; omega)
                    have hc1 : (dx == (r : Int)) = false ∨ (dx == (r : Int)) = true ∧ decide (dy < 0) = false := by
                      by_cases c : dx = (r : Int)
                      · exact .inr ⟨beq_iff_eq.2 c, decide_eq_false fun d => hA ⟨c, d⟩⟩
                      · exact .inl (beq_eq_false_iff_ne.2 c)
                    have hc2 : (dy == (r : Int)) = false ∨ (dy == (r : Int)) = true ∧ decide (dx < 0) = false := by
                      by_cases c : dy = (r : Int)
                      · exact .inr ⟨beq_iff_eq.2 c, decide_eq_false fun d => hBc ⟨c, d⟩⟩
                      · exact .inl (beq_eq_false_iff_ne.2 c)
                    clear hjp hdx hdy HE HK HB hne hlex hley hA hBc
                    rcases hc1 with t1 | ⟨t1, t2⟩ <;> rcases hc2 with t3 | ⟨t3, t4⟩
                    all_goals
                      go_wp2_with fail
                      go_quiet (fail)
                      go_wp2_with fail
                      go_roundw
                      case rel => exact ⟨j + 1, f, by omega, by go_num, HI, HE2, Lib.hid (HKd.out _), Lib.hid (HBd.out _)⟩
                      case measure => simp only [intOf]; omega
            · obtain rfl : j = E.length := by omega
              have HN := Lib.hid (HI.out.next HE.out)
              clear hRr hES HI HE
              go_wp2_with fail
              go_roundw
              case rel => exact ⟨r + 1, f, by omega, by go_num, HN, HK, HB⟩
              case measure => simp only [intOf]; omega
        · obtain rfl : r = i := by omega
          have HD := Lib.hid (HI.out.done HGk.out)
          clear HI
          go_wp2_with fail
          go_ret
          exact ⟨f, rfl, HD.out, HK.out, HB.out⟩
end Go.Proofs.Ytcpikabhcjkkmaa

/- The document's cycle through an edge. Conditions: the graph is made. -/
namespace Go.Proofs.Ytcpikabhcjkkmaa
open Go.RowKit

theorem nx_scan {E : List Ed} {p x i : Nat} {d : Nat → Int} (hi : i < E.length) (h1 : inc E x i = true) (h2 : stp E p d x i = true) (h3 : ∀ j, j < i → inc E x j = true → stp E p d x j = false) : nx E p d x = some i := by
  unfold nx adj adjTo
  rw [List.find?_filter, List.find?_range_eq_some]
  refine ⟨by simp [h1, h2], by simpa using hi, fun j hj => ?_⟩
  by_cases c : inc E x j = true
  · simp [h3 j hj c]
  · simp [c]
set_option maxRecDepth 100000 in
set_option maxHeartbeats 1000000 in
theorem rtouch_any (B b n i x : Nat) (E : List Ed) (w : World) (hR : RAt w B b n E) (hi : i < E.length) :
    Calls Try.prog 53 #[.pointer (some ⟨b, 0, none⟩), .int .i64 (i : Nat), .int .i64 (x : Nat)] w fun e w' => e = .returned (.bool (inc E x i)) ∧ w' = w := by
  obtain ⟨ea, ec, EA, hce, hES⟩ := hR.edges
  obtain ⟨u, v, hu, hv, hun, hvn, huv⟩ := hR.ok.nats hi
  have ix := hES.ix i hi
  have e0 := ES.u hES hi
  have e1 := ES.v hES hi
  have hin : (0 : Int) ≤ i ∧ (i : Int) < E.length := by omega
  obtain ⟨c, hc⟩ : ∃ c, inc E x i = c := ⟨_, rfl⟩
  have hcc := hc
  unfold inc at hcc
  rw [hu] at e0 hcc; rw [hv] at e1 hcc
  have HC := Lib.hid hc
  by_cases h1 : u = x
  · have q1 : ((u : Int) == (x : Int)) = true := by simp [h1]
    have hct : c = true := by rw [← hcc]; simp [h1]
    subst hct
    clear hcc hc hES hR hu hv h1
    go_enter Try.func53, Try.ntmps53
    go_wp2_with fail
    go_ret
    exact ⟨by rw [HC.out]; rfl, rfl⟩
  · have q1 : ((u : Int) == (x : Int)) = false := by simp; omega
    have q2 : ((v : Int) == (x : Int)) = c := by
      rw [← hcc, Bool.eq_iff_iff, decide_eq_true_eq, beq_iff_eq]
      constructor
      · exact .inr
      · rintro (h | h)
        · omega
        · exact h
    clear hcc hc hES hR hu hv h1
    go_enter Try.func53, Try.ntmps53
    go_wp2_with fail
    go_ret
    exact ⟨by rw [HC.out]; rfl, rfl⟩
set_option maxRecDepth 100000 in
set_option maxHeartbeats 1000000 in
theorem rother_any (B b n i x : Nat) (E : List Ed) (w : World) (hR : RAt w B b n E) (hi : i < E.length) (hx : inc E x i = true) :
    Calls Try.prog 59 #[.pointer (some ⟨b, 0, none⟩), .int .i64 (i : Nat), .int .i64 (x : Nat)] w fun e w' => e = .returned (.int .i64 (oN E x i : Nat)) ∧ w' = w := by
  obtain ⟨ea, ec, EA, hce, hES⟩ := hR.edges
  obtain ⟨u, v, hu, hv, hun, hvn, huv⟩ := hR.ok.nats hi
  have ix := hES.ix i hi
  have e0 := ES.u hES hi
  have e1 := ES.v hES hi
  have hin : (0 : Int) ≤ i ∧ (i : Int) < E.length := by omega
  have hep : edP E i = (u, v) := by unfold edP; rw [hu, hv]; rfl
  unfold inc at hx
  rw [hu] at e0 hx; rw [hv] at e1 hx
  simp only [decide_eq_true_eq] at hx
  by_cases h1 : u = x
  · have q1 : ((u : Int) == (x : Int)) = true := by simp [h1]
    have HO : Hid (oN E x i = v) := Lib.hid (by unfold oN; rw [hep]; simp only; rw [if_neg (by omega)])
    clear hx hES hR hu hv h1 hep
    go_enter Try.func59, Try.ntmps59
    go_wp2_with fail
    go_ret
    exact ⟨by rw [HO.out]; rfl, rfl⟩
  · have q1 : ((u : Int) == (x : Int)) = false := by simp; omega
    have HO : Hid (oN E x i = u) := Lib.hid (by unfold oN; rw [hep]; simp only; rw [if_pos (by omega)])
    clear hx hES hR hu hv h1 hep
    go_enter Try.func59, Try.ntmps59
    go_wp2_with fail
    go_ret
    exact ⟨by rw [HO.out]; rfl, rfl⟩
/-- what is known of the next edge -/
def NxI (E : List Ed) (p x : Nat) (d : Nat → Int) (c i : Nat) (z : Int) : Prop := (z = -1 ∧ ∀ j, j < i → inc E x j = true → stp E p d x j = false) ∨ z = (c : Int)
theorem ownI_lit1 (w : World) (x : Nat) : OwnI w.heap.size (.slice (some ⟨w.heap.size, 0, none⟩) 1 1) [x] (w.alloc (.cells #[.int .i64 (x : Nat)] 3)) :=
  World.ownsRow_lit w #[.int .i64 (x : Nat)] 1 (Nat.le_refl _) (by unfold maxLen; omega) (by simp)
set_option maxRecDepth 100000 in
set_option maxHeartbeats 4000000 in
theorem rcycle_any (B b n : Nat) (E : List Ed) (z : Int) (w : World) (hR : RAt w B b n E) (hB : B ≤ w.heap.size) :
    Calls Try.prog 25 #[.pointer (some ⟨b, 0, none⟩), .int .i64 z] w (CyRes n E z w) := by
  have hml := hR.ok.m_le
  have hn4 := hR.ok.n_le
  have HGk := Lib.hid hR.ok
  have HV := Lib.hid (rval_any B b n E w hR)
  obtain ⟨ea, ec, EA, hce, hES⟩ := hR.edges
  by_cases hz0 : z < 0
  · have d1 : decide (z < 0) = true := decide_eq_true hz0
    have HF : Hid (CyRes n E z w (.returned (.slice none 0 0)) w) := Lib.hid ⟨_, [], rfl, ⟨fun _ => rfl, fun p hp _ => by omega⟩, ⟨none, 0, fun _ => ⟨0, 0, none⟩, rfl, Rd.nil _⟩, Below.refl _ _⟩
    clear hR hES hz0
    go_enter Try.func25, Try.ntmps25
    go_wp2_with fail
    refine HV.out.mono ?_
    rintro e wz ⟨rfl, rfl⟩
    go_wp2_with fail
    go_ret
    exact HF.out
  have d1 : decide (z < 0) = false := decide_eq_false hz0
  obtain ⟨p, hp⟩ : ∃ p : Nat, z = (p : Int) := ⟨z.toNat, by omega⟩
  subst hp
  by_cases hpm : E.length ≤ p
  · have d2 : decide (E.length ≤ p) = true := decide_eq_true hpm
    have d3 : decide ((p : Int) ≥ (E.length : Int)) = true := decide_eq_true (by omega)
    have HF : Hid (CyRes n E (p : Int) w (.returned (.slice none 0 0)) w) := Lib.hid ⟨_, [], rfl, ⟨fun _ => rfl, fun q hq h => by omega⟩, ⟨none, 0, fun _ => ⟨0, 0, none⟩, rfl, Rd.nil _⟩, Below.refl _ _⟩
    clear hR hES hz0 hpm
    go_enter Try.func25, Try.ntmps25
    go_wp2_with fail
    refine HV.out.mono ?_
    rintro e wz ⟨rfl, rfl⟩
    go_wp2_with fail
    go_ret
    exact HF.out
  have hpl : p < E.length := by omega
  have d2 : decide (E.length ≤ p) = false := decide_eq_false hpm
  have d3 : decide ((p : Int) ≥ (E.length : Int)) = false := decide_eq_false (by omega)
  obtain ⟨u, v, hu, hv, hun, hvn, huv⟩ := hR.ok.nats hpl
  have hep : edP E p = (u, v) := by unfold edP; rw [hu, hv]; rfl
  have HEp := Lib.hid hep
  have ix := hES.ix p hpl
  have e0 := ES.u hES hpl
  have e1 := ES.v hES hpl
  rw [hu] at e0; rw [hv] at e1
  have HSt := fun m => rsteps_any B b n p v E (w.drewN m) (hR.below (below_drewN (Below.refl _ _) m)) hB hvn
  have HSt := Lib.hid HSt
  have HR := Lib.hid hR
  have hpi : (0 : Int) ≤ p ∧ (p : Int) < E.length := by omega
  have hui : (0 : Int) ≤ u ∧ (u : Int) < n := by omega
  have hvi : (0 : Int) ≤ v ∧ (v : Int) < n := by omega
  clear hR hES hu hv hep hz0 hpm
  go_enter Try.func25, Try.ntmps25
  go_wp2_with fail
  refine HV.out.mono ?_
  rintro e wz ⟨rfl, rfl⟩
  clear HV
  go_wp2_with fail
  go_quiet (fail)
  go_wp2_with fail
  refine (HSt.out nq).mono ?_
  clear HSt
  rintro e w2 ⟨d, rfl, hD, hrow, b2⟩
  have hq : (w.drewN nq).heap.size = w.heap.size := rfl
  rw [hq] at hrow b2 ⊢
  have HB2 := Lib.hid ((below_drewN (Below.refl w.heap.size w) nq).trans b2)
  have HRow := Lib.hid hrow
  have HD := Lib.hid hD
  have cu := hrow.cell hun
  have hdl := hrow.lt
  have hL := cycL_of hpl (by rw [HEp.out]; exact hD)
  rw [HEp.out] at hL
  have HL := Lib.hid hL
  clear b2 hrow hD ix e0 e1 hce hq hL
  rcases Int.lt_or_le (d u) 0 with hneg | hpos
  · have t1 : decide (d u < 0) = true := decide_eq_true hneg
    have hcy : cyc E p d u = [] := by unfold cyc; rw [if_pos hneg]
    rw [hcy] at HL
    have HF : Hid (CyRes n E (p : Int) w (.returned (.slice none 0 0)) w2) := Lib.hid ⟨_, [], rfl, HL.out, ⟨none, 0, fun _ => ⟨0, 0, none⟩, rfl, Rd.nil _⟩, HB2.out⟩
    obtain ⟨du, hdu⟩ : ∃ x, d u = x := ⟨_, rfl⟩
    rw [hdu] at cu t1
    clear hneg hcy hdu
    go_wp2_with fail
    go_ret
    exact HF.out
  · have t1 : decide (d u < 0) = false := decide_eq_false (by omega)
    obtain ⟨k0, hk0⟩ : ∃ k : Nat, d u = (k : Int) := ⟨(d u).toNat, by omega⟩
    have hcy : cyc E p d u = [p] ++ chn E p d k0 u := by
      unfold cyc; rw [if_neg (by omega), show (d u).toNat = k0 by omega]; rfl
    have HCy := Lib.hid hcy
    have HK0 := Lib.hid hk0
    have HO0 := Lib.hid (ownI_lit1 w2 p)
    have HA0 := Lib.hid (show Below w2.heap.size w2 (w2.alloc (.cells #[.int .i64 (p : Nat)] 3)) from (Below.refl _ w2).alloc (Nat.le_refl _) _)
    have hs2 := HB2.out.size
    have hb2 : B ≤ w2.heap.size := by omega
    have hklt := dist_lt HGk.out HD.out hun hpos
    rw [hk0] at cu t1
    have hk60 : k0 ≤ 4096 := by omega
    clear hpos hcy hk0 hklt
    go_wp2_with fail
    go_loopw [5, 8] (fun av ov wr => ∃ (x k : Nat) (T : List Nat), av = .int .i64 (x : Nat) ∧ x < n ∧ k ≤ k0 ∧ Hid (d x = (k : Int)) ∧ Hid (T.length + k = k0 + 1) ∧ Hid (cyc E p d u = T ++ chn E p d k x) ∧ Hid (OwnI w2.heap.size ov T wr) ∧ Hid (Below w2.heap.size w2 wr)) (fun av _ _ => (d (intOf av).toNat).toNat)
    case atStart => exact ⟨u, k0, [p], rfl, hun, Nat.le_refl _, HK0, Lib.hid (by simp; omega), HCy, HO0, HA0⟩
    case round =>
      clear HCy HO0 HA0 HK0
      obtain ⟨x, k, T, rfl, hx, hkk, HDx, HTl, HC, HO, HB⟩ := hrel
      by_cases hxv : x = v
      · have q1 : ((x : Int) != (v : Int)) = false := by simp [hxv]
        have hk : k = 0 := by
          have := HD.out.root
          rw [← hxv, HDx.out] at this; omega
        have hT : cyc E p d u = T := by rw [HC.out, hk, show chn E p d 0 x = [] from rfl, List.append_nil]
        have HF := Lib.hid (show CyRes n E (p : Int) w (.returned u8) wr from ⟨_, T, rfl, by rw [← hT]; exact HL.out, ownI_rd HO.out, HB2.out.trans (HB.out.mono hs2)⟩)
        clear hxv hk hT HO HC
        go_wp2_with fail
        go_ret
        exact HF.out
      · have q1 : ((x : Int) != (v : Int)) = true := by simp; omega
        obtain ⟨k', hk'⟩ : ∃ k', k = k' + 1 := by
          cases k with
          | zero => exact absurd (zero_root HD.out hx (by rw [HDx.out]; rfl)) hxv
          | succ k' => exact ⟨k', rfl⟩
        obtain ⟨c, hnx⟩ := nx_some HGk.out HD.out hx (by rw [HDx.out]; omega)
        have HNx := Lib.hid hnx
        obtain ⟨hcE, hcx, hcp, hcd⟩ := nx_mem hnx
        have hxi : (0 : Int) ≤ x ∧ (x : Int) < n := by omega
        have hcn : (oN E x c) < n := (oN_lnk HGk.out hcE hcx).2.2.1
        have HCd := Lib.hid hcd
        have HCc := Lib.hid (And.intro hcE hcx)
        obtain ⟨wq, rfl⟩ : ∃ wq : World, wq = wr := ⟨_, rfl⟩
        have hRq := HR.out.below ((HB2.out.trans (HB.out.mono hs2)).mono hB)
        have HRq := Lib.hid hRq
        have hrq := HRow.out.below HB.out hdl
        have HRowq := Lib.hid hrq
        have cx := hrq.cell hx
        rw [HDx.out] at cx
        have hwk : IntKind.i64.wrap ((k : Int) - 1) = (k : Int) - 1 := IntWalk.i64_in _ (by omega)
        obtain ⟨ea2, ec2, EA2, hce2, -⟩ := hRq.edges
        clear hxv hnx hcd hRq hrq hcx hcp
        go_wp2_with fail
        go_loopw [9, 10] (fun nv iv wr => ∃ (i : Nat) (nx' : Int), i ≤ E.length ∧ nv = .int .i64 nx' ∧ iv = .int .i64 (i : Nat) ∧ Hid (NxI E p x d c i nx') ∧ Hid (∃ q, wr = wq.drewN q)) (fun _ iv _ => E.length - (intOf iv).toNat)
        case atStart => exact ⟨0, -1, Nat.zero_le _, rfl, rfl, Lib.hid (.inl ⟨rfl, fun _ h => by omega⟩), Lib.hid ⟨0, rfl⟩⟩
        case round =>
          obtain ⟨i, nx', hi, rfl, rfl, HN, HQ⟩ := hrel
          obtain ⟨q, hq⟩ := HQ.out
          subst hq
          by_cases hgo : i < E.length ∧ nx' < 0
          · obtain ⟨hil, hnn⟩ := hgo
            rcases HN.out with ⟨rfl, hno⟩ | h
            · have HNo := Lib.hid hno
              have t2 : decide (i < E.length) = true := decide_eq_true hil
              have t3 : decide ((i : Int) < (E.length : Int)) = true := decide_eq_true (by omega)
              have hwi : IntKind.i64.wrap ((i : Int) + 1) = (i : Int) + 1 := IntWalk.i64_in _ (by omega)
              have hii : (0 : Int) ≤ i ∧ (i : Int) < E.length := by omega
              have HQs := Lib.hid (fun m => (⟨_, World.drewN_drewN _ _ _⟩ : ∃ q', (wq.drewN q).drewN m = wq.drewN q'))
              have HT := Lib.hid (fun m => rtouch_any w2.heap.size b n i x E ((wq.drewN q).drewN m) (((HRq.out.mono hb2).below (below_drewN (Below.refl _ _) q)).below (below_drewN (Below.refl _ _) m)) hil)
              have dx1 : (wq.drewN q).cell? ⟨w.heap.size, x, none⟩ = some (.int .i64 (k : Nat)) := cx
              have de1 : (wq.drewN q).cell? ⟨b, 2, none⟩ = some (.slice ea2 E.length ec2) := hce2
              by_cases hip : i = p
              · have q2 : ((i : Int) != (p : Int)) = false := by simp [hip]
                have HN2 : Hid (NxI E p x d c (i + 1) (-1)) := Lib.hid (.inl ⟨rfl, fun j hj hm => by
                  by_cases e : j = i
                  · rw [e, hip]; simp [stp]
                  · exact HNo.out j (by omega) hm⟩)
                clear hip hno HN hnn hil HQ
                generalize wq.drewN q = ws at *
                go_wp2_with fail
                go_quiet ((go_at_call 53; exact Calls.quiet_of_same (HT.out _)))
                go_wp2_with fail
                go_roundw
                case rel => exact ⟨i + 1, -1, by omega, rfl, by go_num, HN2, Lib.hid (HQs.out _)⟩
                case measure => simp only [intOf]; omega
              · have q2 : ((i : Int) != (p : Int)) = true := by simp; omega
                cases hinc : inc E x i with
                | false =>
                  rw [hinc] at HT
                  have HN2 : Hid (NxI E p x d c (i + 1) (-1)) := Lib.hid (.inl ⟨rfl, fun j hj hm => by
                    by_cases e : j = i
                    · rw [e, hinc] at hm; cases hm
                    · exact HNo.out j (by omega) hm⟩)
                  clear hip hno HN hnn hil HQ hinc
                  generalize wq.drewN q = ws at *
                  go_wp2_with fail
                  go_quiet ((go_at_call 53; exact Calls.quiet_of_same (HT.out _)))
                  go_wp2_with fail
                  go_roundw
                  case rel => exact ⟨i + 1, -1, by omega, rfl, by go_num, HN2, Lib.hid (HQs.out _)⟩
                  case measure => simp only [intOf]; omega
                | true =>
                  rw [hinc] at HT
                  have hon := (oN_lnk HGk.out hil hinc).2.2.1
                  have HOt := fun m => rother_any w2.heap.size b n i x E ((wq.drewN q).drewN m) (((HRq.out.mono hb2).below (below_drewN (Below.refl _ _) q)).below (below_drewN (Below.refl _ _) m)) hil hinc
                  have co : (wq.drewN q).cell? ⟨w.heap.size, oN E x i, none⟩ = some (.int .i64 (d (oN E x i))) := HRowq.out.cell hon
                  obtain ⟨o, ho⟩ : ∃ o, oN E x i = o := ⟨_, rfl⟩
                  rw [ho] at HOt co hon
                  have HOt := Lib.hid HOt
                  obtain ⟨do', hdo⟩ : ∃ y, d o = y := ⟨_, rfl⟩
                  rw [hdo] at co
                  have hoi : (0 : Int) ≤ o ∧ (o : Int) < n := by omega
                  by_cases hst : do' = (k : Int) - 1
                  · have q3 : (do' == (k : Int) - 1) = true := beq_iff_eq.2 hst
                    have hs : stp E p d x i = true := by
                      unfold stp; rw [ho, hdo, HDx.out]; simp [hip, hst]
                    have hci : c = i := by
                      have := nx_scan hil hinc hs hno
                      rw [HNx.out] at this
                      exact Option.some.inj this
                    have HN2 : Hid (NxI E p x d c (i + 1) (i : Int)) := Lib.hid (.inr (by rw [hci]))
                    clear hip hno HN hnn hil HQ hinc hst hs hci ho hdo hon
                    generalize wq.drewN q = ws at *
                    go_wp2_with fail
                    go_quiet (first | (go_at_call 53; exact Calls.quiet_of_same (HT.out _)) | (go_at_call 59; exact Calls.quiet_of_same (HOt.out _)))
                    go_wp2_with fail
                    go_roundw
                    case rel => exact ⟨i + 1, (i : Int), by omega, rfl, by go_num, HN2, Lib.hid (HQs.out _)⟩
                    case measure => simp only [intOf]; omega
                  · have q3 : (do' == (k : Int) - 1) = false := beq_eq_false_iff_ne.2 hst
                    have hs : stp E p d x i = false := by
                      unfold stp; rw [ho, hdo, HDx.out]; simp [hst]
                    have HN2 : Hid (NxI E p x d c (i + 1) (-1)) := Lib.hid (.inl ⟨rfl, fun j hj hm => by
                      by_cases e : j = i
                      · rw [e]; exact hs
                      · exact HNo.out j (by omega) hm⟩)
                    clear hip hno HN hnn hil HQ hinc hst hs ho hdo hon
                    generalize wq.drewN q = ws at *
                    go_wp2_with fail
                    go_quiet (first | (go_at_call 53; exact Calls.quiet_of_same (HT.out _)) | (go_at_call 59; exact Calls.quiet_of_same (HOt.out _)))
                    go_wp2_with fail
                    go_roundw
                    case rel => exact ⟨i + 1, -1, by omega, rfl, by go_num, HN2, Lib.hid (HQs.out _)⟩
                    case measure => simp only [intOf]; omega
            · omega
          · have hnc : nx' = (c : Int) := by
              rcases HN.out with ⟨h1, h2⟩ | h
              · exfalso
                have hie : ¬ i < E.length := fun h => hgo ⟨h, by omega⟩
                obtain ⟨m1, m2, m3, m4⟩ := nx_mem HNx.out
                have := h2 c (by omega) m2
                simp [stp, m3, m4] at this
              · exact h
            subst hnc
            have HT1 : Hid (cyc E p d u = (T ++ [c]) ++ chn E p d k' (oN E x c)) := Lib.hid (by rw [HC.out, hk', chn_step HNx.out]; simp)
            have hdk : d (oN E x c) = (k' : Int) := by rw [HCd.out, HDx.out, hk']; omega
            have HDk := Lib.hid hdk
            have HTn : Hid ((T ++ [c]).length + k' = k0 + 1) := Lib.hid (by have := HTl.out; simp; omega)
            have hTl : T.length ≤ 4097 := by have := HTl.out; omega
            have HOq := Lib.hid (ownI_below HO.out (below_drewN (Below.refl wq.heap.size wq) q))
            have HBq := Lib.hid (below_drewN HB.out q)
            have HRs := Lib.hid ((HRq.out.mono hb2).below (below_drewN (Below.refl w2.heap.size wq) q))
            have de1 : (wq.drewN q).cell? ⟨b, 2, none⟩ = some (.slice ea2 E.length ec2) := hce2
            have hown := HOq.out
            have hsz := HBq.out.size
            have t5 : decide ((c : Int) < 0) = false := decide_eq_false (by omega)
            have hcase : decide (i < E.length) = true ∨ decide (i < E.length) = false := by cases decide (i < E.length) <;> simp
            unfold OwnI at hown
            obtain ⟨o, ho⟩ : ∃ o, oN E x c = o := ⟨_, rfl⟩
            have HOo := Lib.hid ho
            rw [ho] at hcn HDk HT1
            clear hgo hdk HN HQ HO HB HC HTl HOq ho
            generalize wq.drewN q = ws at *
            rcases hcase with t6 | t6
            all_goals
              go_wp2_with (at_builtin; refine push etI rfl _ _ rfl w2.heap.size _ _ _ hown rfl #[.int .i64 (c : Nat)] _ rfl rfl rfl (by simp [Value.oneCell']) (by omega) (by omega) hsz ?_; intro g cp w5 hown5 hg5 hv5; refine Hid.out ?_)
              have hb5 := HBq.out.grown hg5 hsz (fun j e => (hown.lt j e).1)
              have HB5 := Lib.hid hb5
              have hbs := HBq.out
              have HR5 := HRs.out.below (((Below.refl w2.heap.size ws).grown hg5 hsz (fun j e => (hown.lt j e).1)))
              have HOt := Lib.hid (rother_any w2.heap.size b n c x E w5 HR5 HCc.out.1 HCc.out.2)
              have HO5 : Hid (OwnI w2.heap.size (.slice (some ⟨g, 0, none⟩) (T.length + 1 : Nat) cp) (T ++ [c]) w5) := Lib.hid (by unfold OwnI; rw [intsN_snoc, List.map_append, List.length_append]; exact hown5)
              rw [HOo.out] at HOt
              clear hown5 hg5 hv5 hb5 hbs HR5
              refine Lib.hid ?_
              go_wp2_with fail
              refine HOt.out.mono ?_
              rintro e wz ⟨rfl, rfl⟩
              go_wp2_with fail
              go_roundw
              case rel => exact ⟨o, k', T ++ [c], rfl, hcn, by omega, HDk, HTn, HT1, HO5, HB5⟩
              case measure =>
                have h1 := HDk.out
                have h2 := HDx.out
                simp only [intOf, Int.toNat_natCast, h1, h2]
                omega
end Go.Proofs.Ytcpikabhcjkkmaa

/- The document's near and join. Conditions: the graph is made; the names are in range. -/
namespace Go.Proofs.Ytcpikabhcjkkmaa
open Go.RowKit

set_option maxRecDepth 100000 in
set_option maxHeartbeats 1000000 in
theorem rnear_any (B b n a c v : Nat) (E : List Ed) (w : World) (hR : RAt w B b n E) (hB : B ≤ w.heap.size) (ha : a < E.length) (hc : c < E.length) (hva : inc E v a = true) (hvc : inc E v c = true) :
    Calls Try.prog 54 #[.pointer (some ⟨b, 0, none⟩), .int .i64 (a : Nat), .int .i64 (c : Nat), .int .i64 (v : Nat)] w fun e w' => e = .returned (.bool (nearB E a c v)) ∧ Below w.heap.size w w' := by
  have hml := hR.ok.m_le
  have HOa := Lib.hid (rother_any B b n a v E w hR ha hva)
  have HOc := Lib.hid (rother_any B b n c v E w hR hc hvc)
  have hxn := (oN_lnk hR.ok ha hva).2.2.1
  have hyn := (oN_lnk hR.ok hc hvc).2.2.1
  obtain ⟨nb, hnb⟩ : ∃ z, nearB E a c v = z := ⟨_, rfl⟩
  have HNb := Lib.hid hnb
  have hnb2 := hnb
  unfold nearB at hnb2
  obtain ⟨x, hx⟩ : ∃ x, oN E v a = x := ⟨_, rfl⟩
  obtain ⟨y, hy⟩ : ∃ y, oN E v c = y := ⟨_, rfl⟩
  rw [hx] at HOa hxn hnb2; rw [hy] at HOc hyn hnb2
  obtain ⟨ea, ec, EA, hce, -⟩ := hR.edges
  have hmk : ∀ w, (Instr.makeSlice 56 (.int .i64 (E.length : Nat)) (.int .i64 (E.length : Nat))).run Try.prog w = .ok (.slice (some ⟨w.heap.size, 0, none⟩) E.length E.length) (w.alloc (.cells (madeCells #[.bool false] E.length) 4)) := fun w =>
    run_make_row' (P := Try.prog) 56 4 (.bool false) 1 Try.underlying56 Try.infoBl0 rfl .i64 .i64 E.length (by omega) (by omega) w
  have hrow := Row.made w (.bool false) E.length 4
  have hb1 : Below w.heap.size w (w.alloc (.cells (madeCells #[.bool false] E.length) 4)) := (Below.refl _ w).alloc (Nat.le_refl _) _
  have HC := Lib.hid (rlab0_any B b n w.heap.size E (fun _ => false) (v : Nat) _ (hR.below (hb1.mono hB)) (by simp; omega) hrow hrow.lt)
  have HB1 := Lib.hid hb1
  by_cases hxy : x = y
  · have q1 : ((x : Int) == (y : Int)) = true := by simp [hxy]
    have hT : nb = true := by rw [← hnb2]; simp [hxy]
    subst hT
    clear hR hrow hb1 hx hy hnb hnb2 hxy
    go_enter Try.func54, Try.ntmps54
    go_wp2_with fail
    refine HOa.out.mono ?_
    rintro e wz ⟨rfl, rfl⟩
    go_wp2_with fail
    refine HOc.out.mono ?_
    rintro e wz ⟨rfl, rfl⟩
    go_wp2_with fail
    go_ret
    exact ⟨by rw [HNb.out]; rfl, Below.refl _ _⟩
  · have q1 : ((x : Int) == (y : Int)) = false := by simp; omega
    have hd : decide (labO E (ocV E v) x = labO E (ocV E v) y) = nb := by rw [← hnb2]; simp [hxy]
    have hxi : (0 : Int) ≤ x ∧ (x : Int) < n := by omega
    have hyi : (0 : Int) ≤ y ∧ (y : Int) < n := by omega
    clear hR hrow hb1 hx hy hnb hnb2 hxy
    go_enter Try.func54, Try.ntmps54
    go_wp2_with fail
    refine HOa.out.mono ?_
    rintro e wz ⟨rfl, rfl⟩
    go_wp2_with fail
    refine HOc.out.mono ?_
    rintro e wz ⟨rfl, rfl⟩
    go_wp2_with fail
    refine HC.out.mono ?_
    clear HC
    rintro e w2 ⟨rfl, hlv, b2⟩
    simp only [World.size_alloc] at hlv b2 ⊢
    rw [okL_vert] at hlv
    have cx := hlv.cell hxn
    have cy := hlv.cell hyn
    have HB2 := Lib.hid (HB1.out.trans (b2.mono (by omega)))
    obtain ⟨px, hpx⟩ : ∃ p, labO E (ocV E v) x = p := ⟨_, rfl⟩
    obtain ⟨py, hpy⟩ : ∃ p, labO E (ocV E v) y = p := ⟨_, rfl⟩
    rw [hpx] at cx hd; rw [hpy] at cy hd
    have q2 : ((px : Int) == (py : Int)) = nb := by
      rw [← hd, Bool.eq_iff_iff, decide_eq_true_eq, beq_iff_eq]
      omega
    clear hlv b2 hpx hpy hd
    go_wp2_with fail
    go_quiet (fail)
    go_wp2_with fail
    go_ret
    exact ⟨by rw [HNb.out]; rfl, below_drewN HB2.out _⟩
/-- a block is made of two -/
def jn (f : Nat → Nat) (p q : Nat) : Nat → Nat := fun i => if f i = max p q then min p q else f i
theorem jn_join (f : Nat → Nat) (a c : Nat) : jn f (f a) (f c) = joinF f a c := by
  funext i
  unfold jn joinF
  rfl
set_option maxRecDepth 100000 in
set_option maxHeartbeats 1000000 in
theorem rjoin_lt (bb m lo hi : Nat) (f : Nat → Nat) (w : World) (hr : Row w bb m (fun i => .int .i64 (f i : Nat))) (hm : m ≤ 100000) (x y : Nat) (h : (x = lo ∧ y = hi ∧ lo ≤ hi) ∨ (x = hi ∧ y = lo ∧ lo < hi)) :
    Calls Try.prog 55 #[.slice (some ⟨bb, 0, none⟩) m m, .int .i64 (x : Nat), .int .i64 (y : Nat)] w fun e w' => (∃ r, e = .returned r) ∧ Row w' bb m (fun i => .int .i64 ((if f i = hi then lo else f i : Nat) : Int)) ∧ Below bb w w' ∧ w'.heap.size = w.heap.size := by
  have HR0 := Lib.hid (show Row w bb m (fun i => .int .i64 ((if i < 0 ∧ f i = hi then lo else f i : Nat) : Int)) from hr.congr fun i _ => by rw [if_neg (fun c => by omega)])
  clear hr
  go_enter Try.func55, Try.ntmps55
  have hcase : (x = lo ∧ y = hi ∧ decide (y < x) = false ∧ decide ((y : Int) < (x : Int)) = false) ∨ (x = hi ∧ y = lo ∧ decide (y < x) = true ∧ decide ((y : Int) < (x : Int)) = true) := by
    rcases h with ⟨rfl, rfl, h⟩ | ⟨rfl, rfl, h⟩
    · exact .inl ⟨rfl, rfl, decide_eq_false (by omega), decide_eq_false (by omega)⟩
    · exact .inr ⟨rfl, rfl, decide_eq_true (by omega), decide_eq_true (by omega)⟩
  clear h
  rcases hcase with ⟨rfl, rfl, d1, d2⟩ | ⟨rfl, rfl, d1, d2⟩
  · go_wp2_with fail
    go_loopw [6] (fun iv wr => ∃ i : Nat, i ≤ m ∧ iv = .int .i64 (i : Nat) ∧ Hid (Row wr bb m (fun j => .int .i64 ((if j < i ∧ f j = y then x else f j : Nat) : Int))) ∧ Hid (Below bb w wr) ∧ Hid (wr.heap.size = w.heap.size)) (fun iv _ => m - (intOf iv).toNat)
    case atStart => exact ⟨0, Nat.zero_le _, rfl, HR0, Lib.hid (Below.refl _ _), Lib.hid (by first | rfl | trivial)⟩
    case round =>
      clear HR0
      obtain ⟨i, hi, rfl, HR, HB, HZ⟩ := hrel
      have hwi : IntKind.i64.wrap ((i : Int) + 1) = (i : Int) + 1 := IntWalk.i64_in _ (by omega)
      by_cases hlt : i < m
      · have ci := HR.out.cell hlt
        have fi := HR.out.frozen i
        rw [if_neg (fun c => by omega)] at ci
        have hin : (0 : Int) ≤ i ∧ (i : Int) < m := by omega
        obtain ⟨z, hz⟩ : ∃ z, f i = z := ⟨_, rfl⟩
        rw [hz] at ci
        by_cases hzh : z = y
        · have q1 : ((z : Int) == (y : Int)) = true := by simp [hzh]
          have HR2 := Lib.hid ((HR.out.set i (.int .i64 (x : Nat))).congr (f' := fun j => .int .i64 ((if j < i + 1 ∧ f j = y then x else f j : Nat) : Int)) fun j _ => by
            by_cases c : j = i
            · subst c
              rw [if_pos rfl, if_pos ⟨by omega, by rw [hz, hzh]⟩]
            · rw [if_neg c]
              by_cases d : j < i ∧ f j = y
              · rw [if_pos d, if_pos ⟨by omega, d.2⟩]
              · rw [if_neg d, if_neg (fun e => d ⟨by omega, e.2⟩)])
          have HB2 := Lib.hid (HB.out.setCell (p := ⟨bb, i, none⟩) (Nat.le_refl _) (.int .i64 (x : Nat)))
          have HZ2 := Lib.hid (show (wr.setCell ⟨bb, i, none⟩ (.int .i64 (x : Nat))).heap.size = w.heap.size by simp [World.setCell]; exact HZ.out)
          clear hz hzh HR HB HZ
          go_wp2_with fail
          go_roundw
          case rel => exact ⟨i + 1, by omega, by go_num, HR2, HB2, HZ2⟩
          case measure => simp only [intOf]; omega
        · have q1 : ((z : Int) == (y : Int)) = false := by simp; omega
          have HR2 := Lib.hid (HR.out.congr (f' := fun j => .int .i64 ((if j < i + 1 ∧ f j = y then x else f j : Nat) : Int)) fun j _ => by
            by_cases d : j < i ∧ f j = y
            · rw [if_pos d, if_pos ⟨by omega, d.2⟩]
            · rw [if_neg d, if_neg (fun e => d ⟨by
                by_cases c : j = i
                · rw [c, hz] at e; exact absurd e.2 hzh
                · omega, e.2⟩)])
          clear hz hzh HR
          go_wp2_with fail
          go_roundw
          case rel => exact ⟨i + 1, by omega, by go_num, HR2, HB, HZ⟩
          case measure => simp only [intOf]; omega
      · obtain rfl : i = m := by omega
        have HF := Lib.hid (HR.out.congr (f' := fun j => .int .i64 ((if f j = y then x else f j : Nat) : Int)) fun j hj => by
          by_cases d : f j = y
          · rw [if_pos ⟨hj, d⟩, if_pos d]
          · rw [if_neg (fun e => d e.2), if_neg d])
        clear HR
        go_wp2_with fail
        go_end0
        exact ⟨⟨_, rfl⟩, HF.out, HB.out, HZ.out⟩
  · go_wp2_with fail
    go_loopw [6] (fun iv wr => ∃ i : Nat, i ≤ m ∧ iv = .int .i64 (i : Nat) ∧ Hid (Row wr bb m (fun j => .int .i64 ((if j < i ∧ f j = x then y else f j : Nat) : Int))) ∧ Hid (Below bb w wr) ∧ Hid (wr.heap.size = w.heap.size)) (fun iv _ => m - (intOf iv).toNat)
    case atStart => exact ⟨0, Nat.zero_le _, rfl, HR0, Lib.hid (Below.refl _ _), Lib.hid (by first | rfl | trivial)⟩
    case round =>
      clear HR0
      obtain ⟨i, hi, rfl, HR, HB, HZ⟩ := hrel
      have hwi : IntKind.i64.wrap ((i : Int) + 1) = (i : Int) + 1 := IntWalk.i64_in _ (by omega)
      by_cases hlt : i < m
      · have ci := HR.out.cell hlt
        have fi := HR.out.frozen i
        rw [if_neg (fun c => by omega)] at ci
        have hin : (0 : Int) ≤ i ∧ (i : Int) < m := by omega
        obtain ⟨z, hz⟩ : ∃ z, f i = z := ⟨_, rfl⟩
        rw [hz] at ci
        by_cases hzh : z = x
        · have q1 : ((z : Int) == (x : Int)) = true := by simp [hzh]
          have HR2 := Lib.hid ((HR.out.set i (.int .i64 (y : Nat))).congr (f' := fun j => .int .i64 ((if j < i + 1 ∧ f j = x then y else f j : Nat) : Int)) fun j _ => by
            by_cases c : j = i
            · subst c
              rw [if_pos rfl, if_pos ⟨by omega, by rw [hz, hzh]⟩]
            · rw [if_neg c]
              by_cases d : j < i ∧ f j = x
              · rw [if_pos d, if_pos ⟨by omega, d.2⟩]
              · rw [if_neg d, if_neg (fun e => d ⟨by omega, e.2⟩)])
          have HB2 := Lib.hid (HB.out.setCell (p := ⟨bb, i, none⟩) (Nat.le_refl _) (.int .i64 (y : Nat)))
          have HZ2 := Lib.hid (show (wr.setCell ⟨bb, i, none⟩ (.int .i64 (y : Nat))).heap.size = w.heap.size by simp [World.setCell]; exact HZ.out)
          clear hz hzh HR HB HZ
          go_wp2_with fail
          go_roundw
          case rel => exact ⟨i + 1, by omega, by go_num, HR2, HB2, HZ2⟩
          case measure => simp only [intOf]; omega
        · have q1 : ((z : Int) == (x : Int)) = false := by simp; omega
          have HR2 := Lib.hid (HR.out.congr (f' := fun j => .int .i64 ((if j < i + 1 ∧ f j = x then y else f j : Nat) : Int)) fun j _ => by
            by_cases d : j < i ∧ f j = x
            · rw [if_pos d, if_pos ⟨by omega, d.2⟩]
            · rw [if_neg d, if_neg (fun e => d ⟨by
                by_cases c : j = i
                · rw [c, hz] at e; exact absurd e.2 hzh
                · omega, e.2⟩)])
          clear hz hzh HR
          go_wp2_with fail
          go_roundw
          case rel => exact ⟨i + 1, by omega, by go_num, HR2, HB, HZ⟩
          case measure => simp only [intOf]; omega
      · obtain rfl : i = m := by omega
        have HF := Lib.hid (HR.out.congr (f' := fun j => .int .i64 ((if f j = x then y else f j : Nat) : Int)) fun j hj => by
          by_cases d : f j = x
          · rw [if_pos ⟨hj, d⟩, if_pos d]
          · rw [if_neg (fun e => d e.2), if_neg d])
        clear HR
        go_wp2_with fail
        go_end0
        exact ⟨⟨_, rfl⟩, HF.out, HB.out, HZ.out⟩
/-- join answers -/
theorem rjoin_any (bb m p q : Nat) (f : Nat → Nat) (w : World) (hr : Row w bb m (fun i => .int .i64 (f i : Nat))) (hm : m ≤ 100000) :
    Calls Try.prog 55 #[.slice (some ⟨bb, 0, none⟩) m m, .int .i64 (p : Nat), .int .i64 (q : Nat)] w fun e w' => (∃ r, e = .returned r) ∧ Row w' bb m (fun i => .int .i64 (jn f p q i : Nat)) ∧ Below bb w w' ∧ w'.heap.size = w.heap.size := by
  rcases Nat.lt_or_ge q p with h | h
  · have := rjoin_lt bb m q p f w hr hm p q (.inr ⟨rfl, rfl, h⟩)
    refine this.mono ?_
    rintro e w' ⟨h1, h2, h3⟩
    exact ⟨h1, h2.congr fun i _ => by unfold jn; rw [Nat.max_eq_left (by omega), Nat.min_eq_right (by omega)], h3⟩
  · have := rjoin_lt bb m p q f w hr hm p q (.inl ⟨rfl, rfl, h⟩)
    refine this.mono ?_
    rintro e w' ⟨h1, h2, h3⟩
    exact ⟨h1, h2.congr fun i _ => by unfold jn; rw [Nat.max_eq_right (by omega), Nat.min_eq_left (by omega)], h3⟩
end Go.Proofs.Ytcpikabhcjkkmaa

/- The document's blocks: the pairs in order, and the joining of blocks. Conditions: the graph is made. -/
namespace Go.Proofs.Ytcpikabhcjkkmaa
open Go.RowKit

/-- the pairs of near edges before a pair -/
def bkT (E : List Ed) (a b : Nat) : List (Nat × Nat) := ((List.range a).flatMap fun a => ((List.range a).filter (nearE E a)).map fun b => (a, b)) ++ ((List.range b).filter (nearE E a)).map fun b => (a, b)
theorem bkT_zero (E : List Ed) : bkT E 0 0 = [] := rfl
theorem bkT_next (E : List Ed) (a : Nat) : bkT E (a + 1) 0 = bkT E a a := by
  unfold bkT
  rw [List.range_succ, List.flatMap_append]
  simp
theorem bkT_end (E : List Ed) : bkT E E.length 0 = bkP E := by
  unfold bkT bkP
  simp
theorem bkT_succ (E : List Ed) (a b : Nat) : bkT E a (b + 1) = if nearE E a b then bkT E a b ++ [(a, b)] else bkT E a b := by
  unfold bkT
  rw [List.range_succ, List.filter_append, List.map_append, ← List.append_assoc]
  by_cases c : nearE E a b = true
  · rw [if_pos c]; simp [c]
  · rw [if_neg c]; simp [c]
/-- the names of the blocks on the way -/
def bkF (E : List Ed) (a b : Nat) : Nat → Nat := labL (bkT E a b)
theorem bkF_succ (E : List Ed) (a b : Nat) : bkF E a (b + 1) = if nearE E a b = true ∧ bkF E a b a ≠ bkF E a b b then jn (bkF E a b) (bkF E a b a) (bkF E a b b) else bkF E a b := by
  unfold bkF
  rw [bkT_succ]
  by_cases c : nearE E a b = true
  · rw [if_pos c, labL_snoc]
    by_cases d : labL (bkT E a b) a = labL (bkT E a b) b
    · rw [if_neg (fun e => e.2 d), joinF_same d]
    · rw [if_pos ⟨c, d⟩, jn_join]
  · rw [if_neg c, if_neg (fun e => c e.1)]
theorem bkF_le (E : List Ed) (a b i : Nat) : bkF E a b i ≤ i := (labL_ok _).le i
/-- the answer of the document's test -/
theorem nearE_def (E : List Ed) {a b u v : Nat} (he : edP E a = (u, v)) : nearE E a b = (inc E u b && nearB E a b u || inc E v b && nearB E a b v) := by
  unfold nearE; rw [he]
/-- what a block of names holds while edges are looked at -/
def BkS (w0 : World) (bb a b p q : Nat) (W : World) : Prop := W.cell? ⟨bb, a, none⟩ = some (.int .i64 (p : Nat)) ∧ W.cell? ⟨bb, b, none⟩ = some (.int .i64 (q : Nat)) ∧ Below w0.heap.size w0 W
end Go.Proofs.Ytcpikabhcjkkmaa

/- The rows of the document's blocks: a list of lists that grows. No conditions. -/
namespace Go.Proofs.Ytcpikabhcjkkmaa
open Go.RowKit

/-- a list of lists that grows: its row and each row of it are the call's own -/
structure BOut (base : Nat) (X : List (List Nat)) (v : Value) (Vs : List Value) (w : World) : Prop where
  row : w.ownsRow base 29 1 v X.length Vs
  own : ∀ i, i < X.length → OwnI base (Vs.getD i (.bool false)) (X.getD i []) w ∧ ∃ a c, Vs.getD i (.bool false) = .slice a (X.getD i []).length c ∧ (X.getD i []).length ≤ c
section
variable {base : Nat} {X : List (List Nat)} {v : Value} {Vs : List Value} {w w1 : World}
theorem BOut.len (h : BOut base X v Vs w) : Vs.length = X.length := by have := h.row.1; omega
theorem BOut.nil (base : Nat) (w : World) : BOut base [] (.slice none 0 0) [] w := ⟨World.ownsRow_nil _ _ _ _, fun i hi => absurd hi (by simp)⟩
theorem BOut.below (h : BOut base X v Vs w) (hb : Below w.heap.size w w1) : BOut base X v Vs w1 := ⟨ownsRow_below h.row hb, fun i hi => ⟨ownI_below (h.own i hi).1 hb, (h.own i hi).2⟩⟩
theorem BOut.push {l v1 : Value} {L : List Nat} (h : BOut base X v Vs w) (hl : OwnI base l L w) (hc : ∃ a c, l = .slice a L.length c ∧ L.length ≤ c)
    (hown : w1.ownsRow base 29 1 v1 (X.length + 1) (Vs ++ [l])) (hg : w.grownBy w1 v.ownBlock) : BOut base (X ++ [L]) v1 (Vs ++ [l]) w1 := by
  have hlen := h.len
  have keep : ∀ {u : Value} {M : List Nat}, OwnI base u M w → OwnI base u M w1 := fun {u M} hu => by
    unfold OwnI at hu ⊢
    refine World.ownsRow.kept hu hg ?_
    cases hb : u.ownBlock with
    | none => exact .inl rfl
    | some b => exact .inr fun c => own_types hu h.row (by decide) hb c.symm
  refine ⟨by rw [List.length_append, List.length_singleton]; exact hown, fun i hi => ?_⟩
  rw [List.length_append, List.length_singleton] at hi
  by_cases c : i < X.length
  · have e1 : (Vs ++ [l]).getD i (.bool false) = Vs.getD i (.bool false) := by
      simp only [List.getD_eq_getElem?_getD]; rw [List.getElem?_append_left (by omega)]
    have e2 : (X ++ [L]).getD i [] = X.getD i [] := by
      simp only [List.getD_eq_getElem?_getD]; rw [List.getElem?_append_left c]
    rw [e1, e2]
    exact ⟨keep (h.own i c).1, (h.own i c).2⟩
  · obtain rfl : i = X.length := by omega
    have e1 : (Vs ++ [l]).getD X.length (.bool false) = l := by
      rw [← hlen]; simp [List.getD]
    have e2 : (X ++ [L]).getD X.length [] = L := by simp [List.getD]
    rw [e1, e2]
    exact ⟨keep hl, hc⟩
theorem BOut.mem (h : BOut base X v Vs w) : BMem w w.heap.size v X := by
  have hlen := h.len
  have hrows : ∀ i, i < X.length → RdI w w.heap.size (Vs.getD i (.bool false)) (X.getD i []) ∧ ∃ a' c', Vs.getD i (.bool false) = .slice a' (X.getD i []).length c' ∧ (X.getD i []).length ≤ c' := fun i hi => ⟨ownI_rd (h.own i hi).1, (h.own i hi).2⟩
  rcases h.row.2 with ⟨e1, e2⟩ | ⟨g, cap, cur, e1, e2, e3, e4, e5⟩
  · obtain rfl : X = [] := List.eq_nil_of_length_eq_zero (by omega)
    exact ⟨none, 0, fun _ => ⟨0, 0, none⟩, fun _ => .bool false, e1, Rd.nil _, fun i hi => absurd hi (by simp)⟩
  · have hr := h.row
    rw [e1] at hr
    have hrow := Row.owned hr
    refine ⟨some ⟨g, 0, none⟩, cap, fun i => (⟨g, 0, none⟩ : Addr).add (i * 1), fun i => Vs.getD i (.bool false), e1, ?_, hrows⟩
    refine Rd.addr etRw (fun _ => hrow.lt) fun i hi j hj => ?_
    obtain rfl : j = 0 := by omega
    rw [add_mk, Nat.mul_one, Nat.add_zero, Nat.zero_add, hrow.cell hi]
    have hiv : i < Vs.length := by omega
    simp [List.getD, hiv]
end
end Go.Proofs.Ytcpikabhcjkkmaa
