/- The document's graph in memory: New. No conditions. -/
import Derived.Test.YtibdggbejogciaaGreatMe
import Derived.Test.YtibdggbejogciaaGreatGraph
import Derived.Test.YtibdggbejogciaaGreatLbs
import Derived.Test.YtibdggbejogciaaGreatPl
import Derived.Deep.LoopGhost
namespace Go.Proofs.YtibdggbejogciaaGreat
open Go.RowKit

/-- the document's graph at an address -/
structure RAt (w : World) (B b n : Nat) (E : List Ed) : Prop where
  ok : GOk n E
  lt : b < B
  made : w.cell? ⟨b, 0, none⟩ = some (.bool true)
  num : w.cell? ⟨b, 1, none⟩ = some (.int .i64 n)
  edges : ∃ a cap A, w.cell? ⟨b, 2, none⟩ = some (.slice a E.length cap) ∧ ES w B (.slice a E.length cap) E A
section
variable {w w' : World} {B B' b n : Nat} {E : List Ed} {v : Value}
theorem RAt.below (h : RAt w B b n E) (hb : Below B w w') : RAt w' B b n E := by
  obtain ⟨a, cap, A, h1, h2⟩ := h.edges
  exact ⟨h.ok, h.lt, (hb.cell h.lt).trans h.made, (hb.cell h.lt).trans h.num, a, cap, A, (hb.cell h.lt).trans h1, h2.below hb⟩
theorem RAt.mono (h : RAt w B b n E) (hB : B ≤ B') : RAt w B' b n E := by
  obtain ⟨a, cap, A, h1, h2⟩ := h.edges
  exact ⟨h.ok, Nat.lt_of_lt_of_le h.lt hB, h.made, h.num, a, cap, A, h1, h2.mono hB⟩
end
/-- the document's graph as a value -/
def RG (w : World) (B : Nat) (v : Value) : Option (Nat × List Ed) → Prop
  | some (n, E) => ∃ b, v = .pointer (some ⟨b, 0, none⟩) ∧ RAt w B b n E
  | none => v = .pointer none
section
variable {w w' : World} {B B' : Nat} {v : Value}
theorem RG.below {o : Option (Nat × List Ed)} (h : RG w B v o) (hb : Below B w w') : RG w' B v o := by
  cases o with
  | none => exact h
  | some x => obtain ⟨b, rfl, h1⟩ := h; exact ⟨b, rfl, h1.below hb⟩
theorem RG.mono {o : Option (Nat × List Ed)} (h : RG w B v o) (hB : B ≤ B') : RG w B' v o := by
  cases o with
  | none => exact h
  | some x => obtain ⟨b, rfl, h1⟩ := h; exact ⟨b, rfl, h1.mono hB⟩
end
/-- the graph of a number and edges, if it is accepted -/
def gO (n : Int) (E : List Ed) : Option (Nat × List Ed) := if gErr n E = 0 then some (n.toNat, E) else none
theorem gO_some {n : Nat} {E : List Ed} (G : GOk n E) : gO n E = some (n, E) := by rw [gO, if_pos (gErr_ok G), Int.toNat_natCast]
theorem gO_none {n : Int} {E : List Ed} (h : gErr n E ≠ 0) : gO n E = none := by rw [gO, if_neg h]
def RNew (n : Int) (E : List Ed) (w : World) (e : Ending) (w' : World) : Prop :=
  ∃ v, e = .returned (.tuple #[v, .int .i64 (gErr n E)]) ∧ RG w' w'.heap.size v (gO n E) ∧ Below w.heap.size w w'
theorem RNew.bad {n : Int} {E : List Ed} {w w' : World} {x : Int} (h : gErr n E = x) (hx : x ≠ 0) (hb : Below w.heap.size w w') : RNew n E w (.returned (.tuple #[.pointer none, .int .i64 x])) w' :=
  ⟨_, by rw [h], by rw [gO_none (by rw [h]; exact hx)]; rfl, hb⟩

set_option maxRecDepth 100000 in
set_option maxHeartbeats 2000000 in
theorem rnew_any (B : Nat) (a : Option Addr) (cap : Nat) (A : Nat → Addr) (n : Int) (E : List Ed) (w : World) (hS : ES w B (.slice a E.length cap) E A) (hB : B ≤ w.heap.size) (hm : E.length ≤ 9223372036854775807) :
    Calls Tryz.prog 49 #[.int .i64 n, .slice a E.length cap] w (RNew n E w) := by
  by_cases h1 : n < 0
  · have he := Lib.hid (gErr_two (n := n) (E := E) (.inl h1))
    go_enter Tryz.func49, Tryz.ntmps49
    go_wp2_with fail
    go_ret2
    exact RNew.bad he.out (by decide) (Below.refl _ _)
  by_cases h2 : 4096 < n
  · have he := Lib.hid (gErr_two (n := n) (E := E) (.inr (.inl h2)))
    go_enter Tryz.func49, Tryz.ntmps49
    go_wp2_with fail
    go_ret2
    exact RNew.bad he.out (by decide) (Below.refl _ _)
  by_cases h3 : 16384 < E.length
  · have he := Lib.hid (gErr_two (n := n) (E := E) (.inr (.inr h3)))
    go_enter Tryz.func49, Tryz.ntmps49
    go_wp2_with fail
    go_ret2
    exact RNew.bad he.out (by decide) (Below.refl _ _)
  have he := Lib.hid (show gErr n E = scanE n E by rw [gErr, if_neg (by omega)])
  go_enter Tryz.func49, Tryz.ntmps49
  go_wp2_with fail
  go_loopw [6] (fun i wr => ∃ k : Nat, k ≤ E.length ∧ i = .int .i64 k ∧ Hid (scanE n E = scanE n (E.drop k)) ∧ Below w.heap.size w wr) (fun i _ => E.length - (intOf i).toNat)
  case atStart => exact ⟨0, Nat.zero_le _, rfl, Lib.hid rfl, Below.refl _ _⟩
  case round =>
    obtain ⟨k, hk, rfl, hs, bel⟩ := hrel
    by_cases hlt : k < E.length
    · have hEr := hS.below (bel.mono hB)
      have e0 := ES.u hEr hlt
      have e1 := ES.v hEr hlt
      have ix := hEr.ix k hlt
      clear hEr
      by_cases c1 : (eAt E k).u < 0
      · have hf := Lib.hid (hs.out.trans (scanE_bad hlt (badE_true (.inl c1))))
        go_wp2_with fail
        go_ret2
        exact RNew.bad (he.out.trans hf.out) (by decide) bel
      by_cases c2 : n ≤ (eAt E k).u
      · have hf := Lib.hid (hs.out.trans (scanE_bad hlt (badE_true (.inr (.inl c2)))))
        go_wp2_with fail
        go_ret2
        exact RNew.bad (he.out.trans hf.out) (by decide) bel
      by_cases c3 : (eAt E k).v < 0
      · have hf := Lib.hid (hs.out.trans (scanE_bad hlt (badE_true (.inr (.inr (.inl c3))))))
        go_wp2_with fail
        go_ret2
        exact RNew.bad (he.out.trans hf.out) (by decide) bel
      by_cases c4 : n ≤ (eAt E k).v
      · have hf := Lib.hid (hs.out.trans (scanE_bad hlt (badE_true (.inr (.inr (.inr c4))))))
        go_wp2_with fail
        go_ret2
        exact RNew.bad (he.out.trans hf.out) (by decide) bel
      have hb : badE n (eAt E k) = false := badE_iff.2 ⟨by omega, by omega, by omega, by omega⟩
      by_cases c5 : (eAt E k).u = (eAt E k).v
      · have hf := Lib.hid (hs.out.trans (scanE_loop hlt hb c5))
        have hq : ((eAt E k).u == (eAt E k).v) = true := beq_iff_eq.2 c5
        clear c5 hb
        go_wp2_with fail
        go_quiet (fail)
        go_wp2_with fail
        go_ret2
        exact RNew.bad (he.out.trans hf.out) (by decide) (below_drewN bel _)
      · have hf := Lib.hid (hs.out.trans (scanE_next hlt hb c5))
        have hq : ((eAt E k).u == (eAt E k).v) = false := beq_eq_false_iff_ne.2 c5
        clear c5 hb
        go_wp2_with fail
        go_quiet (fail)
        go_wp2_with fail
        go_roundw
        case rel => exact ⟨k + 1, by omega, by go_num, hf, below_drewN bel _⟩
        case measure => simp only [intOf]; omega
    · obtain rfl : k = E.length := by omega
      have hz : gErr n E = 0 := he.out.trans (hs.out.trans scanE_end)
      obtain ⟨m, rfl, G⟩ := gErr_zero hz
      have HS := Lib.hid (hS.below (bel.mono hB))
      have hsz := bel.size
      clear hS hz he hs
      go_wp2_with (at_builtin; refine copiedAny etE rfl _ _ rfl HS.out (by omega) (fun i _ j _ => edC_one E i j) _ rfl (by simp) rfl (by omega) (by omega) ?_; intro g cp w2 hg2 R2 D2)
      go_ret2
      obtain ⟨a', c', A', e1, e2⟩ := Rd.own etE R2
      cases e1
      have hb3 : Below w2.heap.size w2 (w2.alloc (.cells #[.bool true, .int .i64 m, .slice (some ⟨g, 0, none⟩) E.length cp] 65)) := (Below.refl _ _).alloc (Nat.le_refl _) _
      refine ⟨_, by rw [gErr_ok G]; rfl, ?_, bel.trans ((D2.trans (hb3.mono D2.size)).mono hsz)⟩
      rw [gO_some G]
      exact ⟨_, rfl, G, by simp, by go_simp, by go_simp, _, _, A', by go_simp, (e2.below hb3).mono (by simp)⟩

end Go.Proofs.YtibdggbejogciaaGreat

/- The document's graph: valid. No conditions. -/
namespace Go.Proofs.YtibdggbejogciaaGreat
open Go.RowKit

set_option maxRecDepth 100000 in
theorem rvalid_any (B : Nat) (v : Value) (o : Option (Nat × List Ed)) (w : World) (h : RG w B v o) :
    Calls Tryz.prog 53 #[v] w fun e w' => e = .returned (.bool o.isSome) ∧ w' = w := by
  cases o with
  | none =>
    obtain rfl : v = .pointer none := h
    go_enter Tryz.func53, Tryz.ntmps53
    go_wp2_with fail
    go_ret
    exact ⟨rfl, rfl⟩
  | some x =>
    obtain ⟨n, E⟩ := x
    obtain ⟨b, rfl, h1⟩ := h
    have c0 := h1.made
    clear h1
    go_enter Tryz.func53, Tryz.ntmps53
    go_wp2_with fail
    go_ret
    exact ⟨rfl, rfl⟩
theorem rvalid_is {B : Nat} {v : Value} {o : Option (Nat × List Ed)} {w : World} {x : Bool} (hx : o.isSome = x) (h : RG w B v o) :
    Calls Tryz.prog 53 #[v] w fun e w' => e = .returned (.bool x) ∧ w' = w := by
  subst hx; exact rvalid_any B v o w h
end Go.Proofs.YtibdggbejogciaaGreat

/- The document's labels: the smaller label goes on along edges until nothing changes. Conditions: the graph is made. -/
namespace Go.Proofs.YtibdggbejogciaaGreat
open Go.RowKit

/-- one label turned -/
def upd (f : Nat → Nat) (v p : Nat) : Nat → Nat := fun x => if x = v then p else f x
/-- the sum of the first labels -/
def sN (f : Nat → Nat) : Nat → Nat
  | 0 => 0
  | n + 1 => sN f n + f n
theorem sN_out {f : Nat → Nat} {v p : Nat} : ∀ {n : Nat}, n ≤ v → sN (upd f v p) n = sN f n
  | 0, _ => rfl
  | n + 1, h => by
    have := sN_out (f := f) (v := v) (p := p) (n := n) (by omega)
    show sN (upd f v p) n + upd f v p n = sN f n + f n
    rw [this, upd, if_neg (by omega)]
theorem sN_upd {f : Nat → Nat} {v p : Nat} : ∀ {n : Nat}, v < n → sN (upd f v p) n + f v = sN f n + p
  | 0, h => by omega
  | n + 1, h => by
    show sN (upd f v p) n + upd f v p n + f v = sN f n + f n + p
    by_cases e : v = n
    · subst e
      rw [sN_out (Nat.le_refl _), upd, if_pos rfl]; omega
    · have := sN_upd (f := f) (v := v) (p := p) (n := n) (by omega)
      rw [upd, if_neg (by omega)]; omega
theorem labs_set {n v p : Nat} {f : Nat → Nat} : (labs n f).set v p = labs n (upd f v p) := by
  apply List.ext_getElem
  · simp [labs]
  · intro i h1 h2
    simp only [labs, List.length_set, List.length_map, List.length_range] at h1
    rw [List.getElem_set]
    simp only [labs, List.getElem_map, List.getElem_range, upd]
    by_cases e : v = i
    · rw [if_pos e, if_pos e.symm]
    · rw [if_neg e, if_neg (fun c => e c.symm)]
/-- the pairs of all edges -/
def prE (E : List Ed) : List (Nat × Nat) := (List.range E.length).map (edP E)
theorem prE_mem {E : List Ed} {i : Nat} (h : i < E.length) : edP E i ∈ prE E := List.mem_map_of_mem (List.mem_range.2 h)
/-- labels on the way -/
def LGood (n : Nat) (E : List Ed) (f : Nat → Nat) : Prop := ∀ x, x < n → f x ≤ x ∧ Cn (prE E) x (f x)
theorem LGood.id (n : Nat) (E : List Ed) : LGood n E id := fun _ _ => ⟨Nat.le_refl _, .refl _⟩
theorem LGood.turn {n : Nat} {E : List Ed} {f : Nat → Nat} {u v : Nat} (h : LGood n E f) (hu : u < n) (e : (u, v) ∈ prE E ∨ (v, u) ∈ prE E) (hl : f u < f v) : LGood n E (upd f v (f u)) := fun x hx => by
  unfold upd
  by_cases c : x = v
  · subst c
    rw [if_pos rfl]
    have h1 := h x hx; have h2 := h u hu
    exact ⟨by omega, (Cn.one e).symm.trans h2.2⟩
  · rw [if_neg c]; exact h x hx
theorem LGood.done {n : Nat} {E : List Ed} {f : Nat → Nat} (h : LGood n E f) (he : ∀ j, j < E.length → f (edP E j).1 = f (edP E j).2) {x : Nat} (hx : x < n) : f x = labO E (List.range E.length) x := by
  have key : ∀ a b, Cn (prE E) a b → f a = f b := fun a b hab => by
    induction hab with
    | refl => rfl
    | @step b c _ e ih =>
      rw [ih]
      rcases e with e | e
      · obtain ⟨j, hj, hje⟩ := List.mem_map.1 e
        have := he j (List.mem_range.1 hj)
        rw [hje] at this; exact this
      · obtain ⟨j, hj, hje⟩ := List.mem_map.1 e
        have := he j (List.mem_range.1 hj)
        rw [hje] at this; exact this.symm
  have h1 : labL (prE E) x ≤ f x := labL_least (h x hx).2
  have h2 := key _ _ (cn_lab (prE E) x)
  have h3 := (labL_ok (prE E)).le x
  have h4 := (h (labL (prE E) x) (by omega)).1
  show f x = labL (prE E) x
  omega
theorem labs_congr {n : Nat} {f g : Nat → Nat} (h : ∀ x, x < n → f x = g x) : labs n f = labs n g := List.map_congr_left fun x hx => h x (List.mem_range.1 hx)
theorem LabO.set {base n g cap v p : Nat} {f : Nat → Nat} {w : World} (h : LabO base (.slice (some ⟨g, 0, none⟩) n cap) n f w) : LabO base (.slice (some ⟨g, 0, none⟩) n cap) n (upd f v p) (w.setCell ⟨g, v, none⟩ (.int .i64 (p : Nat))) := by
  have := own_set (i := v) h (.int .i64 (p : Nat))
  rw [intsN_set, labs_set] at this
  exact this
/-- what Labels answers -/
def RLabRes (n : Nat) (E : List Ed) (w : World) (e : Ending) (w' : World) : Prop := ∃ v, e = .returned v ∧ LabO w.heap.size v n (labO E (List.range E.length)) w' ∧ Below w.heap.size w w'
set_option maxRecDepth 100000 in
set_option maxHeartbeats 4000000 in
theorem rlabels_any (B b n : Nat) (E : List Ed) (w : World) (hR : RAt w B b n E) (hB : B ≤ w.heap.size) :
    Calls Tryz.prog 42 #[.pointer (some ⟨b, 0, none⟩)] w (RLabRes n E w) := by
  have HR := Lib.hid hR
  have HG := Lib.hid hR.ok
  have hn := hR.ok.n_le
  have hml := hR.ok.m_le
  obtain ⟨ea, ec, EA, hce, hES⟩ := hR.edges
  have HCe := Lib.hid hce; have HES := Lib.hid hES
  have HV := Lib.hid (rvalid_is (o := some (n, E)) rfl (⟨b, rfl, hR⟩ : RG w B (.pointer (some ⟨b, 0, none⟩)) (some (n, E))))
  have hbB := hR.lt
  clear hR hce hES
  go_enter Tryz.func42, Tryz.ntmps42
  go_wp2_with fail
  refine HV.out.mono ?_
  rintro e wx ⟨rfl, rfl⟩
  clear HV
  go_wp2_with fail
  go_loopw [3, 4] (fun v iv wr => ∃ i : Nat, i ≤ n ∧ iv = .int .i64 (i : Nat) ∧ Hid (wr.ownsRow wx.heap.size 3 1 v i ((intsN (labs i id)).map (Value.int .i64))) ∧ Below wx.heap.size wx wr) (fun _ iv _ => n - (intOf iv).toNat)
  case atStart => exact ⟨0, Nat.zero_le _, rfl, Lib.hid (World.ownsRow_nil _ _ _ _), Below.refl _ _⟩
  case round =>
    obtain ⟨i, hi, rfl, HO, bel⟩ := hrel
    have c1 : wr.cell? ⟨b, 1, none⟩ = some (.int .i64 n) := ((bel.mono hB).cell hbB).trans HR.out.num
    by_cases hlt : i < n
    · have hown := HO.out
      have hsz := bel.size
      clear HO
      go_wp2_with (at_builtin; refine push etI rfl _ _ rfl wx.heap.size _ _ _ hown rfl #[.int .i64 (i : Nat)] _ rfl rfl rfl (by simp [Value.oneCell']) (by omega) (by omega) hsz ?_; intro g cp w5 hown5 hg5 hv5)
      have hb5 : Below wx.heap.size wr w5 := (Below.refl _ wr).grown hg5 hsz (fun j e => (hown.lt j e).1)
      go_roundw
      case rel => exact ⟨i + 1, by omega, by go_num, by rw [labs_id_succ, List.map_append]; exact Lib.hid hown5, bel.trans hb5⟩
      case measure => simp only [intOf]; omega
    · obtain rfl : i = n := by omega
      have HK := Lib.hid (show LabO wx.heap.size u3 i id wr from HO.out)
      clear HO
      go_wp2_with fail
      clear c1
      have hGd := LGood.id i E
      have HB0 := Lib.hid bel
      clear bel
      go_loopg [5, 6] (sN id i + 1) (fun N c _ wr => ∃ (f : Nat → Nat) (cb : Bool), c = .bool cb ∧ N = (if cb then sN f i + 1 else 0) ∧ Hid (LabO wx.heap.size u3 i f wr) ∧ Hid (LGood i E f) ∧ Hid (cb = false → ∀ j, j < E.length → f (edP E j).1 = f (edP E j).2) ∧ Hid (Below wx.heap.size wx wr))
      case atStart => exact ⟨id, true, rfl, by simp, HK, Lib.hid hGd, Lib.hid (fun h => by cases h), HB0⟩
      case round =>
        clear HK hGd HB0
        obtain ⟨f, cb, rfl, rfl, HK, HGd, HQ, HB⟩ := hrel
        cases cb with
        | false =>
          have hq := HQ.out rfl
          have HE := Lib.hid (labs_congr fun x hx => HGd.out.done hq hx)
          clear hq
          go_wp2_with fail
          go_ret
          exact ⟨_, rfl, by have := HK.out; unfold LabO at *; rw [← HE.out]; exact this, HB.out⟩
        | true =>
          go_wp2_with fail
          go_loopw [5, 6] (fun c jv wr => ∃ (j : Nat) (lf : Nat → Nat) (cb : Bool), j ≤ E.length ∧ c = .bool cb ∧ jv = .int .i64 (j : Nat) ∧ Hid (sN lf i + (if cb then 1 else 0) ≤ sN f i) ∧ Hid (LabO wx.heap.size u3 i lf wr) ∧ Hid (LGood i E lf) ∧ Hid (cb = false → ∀ k, k < j → lf (edP E k).1 = lf (edP E k).2) ∧ Hid (Below wx.heap.size wx wr)) (fun _ jv _ => E.length - (intOf jv).toNat)
          case atStart => exact ⟨0, f, false, Nat.zero_le _, rfl, rfl, Lib.hid (by simp), HK, HGd, Lib.hid (fun _ k hk => absurd hk (by omega)), HB⟩
          case round =>
            clear HK HGd HQ HB
            obtain ⟨j, lf, cb, hj, rfl, rfl, HN, HK, HGd, HQ, HB⟩ := hrel
            have ce : wr.cell? ⟨b, 2, none⟩ = some (.slice ea E.length ec) := ((HB.out.mono hB).cell hbB).trans HCe.out
            by_cases hlt : j < E.length
            · have hEr := HES.out.below (HB.out.mono hB)
              have ix := hEr.ix j hlt
              have e0 := ES.u hEr hlt
              have e1 := ES.v hEr hlt
              obtain ⟨u, v, hu, hv, hun, hvn, huv⟩ := HG.out.nats hlt
              rw [hu] at e0; rw [hv] at e1
              have HUV := Lib.hid (show edP E j = (u, v) by unfold edP; rw [hu, hv]; simp)
              have hjv : (0 : Int) ≤ j ∧ (j : Int) < E.length := by omega
              have huv1 : (0 : Int) ≤ u ∧ (u : Int) < i := by omega
              have hvv1 : (0 : Int) ≤ v ∧ (v : Int) < i := by omega
              obtain ⟨p, hp⟩ : ∃ p, lf u = p := ⟨_, rfl⟩
              obtain ⟨r, hr⟩ : ∃ r, lf v = r := ⟨_, rfl⟩
              have hKo := HK.out
              rcases hKo.2 with ⟨_, h0⟩ | ⟨g, cap, cur, rfl, hgb, _⟩
              · omega
              have k1 := own_cell hKo (intsN_at (l := labs i lf) (i := u) (by rw [labs_len]; exact hun))
              have k2 := own_cell hKo (intsN_at (l := labs i lf) (i := v) (by rw [labs_len]; exact hvn))
              rw [labs_at hun, hp] at k1; rw [labs_at hvn, hr] at k2
              obtain ⟨c1, f1⟩ := k1
              obtain ⟨c2, f2⟩ := k2
              have HP := Lib.hid hp; have HRr := Lib.hid hr
              clear hEr hu hv hp hr hKo
              by_cases h1 : p < r
              · have d1 : decide ((p : Int) < (r : Int)) = true := decide_eq_true (by omega)
                have d2 : decide (p < r) = true := decide_eq_true h1
                have HK2 := Lib.hid (show ∀ m, LabO wx.heap.size (.slice (some ⟨g, 0, none⟩) i cap) i (upd lf v p) ((wr.drewN m).setCell ⟨g, v, none⟩ (.int .i64 (p : Nat))) from fun m => LabO.set (show LabO wx.heap.size (.slice (some ⟨g, 0, none⟩) i cap) i lf (wr.drewN m) from HK.out))
                have c3 : ∀ m, ((wr.drewN m).setCell ⟨g, v, none⟩ (.int .i64 (p : Nat))).cell? ⟨g, v, none⟩ = some (.int .i64 (p : Nat)) := fun m => World.cell?_setCell_same _ _ _ c2
                have c4 : ∀ m, ((wr.drewN m).setCell ⟨g, v, none⟩ (.int .i64 (p : Nat))).cell? ⟨g, u, none⟩ = some (.int .i64 (p : Nat)) := fun m => by
                  rw [World.cell?_setCell_other (h := fun e => by cases e; exact huv rfl)]; exact c1
                have HB2 := Lib.hid (show ∀ m, Below wx.heap.size wx ((wr.drewN m).setCell ⟨g, v, none⟩ (.int .i64 (p : Nat))) from fun m => (below_drewN HB.out m).setCell (p := ⟨g, v, none⟩) hgb _)
                have hsum := sN_upd (f := lf) (p := p) hvn
                have HN2 := Lib.hid (show sN (upd lf v p) i + (if true then 1 else 0) ≤ sN f i by have := HN.out; rw [HRr.out] at hsum; simp; omega)
                have HG2 := Lib.hid (show LGood i E (upd lf v p) by rw [← HP.out]; exact HGd.out.turn hun (.inl (by rw [← HUV.out]; exact prE_mem hlt)) (by rw [HP.out, HRr.out]; exact h1))
                have d3 : decide ((p : Int) < (p : Int)) = false := decide_eq_false (by omega)
                have d4 : decide (p < p) = false := decide_eq_false (by omega)
                clear h1 hsum
                go_wp2_with fail
                go_quiet (fail)
                go_wp2_with fail
                go_quiet (fail)
                go_wp2_with fail
                go_quiet (fail)
                go_wp2_with fail
                go_roundw
                case rel => exact ⟨j + 1, upd lf v p, true, by omega, rfl, by go_num, HN2, Lib.hid (ownsRow_below (HK2.out _) (below_drewN (Below.refl _ _) _)), HG2, Lib.hid (fun c => by cases c), Lib.hid (below_drewN (HB2.out _) _)⟩
                case measure => simp only [intOf]; omega
              · have d1 : decide ((p : Int) < (r : Int)) = false := decide_eq_false (by omega)
                have d2 : decide (p < r) = false := decide_eq_false h1
                by_cases h2 : r < p
                · have d3 : decide ((r : Int) < (p : Int)) = true := decide_eq_true (by omega)
                  have d4 : decide (r < p) = true := decide_eq_true h2
                  have HK2 := Lib.hid (show ∀ m, LabO wx.heap.size (.slice (some ⟨g, 0, none⟩) i cap) i (upd lf u r) ((wr.drewN m).setCell ⟨g, u, none⟩ (.int .i64 (r : Nat))) from fun m => LabO.set (show LabO wx.heap.size (.slice (some ⟨g, 0, none⟩) i cap) i lf (wr.drewN m) from HK.out))
                  have HB2 := Lib.hid (show ∀ m, Below wx.heap.size wx ((wr.drewN m).setCell ⟨g, u, none⟩ (.int .i64 (r : Nat))) from fun m => (below_drewN HB.out m).setCell (p := ⟨g, u, none⟩) hgb _)
                  have hsum := sN_upd (f := lf) (p := r) hun
                  have HN2 := Lib.hid (show sN (upd lf u r) i + (if true then 1 else 0) ≤ sN f i by have := HN.out; rw [HP.out] at hsum; simp; omega)
                  have HG2 := Lib.hid (show LGood i E (upd lf u r) by rw [← HRr.out]; exact HGd.out.turn hvn (.inr (by rw [← HUV.out]; exact prE_mem hlt)) (by rw [HP.out, HRr.out]; exact h2))
                  clear h1 h2 hsum
                  go_wp2_with fail
                  go_quiet (fail)
                  go_wp2_with fail
                  go_quiet (fail)
                  go_wp2_with fail
                  go_quiet (fail)
                  go_wp2_with fail
                  go_roundw
                  case rel => exact ⟨j + 1, upd lf u r, true, by omega, rfl, by go_num, HN2, Lib.hid (HK2.out _), HG2, Lib.hid (fun c => by cases c), Lib.hid (HB2.out _)⟩
                  case measure => simp only [intOf]; omega
                · have d3 : decide ((r : Int) < (p : Int)) = false := decide_eq_false (by omega)
                  have d4 : decide (r < p) = false := decide_eq_false h2
                  have HQ2 := Lib.hid (show cb = false → ∀ k, k < j + 1 → lf (edP E k).1 = lf (edP E k).2 from fun c k hk => by
                    by_cases e : k = j
                    · rw [e, HUV.out]; show lf u = lf v; rw [HP.out, HRr.out]; omega
                    · exact HQ.out c k (by omega))
                  clear h1 h2
                  go_wp2_with fail
                  go_quiet (fail)
                  go_wp2_with fail
                  go_quiet (fail)
                  go_wp2_with fail
                  go_quiet (fail)
                  go_wp2_with fail
                  go_roundw
                  case rel => exact ⟨j + 1, lf, cb, by omega, rfl, by go_num, HN, Lib.hid (ownsRow_below HK.out (below_drewN (Below.refl _ _) _)), HGd, HQ2, Lib.hid (below_drewN HB.out _)⟩
                  case measure => simp only [intOf]; omega
            · obtain rfl : j = E.length := by omega
              go_wp2_with fail
              go_roundg (if cb then sN lf i + 1 else 0)
              case rel => exact ⟨lf, cb, rfl, rfl, HK, HGd, HQ, HB⟩
              case measure => have := HN.out; cases cb <;> simp at * <;> omega
end Go.Proofs.YtibdggbejogciaaGreat
