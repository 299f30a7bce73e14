/- The walk of Labels of package bridge. Conditions: the graph was made by New, or it is nil or zero. -/
import Derived.Test.YtcpikabhcjkkmaaBrO
import Derived.Test.YtcpikabhcjkkmaaGrL
import Derived.Test.YtcpikabhcjkkmaaSmE
namespace Go.Proofs.Ytcpikabhcjkkmaa
open Go.RowKit Go.Shelf

/-- the least members of the classes of the vertices that edges of a set join -/
def LeastL (E : List Ed) (S : Nat → Prop) (k : Nat → Nat) : Prop := (∀ a, CI E S a (k a)) ∧ ∀ a b, CI E S a b → k a ≤ b
theorem leastL_lab (E : List Ed) (o : List Nat) : LeastL E (· ∈ o) (labO E o) := ⟨fun a => ci_cn.2 (cn_lab _ a), fun _ _ h => labL_least (ci_cn.1 h)⟩
theorem LeastL.uniq {E : List Ed} {S : Nat → Prop} {k k' : Nat → Nat} (h : LeastL E S k) (h' : LeastL E S k') : k = k' := funext fun a => by
  have h1 := h.2 a _ (h'.1 a)
  have h2 := h'.2 a _ (h.1 a)
  omega
theorem LeastL.congr {E : List Ed} {S T : Nat → Prop} {k : Nat → Nat} (h : LeastL E S k) (hs : ∀ i, S i ↔ T i) : LeastL E T k :=
  ⟨fun a => (h.1 a).mono fun i hi => (hs i).1 hi, fun a b hc => h.2 a b (hc.mono fun i hi => (hs i).2 hi)⟩
theorem LeastL.iff {E : List Ed} {S : Nat → Prop} {k : Nat → Nat} (h : LeastL E S k) (a b : Nat) : k a = k b ↔ CI E S a b := by
  constructor
  · intro e
    have := (h.1 b).symm
    rw [← e] at this
    exact (h.1 a).trans this
  · intro hc
    have h1 := h.2 a _ (hc.trans (h.1 b))
    have h2 := h.2 b _ (hc.symm.trans (h.1 a))
    omega
/-- the edges that are no bridges -/
def NB (E : List Ed) (i : Nat) : Prop := i < E.length ∧ ¬ Bri E i
/-- what Labels answers -/
def LbRes (n : Nat) (E : List Ed) (w : World) (e : Ending) (w' : World) : Prop := ∃ v k, e = .returned v ∧ LeastL E (NB E) k ∧ RdI w' w'.heap.size v ((List.range n).map k) ∧ Below w.heap.size w w'
theorem filt_succ (m : Nat) (l : List Nat) : (List.range (m + 1)).filter (fun i => decide (i ∉ l)) = if m ∈ l then (List.range m).filter (fun i => decide (i ∉ l)) else (List.range m).filter (fun i => decide (i ∉ l)) ++ [m] := by
  rw [List.range_succ, List.filter_append]
  by_cases c : m ∈ l
  · rw [if_pos c]; simp [c]
  · rw [if_neg c]; simp [c]
theorem filt_len (m : Nat) (l : List Nat) : ((List.range m).filter (fun i => decide (i ∉ l))).length ≤ m := by
  have := List.length_filter_le (fun i => decide (i ∉ l)) (List.range m)
  simpa using this
theorem row_rdI {w : World} {g n cap : Nat} {k : Nat → Nat} (h : Row w g n (natC k)) : RdI w w.heap.size (.slice (some ⟨g, 0, none⟩) n cap) ((List.range n).map k) := by
  refine ⟨some ⟨g, 0, none⟩, cap, fun i => (⟨g, 0, none⟩ : Addr).add (i * 1), by rw [List.length_map, List.length_range], ?_⟩
  rw [List.length_map, List.length_range]
  refine Rd.addr etI (fun _ => h.lt) fun i hi j hj => ?_
  obtain rfl : j = 0 := by omega
  rw [add_mk, Nat.mul_one, Nat.add_zero, Nat.zero_add, h.cell hi]
  unfold nums natC
  rw [intsN_nth]
  simp [List.getD, hi]
set_option maxRecDepth 100000 in
set_option maxHeartbeats 2000000 in
theorem labels_any (B : Nat) (g : Option Addr) (n : Nat) (E : List Ed) (o : Option (Nat × List Ed)) (ho : o = some (n, E) ∨ o = none ∧ n = 0 ∧ E = []) (w : World) (h : GV w B (.pointer g) o) (hB : B ≤ w.heap.size) :
    Calls Try.prog 20 #[.pointer g] w (LbRes n E w) := by
  have hn : gN o = n := by rcases ho with rfl | ⟨rfl, rfl, _⟩ <;> rfl
  have hE : gE o = E := by rcases ho with rfl | ⟨rfl, _, rfl⟩ <;> rfl
  have G : GOk n E := by
    rcases ho with rfl | ⟨rfl, rfl, rfl⟩
    · exact h.good
    · exact ⟨by decide, by decide, fun i hi => absurd hi (by simp)⟩
  have hm := G.m_le
  have hn4 := G.n_le
  have HN := n_any B (.pointer g) o w h
  rw [hn] at HN
  have HN := Lib.hid HN
  rcases Nat.eq_zero_or_pos n with h0 | hp
  · subst h0
    have hE0 : E.length = 0 := by
      rcases Nat.eq_zero_or_pos E.length with c | c
      · exact c
      · obtain ⟨a, b, _, _, h1, _⟩ := G.nats c; omega
    have HF : Hid (LbRes 0 E w (.returned (.slice none 0 0)) w) := Lib.hid ⟨_, labO E [], rfl, (leastL_lab E []).congr fun i => ⟨fun c => absurd c (by simp), fun c => by have := c.1; omega⟩, ⟨none, 0, fun _ => ⟨0, 0, none⟩, rfl, Rd.nil _⟩, Below.refl _ _⟩
    clear h ho
    go_enter Try.func20, Try.ntmps20
    go_wp2_with fail
    refine HN.out.mono ?_
    rintro e w' ⟨rfl, rfl⟩
    go_wp2_with fail
    go_ret
    exact HF.out
  · have hn0 : ((n : Nat) : Int) ≠ 0 := by omega
    have hd0 : decide (((n : Nat) : Int) = 0) = false := decide_eq_false hn0
    have hd1 : (((n : Nat) : Int) == 0) = false := beq_eq_false_iff_ne.2 hn0
    have HBr := Lib.hid (bridges_any B g n E o ho w h hB)
    have HG := Lib.hid h
    have HGk := Lib.hid G
    clear h ho
    go_enter Try.func20, Try.ntmps20
    go_wp2_with fail
    refine HN.out.mono ?_
    rintro e w' ⟨rfl, rfl⟩
    clear HN
    go_wp2_with fail
    refine HBr.out.mono ?_
    clear HBr
    rintro e w1 ⟨bv, l, rfl, hbv, hls, hlm, hb1⟩
    have HBv := Lib.hid hbv
    have HLs := Lib.hid hls
    have HLm := Lib.hid hlm
    have B1 := Lib.hid hb1
    have hs1 := hb1.size
    have hll : l.length ≤ 16384 := by
      have := nodup_lt (l := l) (m := E.length) (hls.imp fun h => by omega) fun x hx => ((hlm x).1 hx).1
      omega
    have HEd := edges_any B (.pointer g) o w1 (HG.out.below (hb1.mono hB)) (by omega)
    unfold GEdges at HEd
    rw [hE] at HEd
    have HEd := Lib.hid HEd
    clear hbv hls hlm hb1
    go_wp2_with fail
    refine HEd.out.mono ?_
    clear HEd
    rintro e w2 ⟨ea, ec, EA, rfl, hES, hb2⟩
    have B2 := Lib.hid (B1.out.trans (hb2.mono hs1))
    have HES := Lib.hid hES
    have HBv2 := Lib.hid (ownI_below HBv.out hb2)
    have hs2 := hb2.size
    clear hES hb2 B1 HBv
    go_wp2_with fail
    go_loopw [5, 21] (fun rv iv wr => ∃ k : Nat, k ≤ E.length ∧ iv = .int .i64 (k : Nat) ∧ Hid (OwnE w2.heap.size rv (someE E ((List.range k).filter fun i => decide (i ∉ l))) wr) ∧ Below w2.heap.size w2 wr) (fun _ iv _ => E.length - (intOf iv).toNat)
    case atStart => exact ⟨0, Nat.zero_le _, rfl, Lib.hid (OwnE.nil _ _), Below.refl _ _⟩
    case round =>
      obtain ⟨k, hk, rfl, HO, bel⟩ := hrel
      by_cases hlt : k < E.length
      · have hEr := HES.out.below bel
        have ix := hEr.ix k hlt
        have e0 := ES.u hEr hlt
        have e1 := ES.v hEr hlt
        have e2 := ES.w hEr hlt
        obtain ⟨u, hu⟩ : ∃ x, (eAt E k).u = x := ⟨_, rfl⟩
        obtain ⟨v, hv⟩ : ∃ x, (eAt E k).v = x := ⟨_, rfl⟩
        obtain ⟨x, hx⟩ : ∃ x, (eAt E k).w = x := ⟨_, rfl⟩
        have HEq := Lib.hid (show eAt E k = ⟨u, v, x⟩ by rw [← hu, ← hv, ← hx])
        rw [hu] at e0; rw [hv] at e1; rw [hx] at e2
        have HX := Lib.hid (And.intro hu (And.intro hv hx))
        have hkn : (0 : Int) ≤ k ∧ (k : Int) < E.length := by omega
        have HFs := Lib.hid (filt_succ k l)
        have hsr := bel.size
        have hba : Below wr.heap.size wr (wr.alloc (.cells #[.int .i64 u, .int .i64 v, .int .i64 x] 48)) := (Below.refl _ wr).alloc (Nat.le_refl _) _
        have belA := bel.trans (hba.mono hsr)
        have HBs := Lib.hid (bsearch_own _ bv l (wr.alloc (.cells #[.int .i64 u, .int .i64 v, .int .i64 x] 48)) (ownI_below HBv2.out belA) HLs.out (by omega) k)
        have HOA := Lib.hid (HO.out.below hba)
        have hfl := filt_len k l
        have cA : Row (wr.alloc (.cells #[.int .i64 u, .int .i64 v, .int .i64 x] 48)) wr.heap.size 3 (fun i => (#[.int .i64 u, .int .i64 v, .int .i64 x] : Array Value).getD i (.bool false)) := Row.lit wr _ _ (by simp) (fun i hi => by
          match i, hi with
          | 0, _ => rfl
          | 1, _ => rfl
          | 2, _ => rfl
          | q + 3, h => omega)
        have a0 := cA.cell (i := 0) (by omega)
        have a1 := cA.cell (i := 1) (by omega)
        have a2 := cA.cell (i := 2) (by omega)
        simp only [List.getElem?_toArray, Array.getD_eq_getD_getElem?, List.getElem?_cons_zero, List.getElem?_cons_succ, Option.getD_some] at a0 a1 a2
        clear hu hv hx hEr hba HO
        go_wp2_with fail
        refine HBs.out.mono ?_
        clear HBs
        rintro e w3 ⟨⟨ii, rfl⟩, q, rfl⟩
        have belQ := below_drewN belA q
        by_cases hin : k ∈ l
        · have hd := decide_eq_true hin
          rw [hd]
          have HF1 := HFs.out
          rw [if_pos hin] at HF1
          have HF1 := Lib.hid HF1
          have HO3 : Hid (OwnE w2.heap.size _ (someE E ((List.range k).filter fun i => decide (i ∉ l))) ((wr.alloc (.cells #[.int .i64 u, .int .i64 v, .int .i64 x] 48)).drewN q)) := Lib.hid HOA.out
          clear hd hin cA
          go_wp2_with fail
          go_roundw
          case rel => exact ⟨k + 1, by omega, by go_num, by rw [HF1.out]; exact HO3, belQ⟩
          case measure => simp only [intOf]; omega
        · have hd := decide_eq_false hin
          rw [hd]
          have HF1 := HFs.out
          rw [if_neg hin] at HF1
          have HF1 := Lib.hid HF1
          have hown : ((wr.alloc (.cells #[.int .i64 u, .int .i64 v, .int .i64 x] 48)).drewN q).ownsRow w2.heap.size 48 3 _ (someE E ((List.range k).filter fun i => decide (i ∉ l))).length (flat (edC (someE E ((List.range k).filter fun i => decide (i ∉ l)))) (someE E ((List.range k).filter fun i => decide (i ∉ l))).length 3) := HOA.out
          have hln : (someE E ((List.range k).filter fun i => decide (i ∉ l))).length ≤ 16384 := by rw [someE_len]; omega
          have hsq : w2.heap.size ≤ ((wr.alloc (.cells #[.int .i64 u, .int .i64 v, .int .i64 x] 48)).drewN q).heap.size := belQ.size
          have b0 : ((wr.alloc (.cells #[.int .i64 u, .int .i64 v, .int .i64 x] 48)).drewN q).cell? ⟨wr.heap.size, 0, none⟩ = some (.int .i64 u) := a0
          have b1 : ((wr.alloc (.cells #[.int .i64 u, .int .i64 v, .int .i64 x] 48)).drewN q).cell? ⟨wr.heap.size, 1, none⟩ = some (.int .i64 v) := a1
          have b2 : ((wr.alloc (.cells #[.int .i64 u, .int .i64 v, .int .i64 x] 48)).drewN q).cell? ⟨wr.heap.size, 2, none⟩ = some (.int .i64 x) := a2
          clear hd hin cA a0 a1 a2 HOA belA
          generalize (wr.alloc (.cells #[.int .i64 u, .int .i64 v, .int .i64 x] 48)).drewN q = w4 at *
          have HF2 : Hid (someE E ((List.range (k + 1)).filter fun i => decide (i ∉ l)) = someE E ((List.range k).filter fun i => decide (i ∉ l)) ++ [⟨u, v, x⟩]) := Lib.hid (by rw [HF1.out, someE_snoc, HEq.out])
          clear HF1 HFs hfl
          generalize someE E ((List.range k).filter fun i => decide (i ∉ l)) = T at *
          go_wp2_with (at_builtin; refine push etE rfl _ _ rfl w2.heap.size _ _ _ hown rfl #[.int .i64 u, .int .i64 v, .int .i64 x] _ rfl rfl rfl (by simp [Value.oneCell']) (by omega) (by omega) hsq ?_; intro g5 cp w5 hown5 hg5 hv5)
          have HO5 : Hid (OwnE w2.heap.size (.slice (some ⟨g5, 0, none⟩) (T.length + 1 : Nat) cp) (T ++ [⟨u, v, x⟩]) w5) := Lib.hid (OwnE.snoc hown5)
          have B5 := belQ.grown hg5 belQ.size (fun j hj => (World.ownsRow.lt hown j hj).1)
          go_roundw
          case rel => exact ⟨k + 1, by omega, by go_num, by rw [HF2.out]; exact HO5, B5⟩
          case measure => simp only [intOf]; omega
      · obtain rfl : k = E.length := by omega
        obtain ⟨p, hp⟩ : ∃ p, (List.range E.length).filter (fun i => decide (i ∉ l)) = p := ⟨_, rfl⟩
        rw [hp] at HO
        have hpm : ∀ i, i ∈ p ↔ NB E i := fun i => by
          rw [← hp, List.mem_filter, List.mem_range, decide_eq_true_eq, HLm.out i]
          rfl
        have hpl : p.length ≤ 16384 := by have := filt_len E.length l; rw [hp] at this; omega
        obtain ⟨ra, rc, RA, rfl, hR⟩ := HO.out.rd
        have Gp : GOk n (someE E p) := gok_some HGk.out (fun i hi => ((hpm i).1 hi).1) hpl
        have HNw := Lib.hid (gnew_any wr.heap.size ra rc RA n (someE E p) wr hR (Nat.le_refl _) (by rw [someE_len]; omega))
        have HGp := Lib.hid Gp
        have HK : Hid (LeastL E (NB E) (labO E p)) := Lib.hid ((leastL_lab E p).congr hpm)
        clear hR Gp HO hp hpm
        go_wp2_with fail
        refine HNw.out.mono ?_
        clear HNw
        rintro e w6 ⟨hb6, ⟨h0, _⟩ | ⟨b, k6, hk6, -, rfl, hGr⟩⟩
        · exact absurd (gErr_ok HGp.out) h0
        have hk6 : k6 = n := by omega
        rw [hk6] at hGr
        have B6 := Lib.hid (B2.out.trans ((bel.trans (hb6.mono bel.size)).mono B2.out.size))
        have HGl := Lib.hid (glabels_any w6.heap.size b n (someE E p) w6 hGr (Nat.le_refl _))
        clear hGr hb6 bel
        go_wp2_with fail
        refine HGl.out.mono ?_
        clear HGl
        rintro e w7 ⟨gl, rfl, hrw, -, hb7⟩
        rw [someE_lab] at hrw
        have HRd := Lib.hid (row_rdI (cap := n) hrw)
        have B7 := Lib.hid (B6.out.trans (hb7.mono B6.out.size))
        clear hrw hb7
        go_wp2_with fail
        go_ret
        exact ⟨_, _, rfl, HK.out, HRd.out, B7.out⟩
end Go.Proofs.Ytcpikabhcjkkmaa
