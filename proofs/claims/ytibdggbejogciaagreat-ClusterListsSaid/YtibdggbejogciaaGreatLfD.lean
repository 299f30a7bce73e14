/- The walk of depths of package lift: the breadth first search. Conditions: at most 8193 parents, each -1 or a node. -/
import Derived.Test.YtibdggbejogciaaGreatLfO
import Derived.Test.YtibdggbejogciaaGreatLf
import Derived.Deep.LoopGhost
namespace Go.Proofs.YtibdggbejogciaaGreat
open Go.RowKit

/-- each parent is -1 or a node -/
def InRange (p : List Int) : Prop := ∀ i, i < p.length → -1 ≤ nth p i ∧ nth p i < p.length
theorem nth_pa {p : List Int} {i : Nat} (hi : i < p.length) (h : InRange p) : nth p i = oi (pa p i) := by
  rw [oi_pa hi, nth_eq hi]
  rw [← nth_eq hi]; exact (h i hi).1
theorem InRange.lt {p : List Int} (h : InRange p) {u x : Nat} (hx : pa p u = some x) : x < p.length := by
  have hu := pa_lt hx
  have h1 := (h u hu).2
  rw [nth_pa hu h, hx] at h1
  simp only [oi] at h1; omega

/-- what depths leaves -/
def DepthsPost (p : List Int) (w : World) (e : Ending) (w' : World) : Prop :=
  ∃ (D : Nat → Nat) (ok : Bool) (db : Nat), e = .returned (.tuple #[.slice (some ⟨db, 0, none⟩) p.length p.length, .bool ok]) ∧ w.heap.size ≤ db ∧ w'.rowIs db 3 p.length (fun i => nat64 (D i)) ∧ Below w.heap.size w w' ∧
    (ok = true → Forest p D) ∧ (Tree p → ok = true)

set_option maxRecDepth 100000 in
set_option maxHeartbeats 4000000 in
theorem depths_any (B : Nat) (a : Option Addr) (cap : Nat) (A : Nat → Addr) (p : List Int) (w : World) (hp : p.length ≤ 8193) (hR : InRange p) (hS : Sl 37 .i64 w B (.slice a p.length cap) p A) (hB : B ≤ w.heap.size) :
    Calls Tryz.prog 60 #[.slice a p.length cap] w (DepthsPost p w) := by
  have hmk1 := run_make_row' (P := Tryz.prog) 78 37 (.slice none 0 0) 24 Tryz.underlying78 Tryz.infoLI rfl .i64 .i64 p.length (by omega) (by omega)
  have hmk2 := run_make_row' (P := Tryz.prog) 37 3 (.int .i64 0) 8 Tryz.underlying37 Tryz.infoI rfl .i64 .i64 p.length (by omega) (by omega)
  go_enter Tryz.func60, Tryz.ntmps60
  go_wp2
  have hB2 : Below w.heap.size w ((w.alloc (.cells (madeCells #[.slice none 0 0] p.length) 37)).alloc (.cells (madeCells #[.int .i64 0] p.length) 3)) := ((Below.refl _ w).alloc (Nat.le_refl _) _).alloc (by simp) _
  have hF0 : Fam ((w.alloc (.cells (madeCells #[.slice none 0 0] p.length) 37)).alloc (.cells (madeCells #[.int .i64 0] p.length) 3)) (w.heap.size + 2) w.heap.size p.length (fun _ => .slice none 0 0) (fun _ => []) (.slice none 0 0) [] :=
    Fam.start ((World.rowIs_made w _ _ _).alloc _) (by omega)
  have hD0 : ((w.alloc (.cells (madeCells #[.slice none 0 0] p.length) 37)).alloc (.cells (madeCells #[.int .i64 0] p.length) 3)).rowIs (w.heap.size + 1) 3 p.length (fun _ => nat64 0) := by
    have := World.rowIs_made (w.alloc (.cells (madeCells #[.slice none 0 0] p.length) 37)) (.int .i64 0) p.length 3
    rw [World.size_alloc] at this; exact this
  have hsz0 : ((w.alloc (.cells (madeCells #[.slice none 0 0] p.length) 37)).alloc (.cells (madeCells #[.int .i64 0] p.length) 3)).heap.size = w.heap.size + 2 := by simp
  generalize ((w.alloc (.cells (madeCells #[.slice none 0 0] p.length) 37)).alloc (.cells (madeCells #[.int .i64 0] p.length) 3)) = W0 at *
  clear hmk1 hmk2
  go_loopw [7, 22] (fun q i wr => ∃ (k : Nat) (V : Nat → Value), k ≤ p.length ∧ i = .int .i64 k ∧ Fam wr (w.heap.size + 2) w.heap.size p.length V (fun u => kidsTo p k u) q (rootsTo p k) ∧ wr.rowIs (w.heap.size + 1) 3 p.length (fun _ => nat64 0) ∧ Below w.heap.size w wr ∧ w.heap.size + 2 ≤ wr.heap.size)
    (fun _ i _ => p.length - (intOf i).toNat)
  case atStart => exact ⟨0, _, Nat.zero_le _, rfl, hF0, hD0, hB2, by omega⟩
  case round =>
    obtain ⟨k, V, hk, rfl, hF, hD, hBr, hzr⟩ := hrel
    by_cases hlt : k < p.length
    · have hix := hS.ix k hlt
      have hc0 := Sl.at (hS.below (hBr.mono hB)) hlt
      have hnx := nth_pa hlt hR
      cases hpk : pa p k with
      | none =>
        rw [hpk] at hnx
        rw [hnx] at hc0
        replace hc0 : wr.cell? (A k) = some (.int .i64 (-1)) := hc0
        have HR := Lib.hid (rootsTo_succ p k)
        have HK := Lib.hid (kidsTo_succ p k)
        have HP := Lib.hid hpk
        have hlen := rootsTo_len p k
        clear hnx hpk
        go_wp2_with (at_builtin; refine push etI rfl _ _ rfl (w.heap.size + 2) _ _ _ hF.qown rfl #[nat64 k] _ rfl rfl rfl (by simp [nat64, Value.oneCell']) (by omega) (by omega) (by omega) ?_; intro g cp w1 hown1 hg1 hv1)
        have hF1 := hF.push hown1 hg1 hv1
        have hlb := hF.qown.lt
        clear hown1 hv1
        go_roundw
        case rel =>
          refine ⟨k + 1, V, by omega, by go_num, ?_, hD.of_block (hg1.block _ hD.lt (fun e => by have := (hlb _ e.symm).1; omega)), hBr.grown hg1 hBr.size (fun j e => by have := (hlb j e).1; omega), by have := hg1.size; omega⟩
          have e1 : rootsTo p (k + 1) = rootsTo p k ++ [k] := by rw [HR.out, if_pos HP.out]
          have e2 : (fun u => kidsTo p (k + 1) u) = fun u => kidsTo p k u := by funext u; rw [HK.out, HP.out, if_neg (by simp)]
          rw [e1, e2]; exact hF1
        case measure => simp [intOf]; omega
      | some x =>
        rw [hpk] at hnx
        rw [hnx] at hc0
        replace hc0 : wr.cell? (A k) = some (.int .i64 x) := hc0
        have hxl := hR.lt hpk
        have hxi : (0 : Int) ≤ x ∧ (x : Int) < p.length := by omega
        have hcx := hF.row.cell hxl
        have HR := Lib.hid (rootsTo_succ p k)
        have HK := Lib.hid (kidsTo_succ p k)
        have HP := Lib.hid hpk
        have hlen := kidsTo_len p k x
        clear hnx hpk
        go_wp2_with (at_builtin; refine push etI rfl _ _ rfl (w.heap.size + 2) _ _ _ (hF.own x hxl) rfl #[nat64 k] _ rfl rfl rfl (by simp [nat64, Value.oneCell']) (by omega) (by omega) (by omega) ?_; intro g cp w1 hown1 hg1 hv1; have hst := hF.still hxl hg1; have hcell1 := hst.cell hxl; have hfr1 := hst.frozen x; have hF1 := hF.add hxl hown1 hg1 hv1; have hlb := (hF.own x hxl).lt; clear hst hown1 hv1)
        go_roundw
        case rel =>
          refine ⟨k + 1, fun u => if u = x then .slice (some ⟨g, 0, none⟩) ((kidsTo p k x).length + 1) cp else V u, by omega, by go_num, ?_, (hD.of_block (hg1.block _ hD.lt (fun e => by have := (hlb _ e.symm).1; omega))).setOther (by simp) _,
            (hBr.grown hg1 hBr.size (fun j e => by have := (hlb j e).1; omega)).setCell (p := ⟨w.heap.size, x, none⟩) (Nat.le_refl _) _, by have := hg1.size; simp; omega⟩
          have e1 : rootsTo p (k + 1) = rootsTo p k := by rw [HR.out, HP.out, if_neg (by simp)]
          have e2 : (fun u => kidsTo p (k + 1) u) = fun u => if u = x then kidsTo p k u ++ [k] else kidsTo p k u := by
            funext u; rw [HK.out, HP.out]
            by_cases hu : u = x
            · rw [if_pos hu, if_pos (by rw [hu])]
            · rw [if_neg hu, if_neg (by simpa using fun e => hu e.symm)]
          rw [e1, e2]; exact hF1
        case measure => simp [intOf]; omega
    · obtain rfl : k = p.length := by omega
      clear hF0 hD0 hsz0 hB2 hlt hk
      have hFk : Fam wr (w.heap.size + 2) w.heap.size p.length V (kids p) u7 (rootsTo p p.length) := hF
      clear hF
      go_wp2
      go_loopw [7, 10] (fun q i wx => ∃ (k : Nat) (Q : List Nat) (D : Nat → Nat), i = .int .i64 k ∧ Bfs p k Q ∧ Dep p Q D ∧ Fam wx (w.heap.size + 2) w.heap.size p.length V (kids p) q Q ∧ wx.rowIs (w.heap.size + 1) 3 p.length (fun i => nat64 (D i)) ∧ Below w.heap.size w wx ∧ w.heap.size + 2 ≤ wx.heap.size)
        (fun _ i _ => p.length - (intOf i).toNat)
      case atStart => exact ⟨0, _, _, rfl, Bfs.start p, Dep.start p, hFk, hD, hBr, hzr⟩
      case round =>
        clear hFk hD hBr hzr
        obtain ⟨i, Q, D, rfl, hQ, hDep, hF, hD, hBr, hzr⟩ := hrel
        obtain ⟨wo, rfl⟩ : ∃ wo : World, wo = wr := ⟨_, rfl⟩
        have hQl := hQ.len
        have hil := hQ.le
        obtain ⟨aq, cq, hqv, hqc⟩ := own_view hF.qown
        by_cases hlt : i < Q.length
        · have hul := hQ.lt _ (List.getElem_mem hlt)
          obtain ⟨gq, rfl, _, _, hcq, _⟩ := hqc i _ (map_at hlt)
          have hfresh := fun c (h : pa p c = some Q[i]) => hQ.fresh hlt h
          have hum : Q[i] ∈ Q := List.getElem_mem hlt
          have HQ := Lib.hid (hQ.step hlt)
          clear hQ hqc
          generalize Q[i] = u at *
          obtain ⟨au, cu, hVu, hVc⟩ := own_view (hF.own u hul)
          have hcu := hF.row.cell hul
          rw [hVu] at hcu
          have hui : (0 : Int) ≤ u ∧ (u : Int) < p.length := by omega
          have hii : (0 : Int) ≤ i ∧ (i : Int) < Q.length := by omega
          have hkl := kidsTo_len p p.length u
          replace hkl : (kids p u).length ≤ p.length := hkl
          have HV := Lib.hid hVu
          replace hcq : wo.cell? ⟨gq, i, none⟩ = some (.int .i64 u) := hcq
          clear hVu
          rw [hqv] at hF ⊢
          clear hqv
          go_wp2
          go_loopw [7, 59] (fun q jv wx => ∃ (j : Nat) (D : Nat → Nat), j ≤ (kids p u).length ∧ jv = .int .i64 j ∧ Dep p (Q ++ (kids p u).take j) D ∧ Fam wx (w.heap.size + 2) w.heap.size p.length V (kids p) q (Q ++ (kids p u).take j) ∧ wx.rowIs (w.heap.size + 1) 3 p.length (fun i => nat64 (D i)) ∧ Below w.heap.size w wx ∧ w.heap.size + 2 ≤ wx.heap.size)
            (fun _ jv _ => (kids p u).length - (intOf jv).toNat)
          case atStart => exact ⟨0, D, Nat.zero_le _, rfl, by simpa using hDep, by simpa using hF, hD, hBr, hzr⟩
          case round =>
            clear hDep hF hD hBr hzr hcq hcu hVc
            obtain ⟨j, E, hj, rfl, hDep, hF, hD, hBr, hzr⟩ := hrel
            have hEl := hDep.le u
            have hDl := hD.cell hul
            by_cases hjl : j < (kids p u).length
            · have hck : (kids p u)[j] ∈ kids p u := List.getElem_mem hjl
              have hpc := mem_kids.1 hck
              have hcl := pa_lt hpc
              have hown := hF.own u hul
              rw [HV.out] at hown
              obtain ⟨au', cu', hVe, hVc⟩ := own_view hown
              obtain ⟨gu, hau, _, _, hcc, _⟩ := hVc j _ (map_at hjl)
              simp only [Value.slice.injEq] at hVe
              obtain ⟨rfl, _, _⟩ := hVe
              subst hau
              have htk : (kids p u).take (j + 1) = (kids p u).take j ++ [(kids p u)[j]] := List.take_succ_eq_append_getElem hjl
              have hnew : (kids p u)[j] ∉ Q ++ (kids p u).take j := by
                rw [List.mem_append]
                rintro (h | h)
                · exact hfresh _ hpc h
                · have hnd := kids_nodup p u
                  rw [← List.take_append_drop j (kids p u), List.nodup_append] at hnd
                  exact hnd.2.2 _ h _ (by rw [List.drop_eq_getElem_cons hjl]; exact List.mem_cons_self) rfl
              have HT := Lib.hid htk
              have HDS := Lib.hid (hDep.step hnew (List.mem_append_left _ hum) hpc)
              have hlq : (Q ++ (kids p u).take j).length ≤ p.length + p.length := by simp; omega
              clear htk hck hVc hnew hpc hDep
              generalize (kids p u)[j] = c at *
              have hci : (0 : Int) ≤ c ∧ (c : Int) < p.length := by omega
              have hji : (0 : Int) ≤ j ∧ (j : Int) < (kids p u).length := by omega
              have hDc := hD.cell hcl
              have hDf := hD.frozen c
              replace hcc : wr.cell? ⟨gu, j, none⟩ = some (.int .i64 c) := hcc
              replace hDl : wr.cell? ⟨w.heap.size + 1, u, none⟩ = some (.int .i64 (E u)) := hDl
              have hF2 := hF.store (a := ⟨w.heap.size + 1, c, none⟩) (by simp) (by simp) (.int .i64 ((E u : Int) + 1))
              go_wp2_with (at_builtin; refine push etI rfl _ _ rfl (w.heap.size + 2) _ _ _ hF2.qown rfl #[nat64 c] _ rfl (by simp) rfl (by simp [nat64, Value.oneCell']) (by omega) (by omega) (by simp; omega) ?_; intro g cp w1 hown1 hg1 hv1)
              have hF3 := hF2.push hown1 hg1 hv1
              have hle2 : (Q ++ (kids p u).take j).length = Q.length + j := by simp; omega
              rw [hle2] at hF3
              have hlb := hF.qown.lt
              have hD2 := hD.set c (nat64 (E u + 1))
              have hD3 := hD2.of_block (hg1.block _ hD2.lt (fun e => by have := (hlb _ e.symm).1; omega))
              have hB3 := (hBr.setCell (p := ⟨w.heap.size + 1, c, none⟩) (by simp) (.int .i64 ((E u : Int) + 1))).grown hg1 (by have := hBr.size; simp; omega) (fun j e => by have := (hlb j e).1; omega)
              have hz3 := hg1.size
              rw [World.size_setCell] at hz3
              refine ⟨⟨_, _, _, ⟨j + 1, by omega, rfl, _, by rw [HT.out, ← List.append_assoc]; exact HDS.out, by rw [HT.out, ← List.append_assoc]; exact hF3, ?_, hB3, by omega⟩, rfl, rfl, by go_num⟩, by simp [intOf]; omega⟩
              exact hD3.congr (fun i _ => by by_cases e : i = c <;> simp [e])
            · obtain rfl : j = (kids p u).length := by omega
              rw [List.take_length] at hDep hF
              go_wp2
              go_roundw
              case rel => exact ⟨i + 1, _, _, by go_num, HQ.out, hDep, hF, hD, hBr, hzr⟩
              case measure => simp [intOf]; omega
        · obtain rfl : i = Q.length := by omega
          have hdone1 := Lib.hid (fun F => hQ.done_tree F)
          have hdone2 := Lib.hid (fun h => hQ.done_forest hDep (fun v u h => hR.lt h) h)
          clear hQ hDep
          rw [hqv]
          clear hqv hqc hF
          go_wp2
          go_ret2
          exact ⟨D, ((Q.length : Int) == (p.length : Int)), w.heap.size + 1, rfl, by omega, hD, hBr, fun h => hdone2.out (by have := eq_of_beq h; omega), fun F => by rw [hdone1.out F]; simp⟩
end Go.Proofs.YtibdggbejogciaaGreat
