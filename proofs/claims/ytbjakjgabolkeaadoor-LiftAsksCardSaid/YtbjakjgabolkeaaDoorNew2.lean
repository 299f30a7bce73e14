/- The walk of New of package lift, its post telling besides that the table lies in new blocks alone. Conditions: at most 8192 parents are given as cells, each in range. -/
import Derived.Test.YtbjakjgabolkeaaDoorAgree
namespace Go.Proofs.YtbjakjgabolkeaaDoor
open Go.RowKit

theorem Making.tabFrom {w W' : World} {b db lo : Nat} {jb : Nat → Nat} {p : List Int} (M : Making w b db 13 jb p) (F : Tree p) (hs : p.length ≤ 8192) (hb : lo ≤ b) (hdb : lo ≤ db) (hjb : ∀ i, i < 13 → lo ≤ jb i) (hW : ∀ k, lo ≤ k → k < w.heap.size → W'.heap[k]? = w.heap[k]?) : TabAt W' w.heap.size b p := by
  have T := M.tabAt F hs
  have hc : ∀ (k o : Nat), lo ≤ k → k < w.heap.size → W'.cell? ⟨k, o, none⟩ = w.cell? ⟨k, o, none⟩ := fun k o h1 h2 => World.cell?_of_block (hW k h1 h2)
  refine ⟨F, hs, T.lt, ?_, ⟨db, M.dep.lt, ?_, fun i hi => ?_⟩, ⟨jb, fun j hj => ⟨(M.jmp j hj).lt, ?_, fun i hi => ?_⟩⟩⟩
  · rw [hc _ _ hb T.lt]; exact T.made
  · rw [hc _ _ hb T.lt]; exact M.tab.cell (i := 1) (by omega)
  · rw [hc _ _ hdb M.dep.lt]; exact M.dep.cell hi
  · rw [hc _ _ hb T.lt]
    have := M.tab.cell (i := 2 + j) (by omega)
    rw [if_neg (by omega), if_neg (by omega), if_pos (by omega), show 2 + j - 2 = j from by omega] at this
    exact this
  · rw [hc _ _ (hjb j hj) (M.jmp j hj).lt]; exact (M.jmp j hj).cell hi

set_option maxRecDepth 100000 in
set_option maxHeartbeats 4000000 in
theorem new_fresh (B : Nat) (a : Option Addr) (cap : Nat) (A : Nat → Addr) (p : List Int) (w : World) (hp : p.length ≤ 8192) (hR : InRange p) (hS : Sl 25 .i64 w B (.slice a p.length cap) p A) (hB : B ≤ w.heap.size) :
    Calls Tryd.prog 17 #[.slice a p.length cap] w fun e w' => Below w.heap.size w w' ∧ ((treeB p = false ∧ e = .returned (.tuple #[.pointer none, .int .i64 9])) ∨ (treeB p = true ∧ ∃ b, e = .returned (.tuple #[.pointer (some ⟨b, 0, none⟩), .int .i64 0]) ∧ ∀ W', (∀ k, w.heap.size ≤ k → k < w'.heap.size → W'.heap[k]? = w'.heap[k]?) → TabAt W' w'.heap.size b p)) := by
  have hmk2 := run_make_row' (P := Tryd.prog) 25 3 (.int .i64 0) 8 Tryd.underlying25 Tryd.info3 rfl .i64 .i64 p.length (by omega) (by omega)
  have HR := Lib.hid hR
  clear hR
  go_enter Tryd.func17, Tryd.ntmps17
  go_wp2_with fail
  go_loop [19] (fun i => ∃ k : Nat, k ≤ p.length ∧ i = .int .i64 k) (fun i => p.length - (intOf i).toNat)
  case atStart => exact ⟨0, Nat.zero_le _, rfl⟩
  case round =>
    obtain ⟨k, hk, rfl⟩ := hrel
    by_cases hlt : k < p.length
    · have hix := hS.ix k hlt
      have hc := hS.cell k hlt
      have h1 := HR.out k hlt
      go_wp2_with fail
      go_round
      case rel => exact ⟨k + 1, by omega, by go_num⟩
      case measure => simp [intOf]; omega
    · obtain rfl : k = p.length := by omega
      go_wp2_with fail
      refine (depths_any B a cap A p w (by omega) HR.out hS hB).mono ?_
      rintro e w1 ⟨D, ok, db, rfl, hdb, hD, hB1, ho1, ho2⟩
      have hB1s := hB1.size
      have hdbl := hD.lt
      cases ok with
      | false =>
        have hT : treeB p = false := by
          cases h : treeB p with
          | false => rfl
          | true => exact absurd (ho2 (tree_of_B h)) (by simp)
        have HT := Lib.hid hT
        clear hT ho1 ho2
        go_wp2_with fail
        go_ret2
        exact ⟨hB1, .inl ⟨HT.out, rfl⟩⟩
      | true =>
        have F := ho1 rfl
        have hT : Tree p := F.tree
        have hdp := hD.congr (g := fun i => nat64 (dp p i)) (fun i hi => by rw [dp_eq F hi])
        have HT := Lib.hid hT
        clear ho1 ho2 hD F hT
        go_wp2_with fail
        have hM0 := Making.start (w := w1) (db := db) (p := p) (fun _ => 0) hdp
        have hBW : Below w.heap.size w (w1.alloc (.cells #[.bool true, .slice (some ⟨db, 0, none⟩) p.length p.length, .slice none 0 0, .slice none 0 0, .slice none 0 0, .slice none 0 0, .slice none 0 0, .slice none 0 0, .slice none 0 0, .slice none 0 0, .slice none 0 0, .slice none 0 0, .slice none 0 0, .slice none 0 0, .slice none 0 0] 52)) := hB1.alloc hB1s _
        have hsW : (w1.alloc (.cells #[.bool true, .slice (some ⟨db, 0, none⟩) p.length p.length, .slice none 0 0, .slice none 0 0, .slice none 0 0, .slice none 0 0, .slice none 0 0, .slice none 0 0, .slice none 0 0, .slice none 0 0, .slice none 0 0, .slice none 0 0, .slice none 0 0, .slice none 0 0, .slice none 0 0] 52)).heap.size = w1.heap.size + 1 := by simp
        generalize (w1.alloc (.cells #[.bool true, .slice (some ⟨db, 0, none⟩) p.length p.length, .slice none 0 0, .slice none 0 0, .slice none 0 0, .slice none 0 0, .slice none 0 0, .slice none 0 0, .slice none 0 0, .slice none 0 0, .slice none 0 0, .slice none 0 0, .slice none 0 0, .slice none 0 0, .slice none 0 0] 52)) = W0 at *
        clear hdp hB1
        generalize w1.heap.size = b at *
        go_loopw [41] (fun j wr => ∃ (k : Nat) (jb : Nat → Nat), k ≤ 13 ∧ j = .int .i64 k ∧ Making wr b db k jb p ∧ Below w.heap.size w wr ∧ b < wr.heap.size ∧ ∀ i, i < k → b < jb i) (fun j _ => 13 - (intOf j).toNat)
        case atStart => exact ⟨0, _, by omega, rfl, hM0, hBW, by omega, fun i hi => absurd hi (by omega)⟩
        case round =>
          clear hM0 hBW hsW
          obtain ⟨k, jb, hk, rfl, hM, hBr, hbr, hjb⟩ := hrel
          by_cases hlt : k < 13
          · have hki : (0 : Int) ≤ k ∧ (k : Int) < 13 := by omega
            have hca : ∀ o, (wr.alloc o).cell? ⟨b, 2 + k, none⟩ = some (.slice none 0 0) := fun o => by
              have := (hM.tab.alloc o).cell (i := 2 + k) (by omega)
              rw [if_neg (by omega), if_neg (by omega), if_neg (by omega)] at this; exact this
            have hfa : ∀ o, (wr.alloc o).frozen? ⟨b, 2 + k, none⟩ = false := fun o => (hM.tab.alloc o).frozen _
            go_wp2_with fail
            go_region
            go_wp2_with fail
            have hH0 := Half.start hM hlt hdbl hbr hjb
            have hBn : Below w.heap.size w ((wr.setCell ⟨b, 2 + k, none⟩ (.slice (some ⟨wr.heap.size, 0, none⟩) p.length p.length)).alloc (.cells (madeCells #[.int .i64 0] p.length) 3)).drew := ((hBr.setCell (p := ⟨b, 2 + k, none⟩) hB1s _).alloc (by rw [World.size_setCell]; exact hBr.size) _).drew
            have hsn : ((wr.setCell ⟨b, 2 + k, none⟩ (.slice (some ⟨wr.heap.size, 0, none⟩) p.length p.length)).alloc (.cells (madeCells #[.int .i64 0] p.length) 3)).drew.heap.size = wr.heap.size + 1 := by simp
            generalize ((wr.setCell ⟨b, 2 + k, none⟩ (.slice (some ⟨wr.heap.size, 0, none⟩) p.length p.length)).alloc (.cells (madeCells #[.int .i64 0] p.length) 3)).drew = W1 at *
            generalize hjbe : (fun i => if i = k then wr.heap.size else jb i) = jc at *
            have hjck : jc k = wr.heap.size := by rw [← hjbe]; simp
            have HJ := Lib.hid hjck
            clear hjck hjbe hM hca hfa hBr
            generalize wr.heap.size = J at *
            clear hjb
            obtain ⟨wo, rfl⟩ : ∃ wo : World, wo = wr := ⟨_, rfl⟩
            go_loopw [52] (fun vv wx => ∃ v : Nat, v ≤ p.length ∧ vv = .int .i64 v ∧ Half wx b db k v jc p ∧ Below w.heap.size w wx ∧ b < wx.heap.size) (fun vv _ => p.length - (intOf vv).toNat)
            case atStart => exact ⟨0, by omega, rfl, hH0, hBn, by omega⟩
            case round =>
              clear hH0 hBn hsn
              obtain ⟨v, hv, rfl, hH, hBx, hbx⟩ := hrel
              by_cases hvl : v < p.length
              · have hvi : (0 : Int) ≤ v ∧ (v : Int) < p.length := by omega
                have hsk := hH.slot (i := k) (by omega) hlt
                have hst := hH.cur.cell hvl
                have hsf := hH.cur.frozen v
                rw [HJ.out] at hsk hst hsf
                cases k with
                | zero =>
                  have hix := hS.ix v hvl
                  have hcv := (hS.below (hBx.mono hB)).cell v hvl
                  have hs0 : wr.cell? ⟨b, 2, none⟩ = some (.slice (some ⟨J, 0, none⟩) p.length p.length) := hsk
                  have hval := nth_pa hvl HR.out
                  have HV := Lib.hid hval
                  clear hval
                  go_wp2_with fail
                  go_region
                  go_wp2_with fail
                  go_roundw
                  case rel => exact ⟨v + 1, by omega, by go_num, by have h1 := (hH.store (x := nth p v) HV.out).drew; rw [HJ.out] at h1; exact h1, (hBx.setCell (p := ⟨J, v, none⟩) (by have := hB1s; show _ ≤ J; omega) _).drew, by simp; omega⟩
                  case measure => simp [intOf]; omega
                | succ k' =>
                  have hk0 : ((((k' + 1 : Nat) : Int)) == 0) = false := by simp; omega
                  have hsp := hH.slot (i := k') (by omega) hlt
                  have hki2 : (0 : Int) ≤ k' ∧ (k' : Int) < 13 := by omega
                  have hcp := (hH.jmp k' (by omega)).cell hvl
                  have hgen : ∀ (x : Int), x = oi (anc p (2 ^ (k' + 1)) v) → Half (wr.setCell ⟨J, v, none⟩ (.int .i64 x)) b db (k' + 1) (v + 1) jc p := fun x hx => by
                    have h1 := hH.store hx; rw [HJ.out] at h1; exact h1
                  have HG := Lib.hid hgen
                  clear hgen
                  cases hm : anc p (2 ^ k') v with
                  | none =>
                    have hval : (-1 : Int) = oi (anc p (2 ^ (k' + 1)) v) := by rw [Nat.pow_succ, Nat.mul_two, anc_add, hm]; rfl
                    rw [hm] at hcp
                    replace hcp : wr.cell? ⟨jc k', v, none⟩ = some (.int .i64 (-1)) := hcp
                    have HV := Lib.hid hval
                    clear hval hm
                    go_wp2_with fail
                    go_roundw
                    case rel => exact ⟨v + 1, by omega, by go_num, HG.out _ HV.out, hBx.setCell (p := ⟨J, v, none⟩) (by have := hB1s; show _ ≤ J; omega) _, by simp; omega⟩
                    case measure => simp [intOf]; omega
                  | some m =>
                    have hml := anc_lt HT.out hvl hm
                    have hmi : (0 : Int) ≤ m ∧ (m : Int) < p.length := by omega
                    have hcm := (hH.jmp k' (by omega)).cell hml
                    have hval : oi (anc p (2 ^ k') m) = oi (anc p (2 ^ (k' + 1)) v) := by rw [Nat.pow_succ, Nat.mul_two, anc_add, hm]; rfl
                    rw [hm] at hcp
                    replace hcp : wr.cell? ⟨jc k', v, none⟩ = some (.int .i64 m) := hcp
                    have HV := Lib.hid hval
                    clear hval hm
                    go_wp2_with fail
                    go_roundw
                    case rel => exact ⟨v + 1, by omega, by go_num, HG.out _ HV.out, hBx.setCell (p := ⟨J, v, none⟩) (by have := hB1s; show _ ≤ J; omega) _, by simp; omega⟩
                    case measure => simp [intOf]; omega
              · obtain rfl : v = p.length := by omega
                go_wp2_with fail
                go_roundw
                case rel => exact ⟨k + 1, jc, by omega, by go_num, hH.done, hBx, hbx, hH.b_jb⟩
                case measure => simp [intOf]; omega
          · obtain rfl : k = 13 := by omega
            go_wp2_with fail
            go_ret2
            exact ⟨hBr, .inr ⟨treeB_iff.2 HT.out, b, rfl, fun W' hW => hM.tabFrom HT.out hp (lo := w.heap.size) (by omega) (by omega) (fun i hi => by have := hjb i hi; omega) hW⟩⟩
end Go.Proofs.YtbjakjgabolkeaaDoor
