/- The walk of New of package lift. Conditions: at most 8193 parents are given as cells; the answer is an error exactly where there is no such forest. -/
import Derived.Test.YtibdggbejogciaaGreatLfD
import Derived.RegionTactic
import Derived.BigRegion
import Derived.ChangeAlike
namespace Go.Proofs.YtibdggbejogciaaGreat
open Go.RowKit

def inRB (p : List Int) : Bool := (List.range p.length).all fun i => decide (-1 ≤ nth p i ∧ nth p i < p.length)
theorem inRB_iff {p : List Int} : inRB p = true ↔ InRange p := by
  simp [inRB, InRange]
theorem treeB_iff {p : List Int} : treeB p = true ↔ Tree p := by
  refine ⟨tree_of_B, fun F => ?_⟩
  unfold treeB
  rw [List.all_eq_true]
  intro v hv
  have hv : v < p.length := by simpa using hv
  cases hp : pa p v with
  | none => simpa using F.root v hv hp
  | some u => simp only [Bool.and_eq_true, decide_eq_true_eq, beq_iff_eq]; exact ⟨F.rng v u hv hp, F.up v u hv hp⟩
/-- the error that New returns -/
def newE (p : List Int) : Int := if 8192 < p.length then 2 else if inRB p then (if treeB p then 0 else 9) else 3

set_option maxHeartbeats 1000000 in
theorem new_arg (a : Option Addr) (n cap : Nat) (w : World) (hn : 8192 < n) (hm : n ≤ 9223372036854775807) :
    Calls Tryz.prog 47 #[.slice a n cap] w fun e w' => e = .returned (.tuple #[.pointer none, .int .i64 2]) ∧ w = w' := by
  have hb : decide (8192 < n) = true := by simpa using hn
  go_enter Tryz.func47, Tryz.ntmps47
  go_wp2
  go_ret2
  exact ⟨rfl, rfl⟩

set_option maxHeartbeats 1000000 in
theorem new_range (B : Nat) (a : Option Addr) (cap : Nat) (A : Nat → Addr) (p : List Int) (w : World) (hp : p.length ≤ 8192) (hR : ¬ InRange p) (hS : Sl 37 .i64 w B (.slice a p.length cap) p A) :
    Calls Tryz.prog 47 #[.slice a p.length cap] w fun e w' => e = .returned (.tuple #[.pointer none, .int .i64 3]) ∧ w = w' := by
  go_enter Tryz.func47, Tryz.ntmps47
  go_wp2
  go_loop [19] (fun i => ∃ k : Nat, k ≤ p.length ∧ i = .int .i64 k ∧ ∀ i, i < k → -1 ≤ nth p i ∧ nth p i < p.length) (fun i => p.length - (intOf i).toNat)
  case atStart => exact ⟨0, Nat.zero_le _, rfl, fun i hi => absurd hi (by omega)⟩
  case round =>
    obtain ⟨k, hk, rfl, hall⟩ := hrel
    by_cases hlt : k < p.length
    · have hix := hS.ix k hlt
      have hc := Sl.at hS hlt
      have HA := Lib.hid hall
      clear hall
      by_cases h1 : nth p k < -1
      · go_wp2
        go_ret2
        exact ⟨rfl, rfl⟩
      · by_cases h2 : (p.length : Int) ≤ nth p k
        · go_wp2
          go_ret2
          exact ⟨rfl, rfl⟩
        · go_wp2
          go_round
          case rel => exact ⟨k + 1, by omega, by go_num, fun i hi => by
            by_cases e : i = k
            · subst e; omega
            · exact HA.out i (by omega)⟩
          case measure => simp [intOf]; omega
    · exfalso
      obtain rfl : k = p.length := by omega
      exact hR hall

/-- a table while it is made: j of its rows of jumps stand -/
structure Making (w : World) (b db j : Nat) (jb : Nat → Nat) (p : List Int) : Prop where
  tab : w.rowIs b 110 15 (fun c => if c = 0 then .bool true else if c = 1 then .slice (some ⟨db, 0, none⟩) p.length p.length else if c < 2 + j then .slice (some ⟨jb (c - 2), 0, none⟩) p.length p.length else .slice none 0 0)
  dep : w.rowIs db 3 p.length (fun i => nat64 (dp p i))
  jmp : ∀ i, i < j → w.rowIs (jb i) 3 p.length (fun v => .int .i64 (oi (anc p (2 ^ i) v)))

theorem Making.start {w : World} {db : Nat} {p : List Int} (jb : Nat → Nat) (hd : w.rowIs db 3 p.length (fun i => nat64 (dp p i))) :
    Making (w.alloc (.cells #[.bool true, .slice (some ⟨db, 0, none⟩) p.length p.length, .slice none 0 0, .slice none 0 0, .slice none 0 0, .slice none 0 0, .slice none 0 0, .slice none 0 0, .slice none 0 0, .slice none 0 0, .slice none 0 0, .slice none 0 0, .slice none 0 0, .slice none 0 0, .slice none 0 0] 110)) w.heap.size db 0 jb p where
  tab := by
    refine World.rowIs_alloc w _ 110 _ (fun i hi => ?_)
    have hi : i < 15 := hi
    match i, hi with
    | 0, _ => rfl
    | 1, _ => rfl
    | 2, _ => rfl
    | 3, _ => rfl
    | 4, _ => rfl
    | 5, _ => rfl
    | 6, _ => rfl
    | 7, _ => rfl
    | 8, _ => rfl
    | 9, _ => rfl
    | 10, _ => rfl
    | 11, _ => rfl
    | 12, _ => rfl
    | 13, _ => rfl
    | 14, _ => rfl
  dep := hd.alloc _
  jmp := fun i hi => absurd hi (by omega)

/-- while its k-th row is filled: v of its cells hold what they shall -/
structure Half (w : World) (b db k v : Nat) (jb : Nat → Nat) (p : List Int) : Prop where
  tab : w.rowIs b 110 15 (fun c => if c = 0 then .bool true else if c = 1 then .slice (some ⟨db, 0, none⟩) p.length p.length else if c < 2 + (k + 1) then .slice (some ⟨jb (c - 2), 0, none⟩) p.length p.length else .slice none 0 0)
  dep : w.rowIs db 3 p.length (fun i => nat64 (dp p i))
  jmp : ∀ i, i < k → w.rowIs (jb i) 3 p.length (fun v => .int .i64 (oi (anc p (2 ^ i) v)))
  cur : w.rowIs (jb k) 3 p.length (fun i => .int .i64 (if i < v then oi (anc p (2 ^ k) i) else 0))
  db_b : db < b
  b_jb : ∀ i, i < k + 1 → b < jb i
  top : ∀ i, i < k → jb i < jb k

theorem Half.start {w : World} {b db k : Nat} {jb : Nat → Nat} {p : List Int} (M : Making w b db k jb p) (hk : k < 13) (hdb : db < b) (hb : b < w.heap.size) (hjb : ∀ i, i < k → b < jb i) :
    Half (((w.setCell ⟨b, 2 + k, none⟩ (.slice (some ⟨w.heap.size, 0, none⟩) p.length p.length)).alloc (.cells (madeCells #[.int .i64 0] p.length) 3)).drew) b db k 0 (fun i => if i = k then w.heap.size else jb i) p where
  tab := by
    refine (((M.tab.set (2 + k) _).alloc _).drew).congr (fun c hc => ?_)
    by_cases e : c = 2 + k
    · subst e
      rw [if_pos rfl, if_neg (by omega), if_neg (by omega), if_pos (by omega), if_pos (by omega)]
    · rw [if_neg e]
      by_cases e0 : c = 0
      · rw [if_pos e0, if_pos e0]
      · by_cases e1 : c = 1
        · rw [if_neg e0, if_neg e0, if_pos e1, if_pos e1]
        · rw [if_neg e0, if_neg e0, if_neg e1, if_neg e1]
          by_cases e2 : c < 2 + k
          · rw [if_pos e2, if_pos (by omega), if_neg (by omega)]
          · rw [if_neg e2, if_neg (by omega)]
  dep := ((M.dep.setOther (by show db ≠ b; omega) _).alloc _).drew
  jmp := fun i hi => by rw [if_neg (by omega)]; exact (((M.jmp i hi).setOther (by show jb i ≠ b; have := hjb i hi; omega) _).alloc _).drew
  cur := by
    rw [if_pos rfl]
    have := World.rowIs_made (w.setCell ⟨b, 2 + k, none⟩ (.slice (some ⟨w.heap.size, 0, none⟩) p.length p.length)) (.int .i64 0) p.length 3
    rw [World.size_setCell] at this
    exact this.congr (fun i _ => by rw [if_neg (by omega)])
  db_b := hdb
  b_jb := fun i hi => by
    by_cases e : i = k
    · rw [if_pos e]; exact hb
    · rw [if_neg e]; exact hjb i (by omega)
  top := fun i hi => by rw [if_neg (by omega), if_pos rfl]; exact (M.jmp i hi).lt
theorem Half.store {w : World} {b db k v : Nat} {jb : Nat → Nat} {p : List Int} (M : Half w b db k v jb p) {x : Int} (hx : x = oi (anc p (2 ^ k) v)) : Half (w.setCell ⟨jb k, v, none⟩ (.int .i64 x)) b db k (v + 1) jb p where
  tab := M.tab.setOther (by have := M.b_jb k (by omega); show b ≠ jb k; omega) _
  dep := M.dep.setOther (by have := M.b_jb k (by omega); have := M.db_b; show db ≠ jb k; omega) _
  jmp := fun i hi => (M.jmp i hi).setOther (by have := M.top i hi; show jb i ≠ jb k; omega) _
  cur := (M.cur.set v _).congr (fun i _ => by
    by_cases e : i = v
    · subst e; rw [if_pos rfl, if_pos (by omega), hx]
    · rw [if_neg e]
      by_cases e2 : i < v
      · rw [if_pos e2, if_pos (by omega)]
      · rw [if_neg e2, if_neg (by omega)])
  db_b := M.db_b
  b_jb := M.b_jb
  top := M.top
theorem Half.drew {w : World} {b db k v : Nat} {jb : Nat → Nat} {p : List Int} (M : Half w b db k v jb p) : Half w.drew b db k v jb p := ⟨M.tab, M.dep, M.jmp, M.cur, M.db_b, M.b_jb, M.top⟩
theorem Half.done {w : World} {b db k : Nat} {jb : Nat → Nat} {p : List Int} (M : Half w b db k p.length jb p) : Making w b db (k + 1) jb p where
  tab := M.tab
  dep := M.dep
  jmp := fun i hi => by
    by_cases e : i = k
    · subst e; exact M.cur.congr (fun i hi => by rw [if_pos hi])
    · exact M.jmp i (by omega)
theorem Half.slot {w : World} {b db k v i : Nat} {jb : Nat → Nat} {p : List Int} (M : Half w b db k v jb p) (hi : i < k + 1) (hk : k < 13) : w.cell? ⟨b, 2 + i, none⟩ = some (.slice (some ⟨jb i, 0, none⟩) p.length p.length) := by
  have := M.tab.cell (i := 2 + i) (by omega)
  rw [if_neg (by omega), if_neg (by omega), if_pos (by omega), show 2 + i - 2 = i from by omega] at this
  exact this
theorem Making.tabAt {w : World} {b db : Nat} {jb : Nat → Nat} {p : List Int} (M : Making w b db 13 jb p) (F : Tree p) (hs : p.length ≤ 8192) : TabAt w w.heap.size b p where
  tree := F
  small := hs
  lt := M.tab.lt
  made := M.tab.cell (i := 0) (by omega)
  dep := ⟨db, M.dep.lt, M.tab.cell (i := 1) (by omega), fun i hi => M.dep.cell hi⟩
  jmp := ⟨jb, fun j hj => ⟨(M.jmp j hj).lt, by
    have := M.tab.cell (i := 2 + j) (by omega)
    rw [if_neg (by omega), if_neg (by omega), if_pos (by omega), show 2 + j - 2 = j from by omega] at this
    exact this, fun i hi => (M.jmp j hj).cell hi⟩⟩

/-- what holds in every world that has the same blocks from base on -/
def Held (base : Nat) (w : World) (P : World → Prop) : Prop := ∀ W : World, (∀ j, base ≤ j → j < w.heap.size → W.heap[j]? = w.heap[j]?) → P W
theorem Held.self {base : Nat} {w : World} {P : World → Prop} (h : Held base w P) : P w := h w fun _ _ _ => rfl
theorem Held.lower {base base' : Nat} {w : World} {P : World → Prop} (h : Held base w P) (hb : base' ≤ base) : Held base' w P := fun W hW => h W fun j h1 h2 => hW j (Nat.le_trans hb h1) h2
theorem Making.held {w : World} {b db lo : Nat} {jb : Nat → Nat} {p : List Int} (M : Making w b db 13 jb p) (F : Tree p) (hs : p.length ≤ 8192) (h1 : lo ≤ b) (h2 : lo ≤ db) (h3 : ∀ i, i < 13 → lo ≤ jb i) : Held lo w fun W => TabAt W w.heap.size b p := fun W hW =>
  have M' : Making W b db 13 jb p := ⟨M.tab.of_block (hW b h1 M.tab.lt), M.dep.of_block (hW db h2 M.dep.lt), fun i hi => (M.jmp i hi).of_block (hW _ (h3 i hi) (M.jmp i hi).lt)⟩
  { tree := F
    small := hs
    lt := M.tab.lt
    made := M'.tab.cell (i := 0) (by omega)
    dep := ⟨db, M.dep.lt, M'.tab.cell (i := 1) (by omega), fun i hi => M'.dep.cell hi⟩
    jmp := ⟨jb, fun j hj => ⟨(M.jmp j hj).lt, by
      have := M'.tab.cell (i := 2 + j) (by omega)
      rw [if_neg (by omega), if_neg (by omega), if_pos (by omega), show 2 + j - 2 = j from by omega] at this
      exact this, fun i hi => (M'.jmp j hj).cell hi⟩⟩ }

set_option maxRecDepth 100000 in
set_option maxHeartbeats 4000000 in
theorem new_in (B : Nat) (a : Option Addr) (cap : Nat) (A : Nat → Addr) (p : List Int) (w : World) (hp : p.length ≤ 8192) (hR : InRange p) (hS : Sl 37 .i64 w B (.slice a p.length cap) p A) (hB : B ≤ w.heap.size) :
    Calls Tryz.prog 47 #[.slice a p.length cap] w fun e w' => Below w.heap.size w w' ∧ ((treeB p = false ∧ e = .returned (.tuple #[.pointer none, .int .i64 9])) ∨ (treeB p = true ∧ ∃ b, e = .returned (.tuple #[.pointer (some ⟨b, 0, none⟩), .int .i64 0]) ∧ Held w.heap.size w' fun W => TabAt W w'.heap.size b p)) := by
  have hmk2 := run_make_row' (P := Tryz.prog) 37 3 (.int .i64 0) 8 Tryz.underlying37 Tryz.infoI rfl .i64 .i64 p.length (by omega) (by omega)
  have HR := Lib.hid hR
  clear hR
  go_enter Tryz.func47, Tryz.ntmps47
  go_wp2_with fail
  go_loop [19] (fun i => ∃ k : Nat, k ≤ p.length ∧ i = .int .i64 k) (fun i => p.length - (intOf i).toNat)
  case atStart => exact ⟨0, Nat.zero_le _, rfl⟩
  case round =>
    obtain ⟨k, hk, rfl⟩ := hrel
    by_cases hlt : k < p.length
    · have hix := hS.ix k hlt
      have hc := Sl.at hS hlt
      have h1 := HR.out k hlt
      go_wp2_with fail
      go_round
      case rel => exact ⟨k + 1, by omega, by go_num⟩
      case measure => simp [intOf]; omega
    · obtain rfl : k = p.length := by omega
      go_wp2_with fail
      refine (depths_any B a cap A p w (by omega) HR.out hS hB).mono ?_
      rintro e w1 ⟨D, ok, db, rfl, hdb, hD, hB1, ho1, ho2⟩
      have hB1s := hB1.size
      have hdbl := hD.lt
      cases ok with
      | false =>
        have hT : treeB p = false := by
          cases h : treeB p with
          | false => rfl
          | true => exact absurd (ho2 (tree_of_B h)) (by simp)
        have HT := Lib.hid hT
        clear hT ho1 ho2
        go_wp2_with fail
        go_ret2
        exact ⟨hB1, .inl ⟨HT.out, rfl⟩⟩
      | true =>
        have F := ho1 rfl
        have hT : Tree p := F.tree
        have hdp := hD.congr (g := fun i => nat64 (dp p i)) (fun i hi => by rw [dp_eq F hi])
        have HT := Lib.hid hT
        clear ho1 ho2 hD F hT
        go_wp2_with fail
        have hM0 := Making.start (w := w1) (db := db) (p := p) (fun _ => 0) hdp
        have hBW : Below w.heap.size w (w1.alloc (.cells #[.bool true, .slice (some ⟨db, 0, none⟩) p.length p.length, .slice none 0 0, .slice none 0 0, .slice none 0 0, .slice none 0 0, .slice none 0 0, .slice none 0 0, .slice none 0 0, .slice none 0 0, .slice none 0 0, .slice none 0 0, .slice none 0 0, .slice none 0 0, .slice none 0 0] 110)) := hB1.alloc hB1s _
        have hsW : (w1.alloc (.cells #[.bool true, .slice (some ⟨db, 0, none⟩) p.length p.length, .slice none 0 0, .slice none 0 0, .slice none 0 0, .slice none 0 0, .slice none 0 0, .slice none 0 0, .slice none 0 0, .slice none 0 0, .slice none 0 0, .slice none 0 0, .slice none 0 0, .slice none 0 0, .slice none 0 0] 110)).heap.size = w1.heap.size + 1 := by simp
        generalize (w1.alloc (.cells #[.bool true, .slice (some ⟨db, 0, none⟩) p.length p.length, .slice none 0 0, .slice none 0 0, .slice none 0 0, .slice none 0 0, .slice none 0 0, .slice none 0 0, .slice none 0 0, .slice none 0 0, .slice none 0 0, .slice none 0 0, .slice none 0 0, .slice none 0 0, .slice none 0 0] 110)) = W0 at *
        clear hdp hB1
        generalize w1.heap.size = b at *
        go_loopw [41] (fun j wr => ∃ (k : Nat) (jb : Nat → Nat), k ≤ 13 ∧ j = .int .i64 k ∧ Making wr b db k jb p ∧ Below w.heap.size w wr ∧ b < wr.heap.size ∧ ∀ i, i < k → b < jb i) (fun j _ => 13 - (intOf j).toNat)
        case atStart => exact ⟨0, _, by omega, rfl, hM0, hBW, by omega, fun i hi => absurd hi (by omega)⟩
        case round =>
          clear hM0 hBW hsW
          obtain ⟨k, jb, hk, rfl, hM, hBr, hbr, hjb⟩ := hrel
          by_cases hlt : k < 13
          · have hki : (0 : Int) ≤ k ∧ (k : Int) < 13 := by omega
            have hca : ∀ o, (wr.alloc o).cell? ⟨b, 2 + k, none⟩ = some (.slice none 0 0) := fun o => by
              have := (hM.tab.alloc o).cell (i := 2 + k) (by omega)
              rw [if_neg (by omega), if_neg (by omega), if_neg (by omega)] at this; exact this
            have hfa : ∀ o, (wr.alloc o).frozen? ⟨b, 2 + k, none⟩ = false := fun o => (hM.tab.alloc o).frozen _
            go_wp2_with fail
            go_region
            go_wp2_with fail
            have hH0 := Half.start hM hlt hdbl hbr hjb
            have hBn : Below w.heap.size w ((wr.setCell ⟨b, 2 + k, none⟩ (.slice (some ⟨wr.heap.size, 0, none⟩) p.length p.length)).alloc (.cells (madeCells #[.int .i64 0] p.length) 3)).drew := ((hBr.setCell (p := ⟨b, 2 + k, none⟩) hB1s _).alloc (by rw [World.size_setCell]; exact hBr.size) _).drew
            have hsn : ((wr.setCell ⟨b, 2 + k, none⟩ (.slice (some ⟨wr.heap.size, 0, none⟩) p.length p.length)).alloc (.cells (madeCells #[.int .i64 0] p.length) 3)).drew.heap.size = wr.heap.size + 1 := by simp
            generalize ((wr.setCell ⟨b, 2 + k, none⟩ (.slice (some ⟨wr.heap.size, 0, none⟩) p.length p.length)).alloc (.cells (madeCells #[.int .i64 0] p.length) 3)).drew = W1 at *
            generalize hjbe : (fun i => if i = k then wr.heap.size else jb i) = jc at *
            have hjck : jc k = wr.heap.size := by rw [← hjbe]; simp
            have HJ := Lib.hid hjck
            clear hjck hjbe hM hca hfa hBr
            generalize wr.heap.size = J at *
            clear hjb
            obtain ⟨wo, rfl⟩ : ∃ wo : World, wo = wr := ⟨_, rfl⟩
            go_loopw [52] (fun vv wx => ∃ v : Nat, v ≤ p.length ∧ vv = .int .i64 v ∧ Half wx b db k v jc p ∧ Below w.heap.size w wx ∧ b < wx.heap.size) (fun vv _ => p.length - (intOf vv).toNat)
            case atStart => exact ⟨0, by omega, rfl, hH0, hBn, by omega⟩
            case round =>
              clear hH0 hBn hsn
              obtain ⟨v, hv, rfl, hH, hBx, hbx⟩ := hrel
              by_cases hvl : v < p.length
              · have hvi : (0 : Int) ≤ v ∧ (v : Int) < p.length := by omega
                have hsk := hH.slot (i := k) (by omega) hlt
                have hst := hH.cur.cell hvl
                have hsf := hH.cur.frozen v
                rw [HJ.out] at hsk hst hsf
                cases k with
                | zero =>
                  have hix := hS.ix v hvl
                  have hcv := Sl.at (hS.below (hBx.mono hB)) hvl
                  have hs0 : wr.cell? ⟨b, 2, none⟩ = some (.slice (some ⟨J, 0, none⟩) p.length p.length) := hsk
                  have hval := nth_pa hvl HR.out
                  have HV := Lib.hid hval
                  clear hval
                  go_wp2_with fail
                  go_region
                  go_wp2_with fail
                  go_roundw
                  case rel => exact ⟨v + 1, by omega, by go_num, by have h1 := (hH.store (x := nth p v) HV.out).drew; rw [HJ.out] at h1; exact h1, (hBx.setCell (p := ⟨J, v, none⟩) (by have := hB1s; show _ ≤ J; omega) _).drew, by simp; omega⟩
                  case measure => simp [intOf]; omega
                | succ k' =>
                  have hk0 : ((((k' + 1 : Nat) : Int)) == 0) = false := by simp; omega
                  have hsp := hH.slot (i := k') (by omega) hlt
                  have hki2 : (0 : Int) ≤ k' ∧ (k' : Int) < 13 := by omega
                  have hcp := (hH.jmp k' (by omega)).cell hvl
                  have hgen : ∀ (x : Int), x = oi (anc p (2 ^ (k' + 1)) v) → Half (wr.setCell ⟨J, v, none⟩ (.int .i64 x)) b db (k' + 1) (v + 1) jc p := fun x hx => by
                    have h1 := hH.store hx; rw [HJ.out] at h1; exact h1
                  have HG := Lib.hid hgen
                  clear hgen
                  cases hm : anc p (2 ^ k') v with
                  | none =>
                    have hval : (-1 : Int) = oi (anc p (2 ^ (k' + 1)) v) := by rw [Nat.pow_succ, Nat.mul_two, anc_add, hm]; rfl
                    rw [hm] at hcp
                    replace hcp : wr.cell? ⟨jc k', v, none⟩ = some (.int .i64 (-1)) := hcp
                    have HV := Lib.hid hval
                    clear hval hm
                    go_wp2_with fail
                    go_roundw
                    case rel => exact ⟨v + 1, by omega, by go_num, HG.out _ HV.out, hBx.setCell (p := ⟨J, v, none⟩) (by have := hB1s; show _ ≤ J; omega) _, by simp; omega⟩
                    case measure => simp [intOf]; omega
                  | some m =>
                    have hml := anc_lt HT.out hvl hm
                    have hmi : (0 : Int) ≤ m ∧ (m : Int) < p.length := by omega
                    have hcm := (hH.jmp k' (by omega)).cell hml
                    have hval : oi (anc p (2 ^ k') m) = oi (anc p (2 ^ (k' + 1)) v) := by rw [Nat.pow_succ, Nat.mul_two, anc_add, hm]; rfl
                    rw [hm] at hcp
                    replace hcp : wr.cell? ⟨jc k', v, none⟩ = some (.int .i64 m) := hcp
                    have HV := Lib.hid hval
                    clear hval hm
                    go_wp2_with fail
                    go_roundw
                    case rel => exact ⟨v + 1, by omega, by go_num, HG.out _ HV.out, hBx.setCell (p := ⟨J, v, none⟩) (by have := hB1s; show _ ≤ J; omega) _, by simp; omega⟩
                    case measure => simp [intOf]; omega
              · obtain rfl : v = p.length := by omega
                go_wp2_with fail
                go_roundw
                case rel => exact ⟨k + 1, jc, by omega, by go_num, hH.done, hBx, hbx, hH.b_jb⟩
                case measure => simp [intOf]; omega
          · obtain rfl : k = 13 := by omega
            go_wp2_with fail
            go_ret2
            exact ⟨hBr, .inr ⟨treeB_iff.2 HT.out, b, rfl, hM.held HT.out hp hB1s hdb fun i hi => Nat.le_trans hB1s (Nat.le_of_lt (hjb i hi))⟩⟩
end Go.Proofs.YtibdggbejogciaaGreat
