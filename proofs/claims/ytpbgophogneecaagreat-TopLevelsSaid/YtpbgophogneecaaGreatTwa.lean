/- Plain mathematics of the sizes of classes as a list of counted numbers. No program. -/
import Derived.Test.YtpbgophogneecaaGreatTlb
import Derived.Test.YtpbgophogneecaaGreatDsa
import Derived.RangeFuncNested
import Derived.Handy
namespace Go.Proofs.YtpbgophogneecaaGreat

/-- the sizes of the classes -/
def szsL (n : Nat) (lab : Nat → Nat) : List Int := (lbL lab n).map fun j => ((clsN n lab j : Nat) : Int)
theorem Rep.key {L : List (Int × Nat)} {M : List Int} (h : Rep L M) {p : Int × Nat} (hp : p ∈ L) : p.1 ∈ M ∧ getC L p.1 = p.2 := by
  have hg : getC L p.1 = p.2 := by
    obtain ⟨A, B, rfl⟩ := List.append_of_mem hp
    obtain ⟨_, h2, h3⟩ := List.pairwise_append.1 h.srt
    rw [getC_app fun q hq => by have := h3 q hq p (by simp); omega, getC, if_pos rfl]
  refine ⟨List.count_pos_iff.1 ?_, hg⟩
  rw [← h.cnt, hg]
  exact h.pos p hp
theorem Rep.has {L : List (Int × Nat)} {M : List Int} (h : Rep L M) {m : Int} (hm : m ∈ M) : ∃ p ∈ L, p.1 = m := by
  refine Classical.byContradiction fun c => ?_
  have h0 : getC L m = 0 := getC_none fun q hq e => c ⟨q, hq, e⟩
  rw [h.cnt] at h0
  have := List.count_pos_iff.2 hm
  omega
theorem fold_ge {n : Nat} {lab : Nat → Nat} : ∀ (l : List Nat) (a : Nat), a ≤ l.foldl (fun a j => max a (clsN n lab j)) a ∧ ∀ j ∈ l, clsN n lab j ≤ l.foldl (fun a j => max a (clsN n lab j)) a
  | [], a => ⟨Nat.le_refl _, fun j hj => by simp at hj⟩
  | i :: l, a => by
    obtain ⟨h1, h2⟩ := fold_ge (n := n) (lab := lab) l (max a (clsN n lab i))
    rw [List.foldl_cons]
    refine ⟨by omega, fun j hj => ?_⟩
    rcases List.mem_cons.1 hj with rfl | hj
    · omega
    · exact h2 j hj
theorem fold_le {n : Nat} {lab : Nat → Nat} {B : Nat} : ∀ (l : List Nat) (a : Nat), a ≤ B → (∀ j ∈ l, clsN n lab j ≤ B) → l.foldl (fun a j => max a (clsN n lab j)) a ≤ B
  | [], a, h, _ => h
  | i :: l, a, h, hl => by
    rw [List.foldl_cons]
    exact fold_le l _ (by have := hl i (by simp); omega) fun j hj => hl j (by simp [hj])
theorem Rep.top {n : Nat} {lab : Nat → Nat} {L : List (Int × Nat)} (h : Rep L (szsL n lab)) (hn : lbL lab n ≠ []) : kthL L (szL L - 1) = (lgN n lab (lbL lab n) : Nat) ∧ 0 < szL L := by
  obtain ⟨j, l, hj⟩ := List.exists_cons_of_ne_nil hn
  have hm : ((clsN n lab j : Nat) : Int) ∈ szsL n lab := List.mem_map.2 ⟨j, by rw [hj]; simp, rfl⟩
  obtain ⟨p0, hp0, _⟩ := h.has hm
  have hL : L ≠ [] := fun e => by rw [e] at hp0; simp at hp0
  obtain ⟨A, p, rfl⟩ : ∃ A p, L = A ++ [p] := ⟨L.dropLast, L.getLast hL, (List.dropLast_concat_getLast hL).symm⟩
  have hp := h.pos p (by simp)
  rw [kthL_last hp]
  obtain ⟨hk, _⟩ := h.key (p := p) (by simp)
  obtain ⟨i, hi, he⟩ := List.mem_map.1 hk
  have hmax : ∀ j ∈ lbL lab n, clsN n lab j ≤ clsN n lab i := fun j hj => by
    obtain ⟨q, hq, e⟩ := h.has (List.mem_map.2 ⟨j, hj, rfl⟩)
    have hqp : q.1 ≤ p.1 := by
      rcases List.mem_append.1 hq with hq | hq
      · exact Int.le_of_lt ((List.pairwise_append.1 h.srt).2.2 q hq p (by simp))
      · rw [List.mem_singleton.1 hq]; exact Int.le_refl _
    try dsimp only at e he
    omega
  have h1 := (fold_ge (n := n) (lab := lab) (lbL lab n) 0).2 i hi
  have h2 := fold_le (lbL lab n) 0 (Nat.zero_le _) hmax
  refine ⟨?_, by rw [szL_app, szL_cons]; omega⟩
  rw [← he]
  unfold lgN
  omega
theorem Rep.sq {n : Nat} {lab : Nat → Nat} {L : List (Int × Nat)} (h : Rep L (szsL n lab)) : sqC L = sqN n lab (lbL lab n) := by
  have h1 := h.sum fun x => x * x
  have h2 : ∀ L : List (Int × Nat), (∀ p ∈ L, 0 ≤ p.1) → (L.map fun p => (p.2 : Int) * (p.1 * p.1)).sum = (sqC L : Nat) := fun L => by
    induction L with
    | nil => intro _; rfl
    | cons p L ih =>
      intro hp
      rw [List.map_cons, List.sum_cons, ih fun q hq => hp q (by simp [hq]), sqC_cons]
      have := hp p (by simp)
      obtain ⟨k, hk⟩ : ∃ k : Nat, p.1 = k := ⟨p.1.toNat, by omega⟩
      rw [hk, Int.toNat_natCast]; simp
  have h3 : ∀ l : List Nat, ((l.map fun j => ((clsN n lab j : Nat) : Int)).map fun x => x * x).sum = (sqN n lab l : Nat) := fun l => by
    induction l with
    | nil => rfl
    | cons j l ih =>
      rw [List.map_cons, List.map_cons, List.sum_cons, ih]
      unfold sqN
      rw [List.map_cons, List.sum_cons]; simp
  have h4 := h3 (lbL lab n)
  rw [h2 L fun p hp => by
    obtain ⟨hk, _⟩ := h.key hp
    obtain ⟨i, hi, he⟩ := List.mem_map.1 hk
    try dsimp only at he
    omega] at h1
  have h5 : ((sqC L : Nat) : Int) = (sqN n lab (lbL lab n) : Nat) := h1.trans h4
  omega
theorem Rep.size {n : Nat} {lab : Nat → Nat} {L : List (Int × Nat)} (h : Rep L (szsL n lab)) : szL L = cntN n lab := by
  rw [h.len]; unfold szsL; rw [List.length_map, lbL_len]
theorem len_szL {L : List (Int × Nat)} (h : PosC L) : L.length ≤ szL L := by
  induction L with
  | nil => exact Nat.zero_le _
  | cons p L ih =>
    have h1 := h p (by simp)
    have h2 := ih fun q hq => h q (by simp [hq])
    rw [szL_cons, List.length_cons]; omega
theorem Rep.sml {n : Nat} {lab : Nat → Nat} {L : List (Int × Nat)} (h : Rep L (szsL n lab)) (hn : n ≤ 10000) : SmlC L := fun p hp => by
  obtain ⟨hk, hg⟩ := h.key hp
  obtain ⟨i, hi, he⟩ := List.mem_map.1 hk
  have h1 := clsN_le n lab i
  have h2 : getC L p.1 ≤ szL L := by have := setC_sz (x := p.1) (k := 0) h.srt; omega
  have h3 := cntN_le n lab
  rw [h.size, hg] at h2
  try dsimp only at he
  omega
theorem lbL_nd (lab : Nat → Nat) (n : Nat) : (lbL lab n).Nodup := List.Pairwise.filter _ List.nodup_range
theorem lbL_mem {lab : Nat → Nat} {n j : Nat} : j ∈ lbL lab n ↔ j < n ∧ lab j = j := by unfold lbL; rw [List.mem_filter, List.mem_range]; simp
/-- two classes become one -/
theorem szs_join {n : Nat} {lab : Nat → Nat} (K : LabOk lab) {x y : Nat} (hy : y < n) (hxy : x < y) (rx : lab x = x) (ry : lab y = y) :
    ∃ R, (szsL n lab).Perm (((clsN n lab x : Nat) : Int) :: ((clsN n lab y : Nat) : Int) :: R) ∧ (szsL n (joinF lab x y)).Perm ((((clsN n lab x + clsN n lab y : Nat)) : Int) :: R) := by
  have hne : lab x ≠ lab y := by omega
  have hj : ∀ i, joinF lab x y i = if lab i = y then x else lab i := fun i => by
    unfold joinF
    rw [rx, ry, Nat.max_eq_right (by omega), Nat.min_eq_left (by omega)]
  have hr : ∀ i, joinF lab x y i = i ↔ lab i = i ∧ i ≠ y := fun i => by
    rw [hj]
    by_cases c : lab i = y
    · rw [if_pos c]
      constructor
      · intro e; rw [← e, rx] at c; omega
      · rintro ⟨h1, h2⟩; omega
    · rw [if_neg c]
      constructor
      · intro e; exact ⟨e, fun h => c (by omega)⟩
      · exact fun h => h.1
  let R0 := (lbL lab n).filter fun j => decide (j ≠ x ∧ j ≠ y)
  have n0 : R0.Nodup := List.Pairwise.filter _ (lbL_nd lab n)
  have m0 : ∀ j, j ∈ R0 ↔ (j < n ∧ lab j = j) ∧ j ≠ x ∧ j ≠ y := fun j => by
    show j ∈ (lbL lab n).filter _ ↔ _
    rw [List.mem_filter, lbL_mem]; simp
  have p1 : (lbL lab n).Perm (x :: y :: R0) := (List.perm_ext_iff_of_nodup (lbL_nd _ _) (List.nodup_cons.2 ⟨fun c => by
      rcases List.mem_cons.1 c with c | c
      · omega
      · exact ((m0 x).1 c).2.1 rfl, List.nodup_cons.2 ⟨fun c => ((m0 y).1 c).2.2 rfl, n0⟩⟩)).2 fun j => by
    rw [lbL_mem, List.mem_cons, List.mem_cons, m0]
    constructor
    · intro h
      by_cases c1 : j = x
      · exact .inl c1
      · by_cases c2 : j = y
        · exact .inr (.inl c2)
        · exact .inr (.inr ⟨h, c1, c2⟩)
    · rintro (rfl | rfl | h)
      · exact ⟨by omega, rx⟩
      · exact ⟨hy, ry⟩
      · exact h.1
  have p2 : (lbL (joinF lab x y) n).Perm (x :: R0) := (List.perm_ext_iff_of_nodup (lbL_nd _ _) (List.nodup_cons.2 ⟨fun c => ((m0 x).1 c).2.1 rfl, n0⟩)).2 fun j => by
    rw [lbL_mem, hr, List.mem_cons, m0]
    constructor
    · rintro ⟨h1, h2, h3⟩
      by_cases c1 : j = x
      · exact .inl c1
      · exact .inr ⟨⟨h1, h2⟩, c1, h3⟩
    · rintro (rfl | h)
      · exact ⟨by omega, rx, by omega⟩
      · exact ⟨h.1.1, h.1.2, h.2.2⟩
  refine ⟨R0.map fun j => ((clsN n lab j : Nat) : Int), ?_, ?_⟩
  · exact (p1.map _).trans (by simp)
  · refine (p2.map _).trans ?_
    rw [List.map_cons, clsN_join K hne x (.inl rfl), List.map_congr_left fun j hj => by
      have := (m0 j).1 hj
      rw [clsN_other K (by rw [rx]; omega) (by rw [ry]; omega)]]
theorem szs_id (n : Nat) : szsL n id = List.replicate n 1 := by
  unfold szsL
  rw [List.eq_replicate_iff]
  refine ⟨by rw [List.length_map, show lbL id n = List.range n from List.filter_eq_self.2 (fun a _ => by simp), List.length_range], fun z hz => ?_⟩
  obtain ⟨j, hj, rfl⟩ := List.mem_map.1 hz
  rw [clsN_id (lbL_mem.1 hj).1]; rfl
end Go.Proofs.YtpbgophogneecaaGreat

/- The walks of Least and Count of package dsu. Conditions: the sets were made by New; elements in range. -/
namespace Go.Proofs.YtpbgophogneecaaGreat
open Go.RowKit

set_option maxRecDepth 100000 in
set_option maxHeartbeats 4000000 in
theorem dleast_any (base : Zone) (b n : Nat) (lab : Nat → Nat) (a : Nat) (w : World) (hD : DS w base b n lab) (ha : a < n) :
    Calls Tryz.prog 57 #[.pointer (some ⟨b, 0, none⟩), .int .i64 (a : Nat)] w fun e w' => e = .returned (.tuple #[.int .i64 (lab a : Nat), .int .i64 0]) ∧ DS w' base b n lab ∧ Inner base w w' := by
  obtain ⟨ub, lb, sb, up, ls, sz, h, H, hM, hU, hK, hls⟩ := hD
  have c0 : w.cell? ⟨b, 0, none⟩ = some (.pointer (some ⟨b, 0, none⟩)) := hM.st.cell (i := 0) (by omega)
  have c1 : w.cell? ⟨b, 1, none⟩ = some (.slice (some ⟨ub, 0, none⟩) n n) := hM.st.cell (i := 1) (by omega)
  have c2 : w.cell? ⟨b, 2, none⟩ = some (.slice (some ⟨lb, 0, none⟩) n n) := hM.st.cell (i := 2) (by omega)
  have HV := Lib.hid (dvalid_is b w c0)
  have HA := Lib.hid (dhas_is b ub n a n w c0 c1 ha)
  have HR := Lib.hid (droot_any base b ub lb sb n (cntN n lab) up ls sz lab h H a w.drew hM.drew hU ha)
  have HK := Lib.hid hK; have HLS := Lib.hid hls
  clear hM hU hK hls c1
  go_enter Tryz.func57, Tryz.ntmps57
  go_wp2_with fail
  refine HV.out.mono ?_
  rintro e w' ⟨rfl, rfl⟩
  go_wp2_with fail
  refine HA.out.mono ?_
  rintro e w' ⟨rfl, rfl⟩
  clear HV HA c0
  go_wp2_with fail
  refine region_plain (fun w' => w'.cell? ⟨b, 2, none⟩ = some (.slice (some ⟨lb, 0, none⟩) n n)) (by kernel_rfl) ?_
  have HS : w.drew.cell? ⟨b, 2, none⟩ = some (.slice (some ⟨lb, 0, none⟩) n n) := c2
  refine take_at (i := 0) (d := 13) (v := ?_) rfl rfl (by kernel_rfl) (by kernel_rfl) (by kernel_rfl) (fun _ _ _ _ => NormalOnly.any) rfl ?hy1 HS ?rest1
  case hy1 => intro w' hSw; (try dsimp only at hSw); go_simp; try (with_reducible rfl)
  try simp only [List.setIfInBounds_toArray, List.set_cons_zero, List.set_cons_succ]
  refine take_at (i := 1) (d := 14) (v := ?_) rfl rfl (by kernel_rfl) (by kernel_rfl) (by kernel_rfl) (fun _ _ _ _ => NormalOnly.any) rfl ?hy2 HS ?rest2
  case hy2 => intro w' hSw; (try dsimp only at hSw); go_simp; try (with_reducible rfl)
  try simp only [List.setIfInBounds_toArray, List.set_cons_zero, List.set_cons_succ]
  refine take_at (i := 2) (d := 15) (v := ?_) rfl rfl (by kernel_rfl) (by kernel_rfl) (by kernel_rfl) (fun _ _ _ _ => NormalOnly.any) rfl ?hy3 HS ?rest3
  case hy3 => intro w' hSw; (try dsimp only at hSw); go_simp; try (with_reducible rfl)
  try simp only [List.setIfInBounds_toArray, List.set_cons_zero, List.set_cons_succ]
  refine take_at (i := 3) (d := 16) (v := ?_) rfl rfl (by kernel_rfl) (by kernel_rfl) (by kernel_rfl) (fun _ _ _ _ => NormalOnly.any) rfl ?hy4 HS ?rest4
  case hy4 => intro w' hSw; (try dsimp only at hSw); go_simp; try (with_reducible rfl)
  try simp only [List.setIfInBounds_toArray, List.set_cons_zero, List.set_cons_succ]
  refine take_at (i := 4) (d := 17) (v := ?_) rfl rfl (by kernel_rfl) (by kernel_rfl) (by kernel_rfl) (fun _ _ _ _ => NormalOnly.any) rfl ?hy5 HS ?rest5
  case hy5 => intro w' hSw; (try dsimp only at hSw); go_simp; try (with_reducible rfl)
  try simp only [List.setIfInBounds_toArray, List.set_cons_zero, List.set_cons_succ]
  refine take_at (i := 5) (d := 18) (v := ?_) rfl rfl (by kernel_rfl) (by kernel_rfl) (by kernel_rfl) (fun _ _ _ _ => NormalOnly.any) rfl ?hy6 HS ?rest6
  case hy6 => intro w' hSw; (try dsimp only at hSw); go_simp; try (with_reducible rfl)
  try simp only [List.setIfInBounds_toArray, List.set_cons_zero, List.set_cons_succ]
  refine wpAnyH_ready (rs := [6]) (by kernel_rfl) (by simp) ?_
  refine AllReadyH.cons rfl (fun K hK => ?_) AllReadyH.nil
  go_simp
  refine HR.out.mono ?_
  rintro e w1 ⟨r, up', rfl, hr, hur, hlr, hM1, hU1, hiff, hin⟩
  have HS : w1.cell? ⟨b, 2, none⟩ = some (.slice (some ⟨lb, 0, none⟩) n n) := hM1.st.cell (i := 2) (by omega)
  refine hK.out _ _ HS (fun _ => ?_)
  clear hK
  have hlsr := (HLS.out r hr ((hiff r hr).1 hur)).1
  have cr : w1.cell? ⟨lb, r, none⟩ = some (.int .i64 (lab a : Nat)) := by
    rw [hM1.rls.cell hr]; unfold natC; rw [hlsr, hlr]
  have hri : (0 : Int) ≤ r ∧ (r : Int) < n := by omega
  have HF := Lib.hid (And.intro (show DS w1 base b n lab from ⟨ub, lb, sb, up', ls, sz, h, H, hM1, hU1, HK.out, fun i hi hu => HLS.out i hi ((hiff i hi).1 hu)⟩) ((Inner.refl base w).drew.trans hin))
  clear hM1 hU1 hiff hin hlsr hlr hur HLS HK HR c2
  refine take_at (i := 7) (d := 20) (v := ?_) rfl rfl (by kernel_rfl) (by kernel_rfl) (by kernel_rfl) (fun _ _ _ _ => NormalOnly.any) rfl ?hy7 HS ?rest7
  case hy7 => intro w' hSw; (try dsimp only at hSw); go_simp; try (with_reducible rfl)
  try simp only [List.setIfInBounds_toArray, List.set_cons_zero, List.set_cons_succ]
  refine wpAnyH_ready (rs := [8]) (by kernel_rfl) (by simp) ?_
  refine AllReadyH.cons rfl (fun K hK => ?_) AllReadyH.nil
  go_simp
  refine hK.out _ _ HS (fun _ => ?_)
  clear hK
  refine take_at (i := 9) (d := 4) (v := ?_) rfl rfl (by kernel_rfl) (by kernel_rfl) (by kernel_rfl) (fun _ _ _ _ => NormalOnly.any) rfl ?hy8 HS ?rest8
  case hy8 => intro w' hSw; (try dsimp only at hSw); go_simp; try (with_reducible rfl)
  try simp only [List.setIfInBounds_toArray, List.set_cons_zero, List.set_cons_succ]
  refine take_at (i := 10) (d := 5) (v := ?_) rfl rfl (by kernel_rfl) (by kernel_rfl) (by kernel_rfl) (fun _ _ _ _ => NormalOnly.any) rfl ?hy9 HS ?rest9
  case hy9 => intro w' hSw; (try dsimp only at hSw); go_simp; try (with_reducible rfl)
  try simp only [List.setIfInBounds_toArray, List.set_cons_zero, List.set_cons_succ]
  refine wpAnyH_done (by kernel_rfl) ⟨rfl, ?_⟩ _
  go_wp2_with fail
  go_ret2
  exact ⟨rfl, HF.out.1, HF.out.2⟩
set_option maxRecDepth 100000 in
set_option maxHeartbeats 1000000 in
theorem dcount_any (base : Zone) (b n : Nat) (lab : Nat → Nat) (w : World) (hD : DS w base b n lab) :
    Calls Tryz.prog 61 #[.pointer (some ⟨b, 0, none⟩)] w fun e w' => e = .returned (.int .i64 (cntN n lab : Nat)) ∧ w = w' := by
  obtain ⟨ub, lb, sb, up, ls, sz, h, H, hM, hU, hK, hls⟩ := hD
  have c0 : w.cell? ⟨b, 0, none⟩ = some (.pointer (some ⟨b, 0, none⟩)) := hM.st.cell (i := 0) (by omega)
  have c4 : w.cell? ⟨b, 4, none⟩ = some (.int .i64 (cntN n lab : Nat)) := hM.st.cell (i := 4) (by omega)
  have HV := Lib.hid (dvalid_is b w c0)
  clear hM hU hK hls c0
  go_enter Tryz.func61, Tryz.ntmps61
  go_wp2_with fail
  refine HV.out.mono ?_
  rintro e w' ⟨rfl, rfl⟩
  go_wp2_with fail
  go_ret
  exact ⟨rfl, rfl⟩
end Go.Proofs.YtpbgophogneecaaGreat

/- The tally of package tally in memory; the walk of Union. Conditions: the tally was made by Even; elements in range. -/
namespace Go.Proofs.YtpbgophogneecaaGreat
open Go.RowKit

/-- the cells of a tally -/
def talV (tb db wb bb n : Nat) : Array Value := #[.pointer (some ⟨tb, 0, none⟩), .pointer (some ⟨db, 0, none⟩), .slice (some ⟨wb, 0, none⟩) n n, .pointer (some ⟨bb, 0, none⟩)]
/-- the parts of a tally -/
structure TalQ (w : World) (z : Zone) (tb db wb bb n : Nat) (lab W : Nat → Nat) (t : Tn) : Prop where
  ds : DS w z db n lab
  row : Row w tb 4 (fun i => (talV tb db wb bb n).getD i undef)
  wt : Row w wb n (natC W)
  bag : BagAt w bb t
  hi : z.high ≤ w.heap.size
  lo : z.low ≤ z.high ∧ z.high ≤ tb ∧ z.high ≤ wb ∧ z.high ≤ bb ∧ (∀ j ∈ t.bl, z.high ≤ j)
  ne : tb ≠ wb ∧ tb ≠ bb ∧ wb ≠ bb ∧ tb ∉ t.bl ∧ wb ∉ t.bl
section
variable {w w' : World} {z : Zone} {tb db wb bb n : Nat} {lab W : Nat → Nat} {t : Tn}
theorem TalQ.c0 (h : TalQ w z tb db wb bb n lab W t) : w.cell? ⟨tb, 0, none⟩ = some (.pointer (some ⟨tb, 0, none⟩)) := h.row.cell (i := 0) (by omega)
theorem TalQ.c1 (h : TalQ w z tb db wb bb n lab W t) : w.cell? ⟨tb, 1, none⟩ = some (.pointer (some ⟨db, 0, none⟩)) := h.row.cell (i := 1) (by omega)
theorem TalQ.c2 (h : TalQ w z tb db wb bb n lab W t) : w.cell? ⟨tb, 2, none⟩ = some (.slice (some ⟨wb, 0, none⟩) n n) := h.row.cell (i := 2) (by omega)
theorem TalQ.c3 (h : TalQ w z tb db wb bb n lab W t) : w.cell? ⟨tb, 3, none⟩ = some (.pointer (some ⟨bb, 0, none⟩)) := h.row.cell (i := 3) (by omega)
theorem TalQ.drew (h : TalQ w z tb db wb bb n lab W t) : TalQ w.drew z tb db wb bb n lab W t :=
  ⟨h.ds.drew, h.row.of_block rfl, h.wt.of_block rfl, h.bag.keep fun _ _ => rfl, h.hi, h.lo, h.ne⟩
theorem TalQ.dn (h : TalQ w z tb db wb bb n lab W t) (q : Nat) : TalQ (w.drewN q) z tb db wb bb n lab W t :=
  ⟨h.ds.below (below_drewN (Below.refl _ w) q), h.row.of_block (by simp), h.wt.of_block (by simp), h.bag.dn q, by simpa using h.hi, h.lo, h.ne⟩
/-- the sets alone have turned -/
theorem TalQ.inner {lab' : Nat → Nat} (h : TalQ w z tb db wb bb n lab W t) (hd : DS w' z db n lab') (hi : Inner z w w') : TalQ w' z tb db wb bb n lab' W t :=
  ⟨hd, h.row.of_block (hi.high _ h.lo.2.1), h.wt.of_block (hi.high _ h.lo.2.2.1), h.bag.keep fun j hj => hi.high j (by
    rcases List.mem_cons.1 hj with rfl | hj
    · exact h.lo.2.2.2.1
    · exact h.lo.2.2.2.2 j hj), Nat.le_trans h.hi hi.bel.size, h.lo, h.ne⟩
/-- the blocks of a tally -/
def talBl (z : Zone) (tb wb bb : Nat) (t : Tn) (j : Nat) : Prop := z.has j ∨ j = tb ∨ j = wb ∨ j = bb ∨ j ∈ t.bl
/-- a tally's blocks alone have turned -/
structure TSt (z : Zone) (tb wb bb : Nat) (w : World) (t : Tn) (w' : World) (t' : Tn) : Prop where
  os : w'.os = w.os
  tape : w'.tape = w.tape
  output : w'.output = w.output
  size : w.heap.size ≤ w'.heap.size
  block : ∀ j, j < w.heap.size → ¬ talBl z tb wb bb t j → w'.heap[j]? = w.heap[j]?
  sub : ∀ j ∈ t'.bl, j ∈ t.bl ∨ w.heap.size ≤ j
theorem TSt.refl (z : Zone) (tb wb bb : Nat) (w : World) (t : Tn) : TSt z tb wb bb w t w t := ⟨rfl, rfl, rfl, Nat.le_refl _, fun _ _ _ => rfl, fun _ h => .inl h⟩
theorem TSt.trans {a b c : World} {t1 t2 t3 : Tn} (h : TSt z tb wb bb a t1 b t2) (k : TSt z tb wb bb b t2 c t3) : TSt z tb wb bb a t1 c t3 :=
  ⟨k.os.trans h.os, k.tape.trans h.tape, k.output.trans h.output, Nat.le_trans h.size k.size, fun j hj hn => (k.block j (Nat.lt_of_lt_of_le hj h.size) (by
    rintro (c | c | c | c | c)
    · exact hn (.inl c)
    · exact hn (.inr (.inl c))
    · exact hn (.inr (.inr (.inl c)))
    · exact hn (.inr (.inr (.inr (.inl c))))
    · rcases h.sub j c with d | d
      · exact hn (.inr (.inr (.inr (.inr d))))
      · omega)).trans (h.block j hj hn), fun j hj => by
    rcases k.sub j hj with d | d
    · exact h.sub j d
    · exact .inr (Nat.le_trans h.size d)⟩
theorem TSt.drew {a b : World} {t1 t2 : Tn} (h : TSt z tb wb bb a t1 b t2) : TSt z tb wb bb a t1 b.drew t2 := ⟨h.os, h.tape, h.output, h.size, h.block, h.sub⟩
theorem TSt.inner {a b : World} {t1 : Tn} (h : Inner z a b) : TSt z tb wb bb a t1 b t1 := ⟨h.bel.os, h.bel.tape, h.bel.output, h.bel.size, fun _ _ hn => h.out fun c => hn (.inl c), fun _ h => .inl h⟩
theorem TSt.setW {a b : World} {t1 t2 : Tn} (h : TSt z tb wb bb a t1 b t2) (i : Nat) (v : Value) : TSt z tb wb bb a t1 (b.setCell ⟨wb, i, none⟩ v) t2 :=
  ⟨h.os, h.tape, h.output, by simpa [World.setCell] using h.size, fun _ hj hn => (Below.heap_setCell _ _ _ _ (fun e => hn (.inr (.inr (.inl e))))).trans (h.block _ hj hn), h.sub⟩
theorem TSt.off {a b : World} {t1 t2 : Tn} (h : Off (bb :: t1.bl) a b) (hs : ∀ j ∈ t2.bl, j ∈ t1.bl ∨ a.heap.size ≤ j) : TSt z tb wb bb a t1 b t2 :=
  ⟨h.os, h.tape, h.output, h.size, fun j hj hn => h.block j hj fun c => by
    rcases List.mem_cons.1 c with c | c
    · exact hn (.inr (.inr (.inr (.inl c))))
    · exact hn (.inr (.inr (.inr (.inr c)))), hs⟩
theorem TSt.below {a b : World} {t1 t2 : Tn} {lab W : Nat → Nat} (h : TSt z tb wb bb a t1 b t2) (hq : TalQ a z tb db wb bb n lab W t1) {base : Nat} (hb : base ≤ z.low) : Below base a b :=
  ⟨h.os, h.tape, h.output, h.size, fun j hj => h.block j (by have := hq.hi; have := hq.lo.1; omega) (by
    have h1 := hq.lo
    rintro (c | c | c | c | c)
    · have := c.1; omega
    · omega
    · omega
    · omega
    · have := h1.2.2.2.2 j c; omega)⟩
/-- the bag alone has turned -/
theorem TalQ.bagged {x : Int} {k : Nat} {e : Ending} (h : TalQ w z tb db wb bb n lab W t) (hb : BagR bb t x k w e w') : e = .returned (.int .i64 0) ∧ ∃ t', TalQ w' z tb db wb bb n lab W t' ∧ t'.ino = tlSet t.ino x k ∧ TSt z tb wb bb w t w' t' := by
  obtain ⟨he, t', h1, h2, h3, h4⟩ := hb
  have hB : Below z.high w w' := h4.below h.hi fun j hj => by
    rcases List.mem_cons.1 hj with rfl | hj
    · exact h.lo.2.2.2.1
    · exact h.lo.2.2.2.2 j hj
  have hn : ∀ j, j < w.heap.size → j ≠ bb → j ∉ t.bl → w'.heap[j]? = w.heap[j]? := fun j hj h5 h6 => h4.block j hj (by simp [h5, h6])
  refine ⟨he, t', ⟨h.ds.zone hB (Nat.le_refl _), h.row.of_block (hn tb h.row.lt h.ne.2.1 h.ne.2.2.2.1), h.wt.of_block (hn wb h.wt.lt h.ne.2.2.1 h.ne.2.2.2.2), h1, Nat.le_trans h.hi h4.size, ⟨h.lo.1, h.lo.2.1, h.lo.2.2.1, h.lo.2.2.2.1, fun j hj => ?_⟩, h.ne.1, h.ne.2.1, h.ne.2.2.1, fun c => ?_, fun c => ?_⟩, h2, TSt.off h4 h3⟩
  · rcases h3 j hj with h5 | h5
    · exact h.lo.2.2.2.2 j h5
    · exact Nat.le_trans h.hi h5
  · rcases h3 _ c with h5 | h5
    · exact h.ne.2.2.2.1 h5
    · have := h.row.lt; omega
  · rcases h3 _ c with h5 | h5
    · exact h.ne.2.2.2.2 h5
    · have := h.wt.lt; omega
/-- one weight is written -/
theorem TalQ.setW (h : TalQ w z tb db wb bb n lab W t) (i v : Nat) : TalQ (w.setCell ⟨wb, i, none⟩ (.int .i64 (v : Nat))) z tb db wb bb n lab (fun k => if k = i then v else W k) t := by
  have hB : Below z.high w (w.setCell ⟨wb, i, none⟩ (.int .i64 (v : Nat))) := (Below.refl _ w).setCell (p := ⟨wb, i, none⟩) h.lo.2.2.1 _
  refine ⟨h.ds.zone hB (Nat.le_refl _), h.row.setOther h.ne.1 _, (h.wt.set i _).congr fun j _ => natC_set W i v j, h.bag.keep fun j hj => Below.heap_setCell _ _ _ _ (fun e => ?_), by have := h.hi; simpa [World.setCell] using this, h.lo, h.ne⟩
  rcases List.mem_cons.1 hj with hj | hj
  · have e2 : j = wb := e
    exact h.ne.2.2.1 (by rw [← hj, e2])
  · have e2 : j = wb := e
    exact h.ne.2.2.2.2 (by rw [← e2]; exact hj)
end
/-- a tally that Even made -/
def TalAt (w : World) (base tb n : Nat) (lab : Nat → Nat) : Prop :=
  ∃ (z : Zone) (db wb bb : Nat) (W : Nat → Nat) (t : Tn), base ≤ z.low ∧ TalQ w z tb db wb bb n lab W t ∧ (∀ i, i < n → lab i = i → W i = clsN n lab i) ∧ Rep t.ino (szsL n lab)
/-- the same, its blocks in S -/
def TalS (S : Nat → Prop) (w : World) (base tb n : Nat) (lab : Nat → Nat) : Prop :=
  ∃ (z : Zone) (db wb bb : Nat) (W : Nat → Nat) (t : Tn), base ≤ z.low ∧ TalQ w z tb db wb bb n lab W t ∧ (∀ i, i < n → lab i = i → W i = clsN n lab i) ∧ Rep t.ino (szsL n lab) ∧ ∀ j, talBl z tb wb bb t j → S j
theorem TalS.at {S : Nat → Prop} {w : World} {base tb n : Nat} {lab : Nat → Nat} (h : TalS S w base tb n lab) : TalAt w base tb n lab := by
  obtain ⟨z, db, wb, bb, W, t, h1, h2, h3, h4, _⟩ := h
  exact ⟨z, db, wb, bb, W, t, h1, h2, h3, h4⟩
theorem TalAt.S {w : World} {base tb n : Nat} {lab : Nat → Nat} (h : TalAt w base tb n lab) : ∃ S, TalS S w base tb n lab ∧ ∀ j, S j → base ≤ j ∧ j < w.heap.size := by
  obtain ⟨z, db, wb, bb, W, t, h1, h2, h3, h4⟩ := h
  refine ⟨talBl z tb wb bb t, ⟨z, db, wb, bb, W, t, h1, h2, h3, h4, fun _ h => h⟩, fun j hj => ?_⟩
  have h5 := h2.lo
  have h6 := h2.hi
  have h7 := h2.row.lt; have h8 := h2.wt.lt; have h9 := h2.bag.lt bb (by simp)
  rcases hj with c | c | c | c | c
  · have := c.1; have := c.2; omega
  · omega
  · omega
  · omega
  · have := h5.2.2.2.2 j c; have := h2.bag.lt j (by simp [c]); omega
/-- a tally stays where its blocks stay -/
theorem TalS.keep {S : Nat → Prop} {w w' : World} {base tb n : Nat} {lab : Nat → Nat} (h : TalS S w base tb n lab) (hs : w.heap.size ≤ w'.heap.size) (hb : ∀ j, S j → w'.heap[j]? = w.heap[j]?) : TalS S w' base tb n lab := by
  obtain ⟨z, db, wb, bb, W, t, h1, h2, h3, h4, h5⟩ := h
  obtain ⟨ub, lb, sb, up, ls, sz, hh, H, m, r⟩ := h2.ds
  refine ⟨z, db, wb, bb, W, t, h1, ⟨⟨ub, lb, sb, up, ls, sz, hh, H, ⟨m.st.of_block (hb _ (h5 _ (.inl m.lo.1))), m.rup.of_block (hb _ (h5 _ (.inl m.lo.2.1))), m.rls.of_block (hb _ (h5 _ (.inl m.lo.2.2.1))), m.rsz.of_block (hb _ (h5 _ (.inl m.lo.2.2.2))), m.ne, m.lo⟩, r⟩,
    h2.row.of_block (hb _ (h5 _ (.inr (.inl rfl)))), h2.wt.of_block (hb _ (h5 _ (.inr (.inr (.inl rfl))))), h2.bag.keep fun j hj => hb j (h5 j (by
      rcases List.mem_cons.1 hj with hj | hj
      · exact .inr (.inr (.inr (.inl hj)))
      · exact .inr (.inr (.inr (.inr hj))))), Nat.le_trans h2.hi hs, h2.lo, h2.ne⟩, h3, h4, h5⟩
/-- blocks of S alone have turned, and new ones -/
structure StS (S : Nat → Prop) (w : World) (S' : Nat → Prop) (w' : World) : Prop where
  os : w'.os = w.os
  tape : w'.tape = w.tape
  output : w'.output = w.output
  size : w.heap.size ≤ w'.heap.size
  block : ∀ j, j < w.heap.size → ¬ S j → w'.heap[j]? = w.heap[j]?
  sub : ∀ j, S' j → S j ∨ w.heap.size ≤ j ∧ j < w'.heap.size
theorem Tryz.infoTal : (Tryz.prog.info? 114).isSome = true := by kernel_rfl
theorem tal_same (a : Addr) (w : World) : (binOp .eql 47 (.pointer (some a)) (.pointer (some a))).run Tryz.prog w = .ok (.bool true) w := by
  obtain ⟨j, hj⟩ := Option.isSome_iff_exists.1 Tryz.infoTal
  exact run_eql_ptr_same w a Tryz.underlying47 hj
set_option maxRecDepth 100000 in
set_option maxHeartbeats 1000000 in
theorem talvalid_any {w : World} {tb : Nat} (c0 : w.cell? ⟨tb, 0, none⟩ = some (.pointer (some ⟨tb, 0, none⟩))) : Calls Tryz.prog 56 #[.pointer (some ⟨tb, 0, none⟩)] w fun e w' => e = .returned (.bool true) ∧ w = w' := by
  have eq := tal_same ⟨tb, 0, none⟩
  go_enter Tryz.func56, Tryz.ntmps56
  go_wp2_with fail
  go_ret
  exact ⟨rfl, rfl⟩
theorem joinF_root {lab : Nat → Nat} {x y i : Nat} (hxy : x < y) (rx : lab x = x) (ry : lab y = y) (h : joinF lab x y i = i) (hi : i ≠ x) : lab i = i ∧ lab i ≠ lab x ∧ lab i ≠ lab y := by
  unfold joinF at h
  rw [rx, ry, Nat.max_eq_right (by omega), Nat.min_eq_left (by omega)] at h
  split at h
  · exact absurd h.symm hi
  · rw [rx, ry]; omega
theorem szs_bd {L : List (Int × Nat)} {M : List Int} (h : Rep L M) (hM : M.length ≤ 5000) (t : Tn) (ht : t.ino = L) : t.sz ≤ 100000 ∧ t.ds ≤ 100000 := by
  have h1 := h.len
  have h2 := len_szL h.pos
  rw [Tn.sz_ino, Tn.ds_ino, ht]; omega
set_option maxRecDepth 100000 in
set_option maxHeartbeats 16000000 in
theorem talunion_any (base tb n a c : Nat) (lab : Nat → Nat) (w : World) (S : Nat → Prop) (hT : TalS S w base tb n lab) (ha : a < n) (hc : c < n) (hn : n ≤ 4096) :
    Calls Tryz.prog 34 #[.pointer (some ⟨tb, 0, none⟩), .int .i64 (a : Nat), .int .i64 (c : Nat)] w fun e w' => (∃ v, e = .returned v) ∧ ∃ S', TalS S' w' base tb n (joinF lab a c) ∧ StS S w S' w' := by
  obtain ⟨z, db, wb, bb, W, t, hbz, hQ, hW, hR, hSb⟩ := hT
  have HSb := Lib.hid hSb
  clear hSb
  have HV := Lib.hid (talvalid_any hQ.c0)
  have HL := Lib.hid (dleast_any z db n lab a w hQ.ds ha)
  have c1 := hQ.c1
  have HQ := Lib.hid hQ; have HW := Lib.hid hW; have HR := Lib.hid hR
  clear hQ hW hR
  go_enter Tryz.func34, Tryz.ntmps34
  go_wp2_with fail
  refine HV.out.mono ?_
  rintro e w' ⟨rfl, rfl⟩
  clear HV
  go_wp2_with fail
  refine HL.out.mono ?_
  rintro e w1 ⟨rfl, hd1, hi1⟩
  have hQ1 := HQ.out.inner hd1 hi1
  have c1 := hQ1.c1
  have HL2 := Lib.hid (dleast_any z db n lab c w1 hd1 hc)
  have HQ1 := Lib.hid hQ1; have HI1 := Lib.hid hi1
  clear hQ1 hd1 hi1 HL
  go_wp2_with fail
  refine HL2.out.mono ?_
  rintro e w2 ⟨rfl, hd2, hi2⟩
  have hQ2 := HQ1.out.inner hd2 hi2
  have HI2 := Lib.hid (HI1.out.trans hi2)
  have K : LabOk lab := by obtain ⟨_, _, _, _, _, _, _, _, _, _, K, _⟩ := hd2; exact K
  have HK := Lib.hid K
  have HQ2 := Lib.hid hQ2
  have c1 := hQ2.c1
  clear hQ2 hd2 hi2 HL2 HQ1 HI1 K
  obtain ⟨X, hX⟩ : ∃ X, lab a = X := ⟨_, rfl⟩
  obtain ⟨Y, hY⟩ : ∃ Y, lab c = Y := ⟨_, rfl⟩
  have HX := Lib.hid hX; have HY := Lib.hid hY
  have hXn : X < n := by have := HK.out.le a; omega
  have hYn : Y < n := by have := HK.out.le c; omega
  have HrX := Lib.hid (show lab X = X by rw [← hX]; exact HK.out.idem a)
  have HrY := Lib.hid (show lab Y = Y by rw [← hY]; exact HK.out.idem c)
  rw [hX, hY]
  clear hX hY
  rcases Nat.lt_trichotomy X Y with hxy | hxy | hxy
  · have d1 : (((X : Nat) : Int) == ((Y : Nat) : Int)) = false := beq_eq_false_iff_ne.2 (by omega)
    have d2 : decide (((X : Nat) : Int) = ((Y : Nat) : Int)) = false := decide_eq_false (by omega)
    have d3 : decide (((X : Nat) : Int) > ((Y : Nat) : Int)) = false := decide_eq_false (by omega)
    have HJ := Lib.hid (show joinF lab X Y = joinF lab a c from joinF_at (HrX.out.trans HX.out.symm) (HrY.out.trans HY.out.symm))
    obtain ⟨R, hp1, hp2⟩ := szs_join HK.out (x := X) (y := Y) hYn hxy HrX.out HrY.out
    have HP1 := Lib.hid hp1; have HP2 := Lib.hid hp2
    have hlen := (HR.out.perm hp1).len
    have hcb := HR.out.size
    have hcn := cntN_le n lab
    have hRl : R.length + 2 ≤ n := by simp at hlen; omega
    clear hp1 hp2 hlen hcb hcn
    have HU := Lib.hid (union_any z db n lab X Y w2 HQ2.out.ds hXn hYn (by omega))
    go_wp2_with fail
    refine HU.out.mono ?_
    rintro e w3 ⟨rfl, hd3, hi3⟩
    have hQ3 := HQ2.out.inner hd3 hi3
    have HB3 := Lib.hid (TSt.refl z tb wb bb w3 t)
    have HI3 := Lib.hid (HI2.out.trans hi3)
    have HQ3 := Lib.hid hQ3
    clear hQ3 hd3 hi3 HU HQ2 HI2
    go_wp2_with fail
    have hWP : W X = clsN n lab X := HW.out X hXn HrX.out
    have hWQ : W Y = clsN n lab Y := HW.out Y hYn HrY.out
    have HC := Lib.hid (show clsN n (joinF lab X Y) X = clsN n lab X + clsN n lab Y from clsN_join HK.out (by rw [HrX.out, HrY.out]; omega) X (.inl rfl))
    have hcP := clsN_le n lab X
    have hcQ := clsN_le n lab Y
    obtain ⟨u, hu⟩ : ∃ u, clsN n lab X = u := ⟨_, rfl⟩
    obtain ⟨v, hv⟩ : ∃ v, clsN n lab Y = v := ⟨_, rfl⟩
    rw [hu] at hWP HP1 HP2 HC hcP; rw [hv] at hWQ HP1 HP2 HC hcQ
    have HUV := Lib.hid (And.intro hu hv)
    have HWPQ := Lib.hid (And.intro hWP hWQ)
    have hPi : (0 : Int) ≤ X ∧ (X : Int) < n := by omega
    have hQi : (0 : Int) ≤ Y ∧ (Y : Int) < n := by omega
    have HR0 := Lib.hid (HR.out.perm HP1.out)
    clear hu hv hWP hWQ
    have c2 : w3.cell? ⟨tb, 2, none⟩ = some (.slice (some ⟨wb, 0, none⟩) n n) := HQ3.out.c2
    have c3 : w3.cell? ⟨tb, 3, none⟩ = some (.pointer (some ⟨bb, 0, none⟩)) := HQ3.out.c3
    have cx : w3.cell? ⟨wb, X, none⟩ = some (.int .i64 (u : Nat)) := by rw [HQ3.out.wt.cell hXn]; unfold natC; rw [HWPQ.out.1]
    have HS : w3.drew.cell? ⟨tb, 2, none⟩ = some (.slice (some ⟨wb, 0, none⟩) n n) ∧ w3.drew.cell? ⟨tb, 3, none⟩ = some (.pointer (some ⟨bb, 0, none⟩)) ∧ w3.drew.cell? ⟨wb, X, none⟩ = some (.int .i64 (u : Nat)) := ⟨c2, c3, cx⟩
    have hbd := szs_bd HR0.out (by simp; omega) t rfl
    have HB := Lib.hid (bagrem_any (u : Nat) (HQ3.out.drew).bag hbd.1 hbd.2 (by rw [HR0.out.cnt]; simp))
    clear c2 c3 cx hbd
    refine region_plain (fun w' => w'.cell? ⟨tb, 2, none⟩ = some (.slice (some ⟨wb, 0, none⟩) n n) ∧ w'.cell? ⟨tb, 3, none⟩ = some (.pointer (some ⟨bb, 0, none⟩)) ∧ w'.cell? ⟨wb, X, none⟩ = some (.int .i64 (u : Nat))) (by kernel_rfl) ?_
    refine take_at (i := 0) (d := 54) (v := ?_) rfl rfl (by kernel_rfl) (by kernel_rfl) (by kernel_rfl) (fun _ _ _ _ => NormalOnly.any) rfl ?hy1 HS ?rest1
    case hy1 => intro w' hSw; (try dsimp only at hSw); go_simp; try (with_reducible rfl)
    try simp only [List.setIfInBounds_toArray, List.set_cons_zero, List.set_cons_succ]
    refine take_at (i := 1) (d := 55) (v := ?_) rfl rfl (by kernel_rfl) (by kernel_rfl) (by kernel_rfl) (fun _ _ _ _ => NormalOnly.any) rfl ?hy2 HS ?rest2
    case hy2 => intro w' hSw; (try dsimp only at hSw); go_simp; try (with_reducible rfl)
    try simp only [List.setIfInBounds_toArray, List.set_cons_zero, List.set_cons_succ]
    refine take_at (i := 2) (d := 56) (v := ?_) rfl rfl (by kernel_rfl) (by kernel_rfl) (by kernel_rfl) (fun _ _ _ _ => NormalOnly.any) rfl ?hy3 HS ?rest3
    case hy3 => intro w' hSw; (try dsimp only at hSw); go_simp; try (with_reducible rfl)
    try simp only [List.setIfInBounds_toArray, List.set_cons_zero, List.set_cons_succ]
    refine take_at (i := 3) (d := 57) (v := ?_) rfl rfl (by kernel_rfl) (by kernel_rfl) (by kernel_rfl) (fun _ _ _ _ => NormalOnly.any) rfl ?hy4 HS ?rest4
    case hy4 => intro w' hSw; (try dsimp only at hSw); go_simp; try (with_reducible rfl)
    try simp only [List.setIfInBounds_toArray, List.set_cons_zero, List.set_cons_succ]
    refine take_at (i := 4) (d := 58) (v := ?_) rfl rfl (by kernel_rfl) (by kernel_rfl) (by kernel_rfl) (fun _ _ _ _ => NormalOnly.any) rfl ?hy5 HS ?rest5
    case hy5 => intro w' hSw; (try dsimp only at hSw); go_simp; try (with_reducible rfl)
    try simp only [List.setIfInBounds_toArray, List.set_cons_zero, List.set_cons_succ]
    refine take_at (i := 5) (d := 59) (v := ?_) rfl rfl (by kernel_rfl) (by kernel_rfl) (by kernel_rfl) (fun _ _ _ _ => NormalOnly.any) rfl ?hy6 HS ?rest6
    case hy6 => intro w' hSw; (try dsimp only at hSw); go_simp; try (with_reducible rfl)
    try simp only [List.setIfInBounds_toArray, List.set_cons_zero, List.set_cons_succ]
    refine take_at (i := 6) (d := 60) (v := ?_) rfl rfl (by kernel_rfl) (by kernel_rfl) (by kernel_rfl) (fun _ _ _ _ => NormalOnly.any) rfl ?hy7 HS ?rest7
    case hy7 => intro w' hSw; (try dsimp only at hSw); go_simp; try (with_reducible rfl)
    try simp only [List.setIfInBounds_toArray, List.set_cons_zero, List.set_cons_succ]
    refine take_at (i := 7) (d := 61) (v := ?_) rfl rfl (by kernel_rfl) (by kernel_rfl) (by kernel_rfl) (fun _ _ _ _ => NormalOnly.any) rfl ?hy8 HS ?rest8
    case hy8 => intro w' hSw; (try dsimp only at hSw); go_simp; try (with_reducible rfl)
    try simp only [List.setIfInBounds_toArray, List.set_cons_zero, List.set_cons_succ]
    refine take_at (i := 8) (d := 62) (v := ?_) rfl rfl (by kernel_rfl) (by kernel_rfl) (by kernel_rfl) (fun _ _ _ _ => NormalOnly.any) rfl ?hy9 HS ?rest9
    case hy9 => intro w' hSw; (try dsimp only at hSw); go_simp; try (with_reducible rfl)
    try simp only [List.setIfInBounds_toArray, List.set_cons_zero, List.set_cons_succ]
    refine take_at (i := 9) (d := 63) (v := ?_) rfl rfl (by kernel_rfl) (by kernel_rfl) (by kernel_rfl) (fun _ _ _ _ => NormalOnly.any) rfl ?hy10 HS ?rest10
    case hy10 => intro w' hSw; (try dsimp only at hSw); go_simp; try (with_reducible rfl)
    try simp only [List.setIfInBounds_toArray, List.set_cons_zero, List.set_cons_succ]
    refine take_at (i := 10) (d := 64) (v := ?_) rfl rfl (by kernel_rfl) (by kernel_rfl) (by kernel_rfl) (fun _ _ _ _ => NormalOnly.any) rfl ?hy11 HS ?rest11
    case hy11 => intro w' hSw; (try dsimp only at hSw); go_simp; try (with_reducible rfl)
    try simp only [List.setIfInBounds_toArray, List.set_cons_zero, List.set_cons_succ]
    refine wpAnyH_ready (rs := [11]) (by kernel_rfl) (by simp) ?_
    refine AllReadyH.cons rfl (fun K hK => ?_) AllReadyH.nil
    go_simp
    refine HB.out.mono ?_
    rintro e w4 hb
    obtain ⟨rfl, t1, hQ, hi, hB⟩ := (HQ3.out.drew).bagged hb
    have hR := HR0.out.del
    rw [← hi] at hR
    have HS : w4.cell? ⟨tb, 2, none⟩ = some (.slice (some ⟨wb, 0, none⟩) n n) ∧ w4.cell? ⟨tb, 3, none⟩ = some (.pointer (some ⟨bb, 0, none⟩)) ∧ w4.cell? ⟨wb, X, none⟩ = some (.int .i64 (u : Nat)) := ⟨hQ.c2, hQ.c3, by rw [hQ.wt.cell hXn]; unfold natC; rw [HWPQ.out.1]⟩
    refine hK.out _ _ HS (fun _ => ?_)
    clear hK
    have HQ4 := Lib.hid hQ; have HR1 := Lib.hid hR
    have HB4 := Lib.hid (HB3.out.trans ((((TSt.refl z tb wb bb w3 t).drew)).trans hB))
    clear hb hQ hi hB hR HB HS
    refine wpAnyH_done (by kernel_rfl) ⟨rfl, ?_⟩ _
    go_wp2_with fail
    have c2 : w4.cell? ⟨tb, 2, none⟩ = some (.slice (some ⟨wb, 0, none⟩) n n) := HQ4.out.c2
    have c3 : w4.cell? ⟨tb, 3, none⟩ = some (.pointer (some ⟨bb, 0, none⟩)) := HQ4.out.c3
    have cx : w4.cell? ⟨wb, Y, none⟩ = some (.int .i64 (v : Nat)) := by rw [HQ4.out.wt.cell hYn]; unfold natC; rw [HWPQ.out.2]
    have HS : w4.drew.cell? ⟨tb, 2, none⟩ = some (.slice (some ⟨wb, 0, none⟩) n n) ∧ w4.drew.cell? ⟨tb, 3, none⟩ = some (.pointer (some ⟨bb, 0, none⟩)) ∧ w4.drew.cell? ⟨wb, Y, none⟩ = some (.int .i64 (v : Nat)) := ⟨c2, c3, cx⟩
    have hbd := szs_bd HR1.out (by simp; omega) t1 rfl
    have HB := Lib.hid (bagrem_any (v : Nat) (HQ4.out.drew).bag hbd.1 hbd.2 (by rw [HR1.out.cnt]; simp))
    clear c2 c3 cx hbd
    refine region_plain (fun w' => w'.cell? ⟨tb, 2, none⟩ = some (.slice (some ⟨wb, 0, none⟩) n n) ∧ w'.cell? ⟨tb, 3, none⟩ = some (.pointer (some ⟨bb, 0, none⟩)) ∧ w'.cell? ⟨wb, Y, none⟩ = some (.int .i64 (v : Nat))) (by kernel_rfl) ?_
    refine take_at (i := 0) (d := 66) (v := ?_) rfl rfl (by kernel_rfl) (by kernel_rfl) (by kernel_rfl) (fun _ _ _ _ => NormalOnly.any) rfl ?hy12 HS ?rest12
    case hy12 => intro w' hSw; (try dsimp only at hSw); go_simp; try (with_reducible rfl)
    try simp only [List.setIfInBounds_toArray, List.set_cons_zero, List.set_cons_succ]
    refine take_at (i := 1) (d := 67) (v := ?_) rfl rfl (by kernel_rfl) (by kernel_rfl) (by kernel_rfl) (fun _ _ _ _ => NormalOnly.any) rfl ?hy13 HS ?rest13
    case hy13 => intro w' hSw; (try dsimp only at hSw); go_simp; try (with_reducible rfl)
    try simp only [List.setIfInBounds_toArray, List.set_cons_zero, List.set_cons_succ]
    refine take_at (i := 2) (d := 68) (v := ?_) rfl rfl (by kernel_rfl) (by kernel_rfl) (by kernel_rfl) (fun _ _ _ _ => NormalOnly.any) rfl ?hy14 HS ?rest14
    case hy14 => intro w' hSw; (try dsimp only at hSw); go_simp; try (with_reducible rfl)
    try simp only [List.setIfInBounds_toArray, List.set_cons_zero, List.set_cons_succ]
    refine take_at (i := 3) (d := 69) (v := ?_) rfl rfl (by kernel_rfl) (by kernel_rfl) (by kernel_rfl) (fun _ _ _ _ => NormalOnly.any) rfl ?hy15 HS ?rest15
    case hy15 => intro w' hSw; (try dsimp only at hSw); go_simp; try (with_reducible rfl)
    try simp only [List.setIfInBounds_toArray, List.set_cons_zero, List.set_cons_succ]
    refine take_at (i := 4) (d := 70) (v := ?_) rfl rfl (by kernel_rfl) (by kernel_rfl) (by kernel_rfl) (fun _ _ _ _ => NormalOnly.any) rfl ?hy16 HS ?rest16
    case hy16 => intro w' hSw; (try dsimp only at hSw); go_simp; try (with_reducible rfl)
    try simp only [List.setIfInBounds_toArray, List.set_cons_zero, List.set_cons_succ]
    refine take_at (i := 5) (d := 71) (v := ?_) rfl rfl (by kernel_rfl) (by kernel_rfl) (by kernel_rfl) (fun _ _ _ _ => NormalOnly.any) rfl ?hy17 HS ?rest17
    case hy17 => intro w' hSw; (try dsimp only at hSw); go_simp; try (with_reducible rfl)
    try simp only [List.setIfInBounds_toArray, List.set_cons_zero, List.set_cons_succ]
    refine take_at (i := 6) (d := 72) (v := ?_) rfl rfl (by kernel_rfl) (by kernel_rfl) (by kernel_rfl) (fun _ _ _ _ => NormalOnly.any) rfl ?hy18 HS ?rest18
    case hy18 => intro w' hSw; (try dsimp only at hSw); go_simp; try (with_reducible rfl)
    try simp only [List.setIfInBounds_toArray, List.set_cons_zero, List.set_cons_succ]
    refine take_at (i := 7) (d := 73) (v := ?_) rfl rfl (by kernel_rfl) (by kernel_rfl) (by kernel_rfl) (fun _ _ _ _ => NormalOnly.any) rfl ?hy19 HS ?rest19
    case hy19 => intro w' hSw; (try dsimp only at hSw); go_simp; try (with_reducible rfl)
    try simp only [List.setIfInBounds_toArray, List.set_cons_zero, List.set_cons_succ]
    refine take_at (i := 8) (d := 74) (v := ?_) rfl rfl (by kernel_rfl) (by kernel_rfl) (by kernel_rfl) (fun _ _ _ _ => NormalOnly.any) rfl ?hy20 HS ?rest20
    case hy20 => intro w' hSw; (try dsimp only at hSw); go_simp; try (with_reducible rfl)
    try simp only [List.setIfInBounds_toArray, List.set_cons_zero, List.set_cons_succ]
    refine take_at (i := 9) (d := 75) (v := ?_) rfl rfl (by kernel_rfl) (by kernel_rfl) (by kernel_rfl) (fun _ _ _ _ => NormalOnly.any) rfl ?hy21 HS ?rest21
    case hy21 => intro w' hSw; (try dsimp only at hSw); go_simp; try (with_reducible rfl)
    try simp only [List.setIfInBounds_toArray, List.set_cons_zero, List.set_cons_succ]
    refine take_at (i := 10) (d := 76) (v := ?_) rfl rfl (by kernel_rfl) (by kernel_rfl) (by kernel_rfl) (fun _ _ _ _ => NormalOnly.any) rfl ?hy22 HS ?rest22
    case hy22 => intro w' hSw; (try dsimp only at hSw); go_simp; try (with_reducible rfl)
    try simp only [List.setIfInBounds_toArray, List.set_cons_zero, List.set_cons_succ]
    refine wpAnyH_ready (rs := [11]) (by kernel_rfl) (by simp) ?_
    refine AllReadyH.cons rfl (fun K hK => ?_) AllReadyH.nil
    go_simp
    refine HB.out.mono ?_
    rintro e w5 hb
    obtain ⟨rfl, t2, hQ, hi, hB⟩ := (HQ4.out.drew).bagged hb
    have hR := HR1.out.del
    rw [← hi] at hR
    have HS : w5.cell? ⟨tb, 2, none⟩ = some (.slice (some ⟨wb, 0, none⟩) n n) ∧ w5.cell? ⟨tb, 3, none⟩ = some (.pointer (some ⟨bb, 0, none⟩)) ∧ w5.cell? ⟨wb, Y, none⟩ = some (.int .i64 (v : Nat)) := ⟨hQ.c2, hQ.c3, by rw [hQ.wt.cell hYn]; unfold natC; rw [HWPQ.out.2]⟩
    refine hK.out _ _ HS (fun _ => ?_)
    clear hK
    have HQ5 := Lib.hid hQ; have HR2 := Lib.hid hR
    have HB5 := Lib.hid (HB4.out.trans ((((TSt.refl z tb wb bb w4 t1).drew)).trans hB))
    clear hb hQ hi hB hR HB HS
    refine wpAnyH_done (by kernel_rfl) ⟨rfl, ?_⟩ _
    go_wp2_with fail
    have c2 := HQ5.out.c2
    have xP : w5.cell? ⟨wb, X, none⟩ = some (.int .i64 (u : Nat)) := by rw [HQ5.out.wt.cell hXn]; unfold natC; rw [HWPQ.out.1]
    have xQ : w5.cell? ⟨wb, Y, none⟩ = some (.int .i64 (v : Nat)) := by rw [HQ5.out.wt.cell hYn]; unfold natC; rw [HWPQ.out.2]
    have fP : w5.frozen? ⟨wb, X, none⟩ = false := HQ5.out.wt.frozen X
    go_region
    have hsum : ((u : Nat) : Int) + ((v : Nat) : Int) = ((u + v : Nat) : Int) := by simp
    rw [hsum]
    have hQ6 := (HQ5.out.setW X (u + v)).drew
    have hB6 : TSt z tb wb bb w5 t2 ((w5.setCell ⟨wb, X, none⟩ (.int .i64 ((u + v : Nat) : Int))).drew) t2 := ((TSt.refl z tb wb bb w5 t2).setW X _).drew
    have HB6 := Lib.hid (HB5.out.trans hB6)
    have HQ6 := Lib.hid hQ6
    clear hQ6 hB6 c2 xP xQ fP hsum
    generalize (w5.setCell ⟨wb, X, none⟩ (.int .i64 ((u + v : Nat) : Int))).drew = w6 at *
    obtain ⟨uv, huv⟩ : ∃ x, u + v = x := ⟨_, rfl⟩
    rw [huv] at HQ6 HP2 HC ⊢
    clear huv
    go_wp2_with fail
    have c2 : w6.cell? ⟨tb, 2, none⟩ = some (.slice (some ⟨wb, 0, none⟩) n n) := HQ6.out.c2
    have c3 : w6.cell? ⟨tb, 3, none⟩ = some (.pointer (some ⟨bb, 0, none⟩)) := HQ6.out.c3
    have cx : w6.cell? ⟨wb, X, none⟩ = some (.int .i64 (uv : Nat)) := by rw [HQ6.out.wt.cell hXn]; unfold natC; simp
    have HS : w6.drew.cell? ⟨tb, 2, none⟩ = some (.slice (some ⟨wb, 0, none⟩) n n) ∧ w6.drew.cell? ⟨tb, 3, none⟩ = some (.pointer (some ⟨bb, 0, none⟩)) ∧ w6.drew.cell? ⟨wb, X, none⟩ = some (.int .i64 (uv : Nat)) := ⟨c2, c3, cx⟩
    have hbd := szs_bd HR2.out (by omega) t2 rfl
    have HB := Lib.hid (bagadd_any (uv : Nat) (HQ6.out.drew).bag hbd.1 hbd.2)
    clear c2 c3 cx hbd
    refine region_plain (fun w' => w'.cell? ⟨tb, 2, none⟩ = some (.slice (some ⟨wb, 0, none⟩) n n) ∧ w'.cell? ⟨tb, 3, none⟩ = some (.pointer (some ⟨bb, 0, none⟩)) ∧ w'.cell? ⟨wb, X, none⟩ = some (.int .i64 (uv : Nat))) (by kernel_rfl) ?_
    refine take_at (i := 0) (d := 94) (v := ?_) rfl rfl (by kernel_rfl) (by kernel_rfl) (by kernel_rfl) (fun _ _ _ _ => NormalOnly.any) rfl ?hy23 HS ?rest23
    case hy23 => intro w' hSw; (try dsimp only at hSw); go_simp; try (with_reducible rfl)
    try simp only [List.setIfInBounds_toArray, List.set_cons_zero, List.set_cons_succ]
    refine take_at (i := 1) (d := 95) (v := ?_) rfl rfl (by kernel_rfl) (by kernel_rfl) (by kernel_rfl) (fun _ _ _ _ => NormalOnly.any) rfl ?hy24 HS ?rest24
    case hy24 => intro w' hSw; (try dsimp only at hSw); go_simp; try (with_reducible rfl)
    try simp only [List.setIfInBounds_toArray, List.set_cons_zero, List.set_cons_succ]
    refine take_at (i := 2) (d := 96) (v := ?_) rfl rfl (by kernel_rfl) (by kernel_rfl) (by kernel_rfl) (fun _ _ _ _ => NormalOnly.any) rfl ?hy25 HS ?rest25
    case hy25 => intro w' hSw; (try dsimp only at hSw); go_simp; try (with_reducible rfl)
    try simp only [List.setIfInBounds_toArray, List.set_cons_zero, List.set_cons_succ]
    refine take_at (i := 3) (d := 97) (v := ?_) rfl rfl (by kernel_rfl) (by kernel_rfl) (by kernel_rfl) (fun _ _ _ _ => NormalOnly.any) rfl ?hy26 HS ?rest26
    case hy26 => intro w' hSw; (try dsimp only at hSw); go_simp; try (with_reducible rfl)
    try simp only [List.setIfInBounds_toArray, List.set_cons_zero, List.set_cons_succ]
    refine take_at (i := 4) (d := 98) (v := ?_) rfl rfl (by kernel_rfl) (by kernel_rfl) (by kernel_rfl) (fun _ _ _ _ => NormalOnly.any) rfl ?hy27 HS ?rest27
    case hy27 => intro w' hSw; (try dsimp only at hSw); go_simp; try (with_reducible rfl)
    try simp only [List.setIfInBounds_toArray, List.set_cons_zero, List.set_cons_succ]
    refine take_at (i := 5) (d := 99) (v := ?_) rfl rfl (by kernel_rfl) (by kernel_rfl) (by kernel_rfl) (fun _ _ _ _ => NormalOnly.any) rfl ?hy28 HS ?rest28
    case hy28 => intro w' hSw; (try dsimp only at hSw); go_simp; try (with_reducible rfl)
    try simp only [List.setIfInBounds_toArray, List.set_cons_zero, List.set_cons_succ]
    refine take_at (i := 6) (d := 100) (v := ?_) rfl rfl (by kernel_rfl) (by kernel_rfl) (by kernel_rfl) (fun _ _ _ _ => NormalOnly.any) rfl ?hy29 HS ?rest29
    case hy29 => intro w' hSw; (try dsimp only at hSw); go_simp; try (with_reducible rfl)
    try simp only [List.setIfInBounds_toArray, List.set_cons_zero, List.set_cons_succ]
    refine take_at (i := 7) (d := 101) (v := ?_) rfl rfl (by kernel_rfl) (by kernel_rfl) (by kernel_rfl) (fun _ _ _ _ => NormalOnly.any) rfl ?hy30 HS ?rest30
    case hy30 => intro w' hSw; (try dsimp only at hSw); go_simp; try (with_reducible rfl)
    try simp only [List.setIfInBounds_toArray, List.set_cons_zero, List.set_cons_succ]
    refine take_at (i := 8) (d := 102) (v := ?_) rfl rfl (by kernel_rfl) (by kernel_rfl) (by kernel_rfl) (fun _ _ _ _ => NormalOnly.any) rfl ?hy31 HS ?rest31
    case hy31 => intro w' hSw; (try dsimp only at hSw); go_simp; try (with_reducible rfl)
    try simp only [List.setIfInBounds_toArray, List.set_cons_zero, List.set_cons_succ]
    refine take_at (i := 9) (d := 103) (v := ?_) rfl rfl (by kernel_rfl) (by kernel_rfl) (by kernel_rfl) (fun _ _ _ _ => NormalOnly.any) rfl ?hy32 HS ?rest32
    case hy32 => intro w' hSw; (try dsimp only at hSw); go_simp; try (with_reducible rfl)
    try simp only [List.setIfInBounds_toArray, List.set_cons_zero, List.set_cons_succ]
    refine take_at (i := 10) (d := 104) (v := ?_) rfl rfl (by kernel_rfl) (by kernel_rfl) (by kernel_rfl) (fun _ _ _ _ => NormalOnly.any) rfl ?hy33 HS ?rest33
    case hy33 => intro w' hSw; (try dsimp only at hSw); go_simp; try (with_reducible rfl)
    try simp only [List.setIfInBounds_toArray, List.set_cons_zero, List.set_cons_succ]
    refine wpAnyH_ready (rs := [11]) (by kernel_rfl) (by simp) ?_
    refine AllReadyH.cons rfl (fun K hK => ?_) AllReadyH.nil
    go_simp
    refine HB.out.mono ?_
    rintro e w7 hb
    obtain ⟨rfl, t3, hQ, hi, hB⟩ := (HQ6.out.drew).bagged hb
    have hR := HR2.out.add ((uv : Nat) : Int)
    rw [← hi] at hR
    have HS : w7.cell? ⟨tb, 2, none⟩ = some (.slice (some ⟨wb, 0, none⟩) n n) ∧ w7.cell? ⟨tb, 3, none⟩ = some (.pointer (some ⟨bb, 0, none⟩)) ∧ w7.cell? ⟨wb, X, none⟩ = some (.int .i64 (uv : Nat)) := ⟨hQ.c2, hQ.c3, by rw [hQ.wt.cell hXn]; unfold natC; simp⟩
    refine hK.out _ _ HS (fun _ => ?_)
    clear hK
    have HQ7 := Lib.hid hQ; have HR3 := Lib.hid hR
    have HB7 := Lib.hid (HB6.out.trans ((((TSt.refl z tb wb bb w6 t2).drew)).trans hB))
    clear hb hQ hi hB hR HB HS
    refine wpAnyH_done (by kernel_rfl) ⟨rfl, ?_⟩ _
    have HT := Lib.hid (show TSt z tb wb bb w t w7 t3 from (TSt.inner HI3.out).trans HB7.out)
    have HF := Lib.hid (show TalS (fun j => S j ∨ j ∈ t3.bl) w7 base tb n (joinF lab a c) from by
      rw [← HJ.out]
      refine ⟨z, db, wb, bb, _, t3, hbz, HQ7.out, fun i hi hr => ?_, HR3.out.perm HP2.out.symm, fun j hj => ?_⟩
      rotate_left
      · rcases hj with c | c | c | c | c
        · exact .inl (HSb.out j (.inl c))
        · exact .inl (HSb.out j (.inr (.inl c)))
        · exact .inl (HSb.out j (.inr (.inr (.inl c))))
        · exact .inl (HSb.out j (.inr (.inr (.inr (.inl c)))))
        · exact .inr c
      by_cases hip : i = X
      · rw [if_pos hip, hip, HC.out]
      · obtain ⟨g1, g2, g3⟩ := joinF_root hxy HrX.out HrY.out hr hip
        rw [if_neg hip, HW.out i hi g1, clsN_other HK.out g2 g3])
    go_wp2_with fail
    go_ret2
    refine ⟨⟨_, rfl⟩, _, HF.out, HT.out.os, HT.out.tape, HT.out.output, HT.out.size, fun j hj hn => HT.out.block j hj fun c => hn (HSb.out j c), fun j hj => ?_⟩
    rcases hj with hj | hj
    · exact .inl hj
    · rcases HT.out.sub j hj with d | d
      · exact .inl (HSb.out j (.inr (.inr (.inr (.inr d)))))
      · exact .inr ⟨d, HQ7.out.bag.lt j (by simp [hj])⟩
  · subst hxy
    have d1 : (((X : Nat) : Int) == ((X : Nat) : Int)) = true := by simp
    have HF := Lib.hid (show TalS S w2 base tb n (joinF lab a c) from by
      rw [joinF_same (by rw [HX.out, HY.out])]; exact ⟨z, db, wb, bb, W, t, hbz, HQ2.out, HW.out, HR.out, HSb.out⟩)
    have HI := Lib.hid (show TSt z tb wb bb w t w2 t from TSt.inner HI2.out)
    go_wp2_with fail
    go_ret2
    exact ⟨⟨_, rfl⟩, S, HF.out, HI.out.os, HI.out.tape, HI.out.output, HI.out.size, fun j hj hn => HI.out.block j hj fun c => hn (HSb.out j c), fun j hj => .inl hj⟩
  · have d1 : (((X : Nat) : Int) == ((Y : Nat) : Int)) = false := beq_eq_false_iff_ne.2 (by omega)
    have d2 : decide (((X : Nat) : Int) = ((Y : Nat) : Int)) = false := decide_eq_false (by omega)
    have d3 : decide (((X : Nat) : Int) > ((Y : Nat) : Int)) = true := decide_eq_true (by omega)
    have HJ := Lib.hid (show joinF lab Y X = joinF lab a c from (joinF_comm lab Y X).trans (joinF_at (HrX.out.trans HX.out.symm) (HrY.out.trans HY.out.symm)))
    obtain ⟨R, hp1, hp2⟩ := szs_join HK.out (x := Y) (y := X) hXn hxy HrY.out HrX.out
    have HP1 := Lib.hid hp1; have HP2 := Lib.hid hp2
    have hlen := (HR.out.perm hp1).len
    have hcb := HR.out.size
    have hcn := cntN_le n lab
    have hRl : R.length + 2 ≤ n := by simp at hlen; omega
    clear hp1 hp2 hlen hcb hcn
    have HU := Lib.hid (union_any z db n lab Y X w2 HQ2.out.ds hYn hXn (by omega))
    go_wp2_with fail
    refine HU.out.mono ?_
    rintro e w3 ⟨rfl, hd3, hi3⟩
    have hQ3 := HQ2.out.inner hd3 hi3
    have HB3 := Lib.hid (TSt.refl z tb wb bb w3 t)
    have HI3 := Lib.hid (HI2.out.trans hi3)
    have HQ3 := Lib.hid hQ3
    clear hQ3 hd3 hi3 HU HQ2 HI2
    go_wp2_with fail
    have hWP : W Y = clsN n lab Y := HW.out Y hYn HrY.out
    have hWQ : W X = clsN n lab X := HW.out X hXn HrX.out
    have HC := Lib.hid (show clsN n (joinF lab Y X) Y = clsN n lab Y + clsN n lab X from clsN_join HK.out (by rw [HrY.out, HrX.out]; omega) Y (.inl rfl))
    have hcP := clsN_le n lab Y
    have hcQ := clsN_le n lab X
    obtain ⟨u, hu⟩ : ∃ u, clsN n lab Y = u := ⟨_, rfl⟩
    obtain ⟨v, hv⟩ : ∃ v, clsN n lab X = v := ⟨_, rfl⟩
    rw [hu] at hWP HP1 HP2 HC hcP; rw [hv] at hWQ HP1 HP2 HC hcQ
    have HUV := Lib.hid (And.intro hu hv)
    have HWPQ := Lib.hid (And.intro hWP hWQ)
    have hPi : (0 : Int) ≤ Y ∧ (Y : Int) < n := by omega
    have hQi : (0 : Int) ≤ X ∧ (X : Int) < n := by omega
    have HR0 := Lib.hid (HR.out.perm HP1.out)
    clear hu hv hWP hWQ
    have c2 : w3.cell? ⟨tb, 2, none⟩ = some (.slice (some ⟨wb, 0, none⟩) n n) := HQ3.out.c2
    have c3 : w3.cell? ⟨tb, 3, none⟩ = some (.pointer (some ⟨bb, 0, none⟩)) := HQ3.out.c3
    have cx : w3.cell? ⟨wb, Y, none⟩ = some (.int .i64 (u : Nat)) := by rw [HQ3.out.wt.cell hYn]; unfold natC; rw [HWPQ.out.1]
    have HS : w3.drew.cell? ⟨tb, 2, none⟩ = some (.slice (some ⟨wb, 0, none⟩) n n) ∧ w3.drew.cell? ⟨tb, 3, none⟩ = some (.pointer (some ⟨bb, 0, none⟩)) ∧ w3.drew.cell? ⟨wb, Y, none⟩ = some (.int .i64 (u : Nat)) := ⟨c2, c3, cx⟩
    have hbd := szs_bd HR0.out (by simp; omega) t rfl
    have HB := Lib.hid (bagrem_any (u : Nat) (HQ3.out.drew).bag hbd.1 hbd.2 (by rw [HR0.out.cnt]; simp))
    clear c2 c3 cx hbd
    refine region_plain (fun w' => w'.cell? ⟨tb, 2, none⟩ = some (.slice (some ⟨wb, 0, none⟩) n n) ∧ w'.cell? ⟨tb, 3, none⟩ = some (.pointer (some ⟨bb, 0, none⟩)) ∧ w'.cell? ⟨wb, Y, none⟩ = some (.int .i64 (u : Nat))) (by kernel_rfl) ?_
    refine take_at (i := 0) (d := 54) (v := ?_) rfl rfl (by kernel_rfl) (by kernel_rfl) (by kernel_rfl) (fun _ _ _ _ => NormalOnly.any) rfl ?hy34 HS ?rest34
    case hy34 => intro w' hSw; (try dsimp only at hSw); go_simp; try (with_reducible rfl)
    try simp only [List.setIfInBounds_toArray, List.set_cons_zero, List.set_cons_succ]
    refine take_at (i := 1) (d := 55) (v := ?_) rfl rfl (by kernel_rfl) (by kernel_rfl) (by kernel_rfl) (fun _ _ _ _ => NormalOnly.any) rfl ?hy35 HS ?rest35
    case hy35 => intro w' hSw; (try dsimp only at hSw); go_simp; try (with_reducible rfl)
    try simp only [List.setIfInBounds_toArray, List.set_cons_zero, List.set_cons_succ]
    refine take_at (i := 2) (d := 56) (v := ?_) rfl rfl (by kernel_rfl) (by kernel_rfl) (by kernel_rfl) (fun _ _ _ _ => NormalOnly.any) rfl ?hy36 HS ?rest36
    case hy36 => intro w' hSw; (try dsimp only at hSw); go_simp; try (with_reducible rfl)
    try simp only [List.setIfInBounds_toArray, List.set_cons_zero, List.set_cons_succ]
    refine take_at (i := 3) (d := 57) (v := ?_) rfl rfl (by kernel_rfl) (by kernel_rfl) (by kernel_rfl) (fun _ _ _ _ => NormalOnly.any) rfl ?hy37 HS ?rest37
    case hy37 => intro w' hSw; (try dsimp only at hSw); go_simp; try (with_reducible rfl)
    try simp only [List.setIfInBounds_toArray, List.set_cons_zero, List.set_cons_succ]
    refine take_at (i := 4) (d := 58) (v := ?_) rfl rfl (by kernel_rfl) (by kernel_rfl) (by kernel_rfl) (fun _ _ _ _ => NormalOnly.any) rfl ?hy38 HS ?rest38
    case hy38 => intro w' hSw; (try dsimp only at hSw); go_simp; try (with_reducible rfl)
    try simp only [List.setIfInBounds_toArray, List.set_cons_zero, List.set_cons_succ]
    refine take_at (i := 5) (d := 59) (v := ?_) rfl rfl (by kernel_rfl) (by kernel_rfl) (by kernel_rfl) (fun _ _ _ _ => NormalOnly.any) rfl ?hy39 HS ?rest39
    case hy39 => intro w' hSw; (try dsimp only at hSw); go_simp; try (with_reducible rfl)
    try simp only [List.setIfInBounds_toArray, List.set_cons_zero, List.set_cons_succ]
    refine take_at (i := 6) (d := 60) (v := ?_) rfl rfl (by kernel_rfl) (by kernel_rfl) (by kernel_rfl) (fun _ _ _ _ => NormalOnly.any) rfl ?hy40 HS ?rest40
    case hy40 => intro w' hSw; (try dsimp only at hSw); go_simp; try (with_reducible rfl)
    try simp only [List.setIfInBounds_toArray, List.set_cons_zero, List.set_cons_succ]
    refine take_at (i := 7) (d := 61) (v := ?_) rfl rfl (by kernel_rfl) (by kernel_rfl) (by kernel_rfl) (fun _ _ _ _ => NormalOnly.any) rfl ?hy41 HS ?rest41
    case hy41 => intro w' hSw; (try dsimp only at hSw); go_simp; try (with_reducible rfl)
    try simp only [List.setIfInBounds_toArray, List.set_cons_zero, List.set_cons_succ]
    refine take_at (i := 8) (d := 62) (v := ?_) rfl rfl (by kernel_rfl) (by kernel_rfl) (by kernel_rfl) (fun _ _ _ _ => NormalOnly.any) rfl ?hy42 HS ?rest42
    case hy42 => intro w' hSw; (try dsimp only at hSw); go_simp; try (with_reducible rfl)
    try simp only [List.setIfInBounds_toArray, List.set_cons_zero, List.set_cons_succ]
    refine take_at (i := 9) (d := 63) (v := ?_) rfl rfl (by kernel_rfl) (by kernel_rfl) (by kernel_rfl) (fun _ _ _ _ => NormalOnly.any) rfl ?hy43 HS ?rest43
    case hy43 => intro w' hSw; (try dsimp only at hSw); go_simp; try (with_reducible rfl)
    try simp only [List.setIfInBounds_toArray, List.set_cons_zero, List.set_cons_succ]
    refine take_at (i := 10) (d := 64) (v := ?_) rfl rfl (by kernel_rfl) (by kernel_rfl) (by kernel_rfl) (fun _ _ _ _ => NormalOnly.any) rfl ?hy44 HS ?rest44
    case hy44 => intro w' hSw; (try dsimp only at hSw); go_simp; try (with_reducible rfl)
    try simp only [List.setIfInBounds_toArray, List.set_cons_zero, List.set_cons_succ]
    refine wpAnyH_ready (rs := [11]) (by kernel_rfl) (by simp) ?_
    refine AllReadyH.cons rfl (fun K hK => ?_) AllReadyH.nil
    go_simp
    refine HB.out.mono ?_
    rintro e w4 hb
    obtain ⟨rfl, t1, hQ, hi, hB⟩ := (HQ3.out.drew).bagged hb
    have hR := HR0.out.del
    rw [← hi] at hR
    have HS : w4.cell? ⟨tb, 2, none⟩ = some (.slice (some ⟨wb, 0, none⟩) n n) ∧ w4.cell? ⟨tb, 3, none⟩ = some (.pointer (some ⟨bb, 0, none⟩)) ∧ w4.cell? ⟨wb, Y, none⟩ = some (.int .i64 (u : Nat)) := ⟨hQ.c2, hQ.c3, by rw [hQ.wt.cell hYn]; unfold natC; rw [HWPQ.out.1]⟩
    refine hK.out _ _ HS (fun _ => ?_)
    clear hK
    have HQ4 := Lib.hid hQ; have HR1 := Lib.hid hR
    have HB4 := Lib.hid (HB3.out.trans ((((TSt.refl z tb wb bb w3 t).drew)).trans hB))
    clear hb hQ hi hB hR HB HS
    refine wpAnyH_done (by kernel_rfl) ⟨rfl, ?_⟩ _
    go_wp2_with fail
    have c2 : w4.cell? ⟨tb, 2, none⟩ = some (.slice (some ⟨wb, 0, none⟩) n n) := HQ4.out.c2
    have c3 : w4.cell? ⟨tb, 3, none⟩ = some (.pointer (some ⟨bb, 0, none⟩)) := HQ4.out.c3
    have cx : w4.cell? ⟨wb, X, none⟩ = some (.int .i64 (v : Nat)) := by rw [HQ4.out.wt.cell hXn]; unfold natC; rw [HWPQ.out.2]
    have HS : w4.drew.cell? ⟨tb, 2, none⟩ = some (.slice (some ⟨wb, 0, none⟩) n n) ∧ w4.drew.cell? ⟨tb, 3, none⟩ = some (.pointer (some ⟨bb, 0, none⟩)) ∧ w4.drew.cell? ⟨wb, X, none⟩ = some (.int .i64 (v : Nat)) := ⟨c2, c3, cx⟩
    have hbd := szs_bd HR1.out (by simp; omega) t1 rfl
    have HB := Lib.hid (bagrem_any (v : Nat) (HQ4.out.drew).bag hbd.1 hbd.2 (by rw [HR1.out.cnt]; simp))
    clear c2 c3 cx hbd
    refine region_plain (fun w' => w'.cell? ⟨tb, 2, none⟩ = some (.slice (some ⟨wb, 0, none⟩) n n) ∧ w'.cell? ⟨tb, 3, none⟩ = some (.pointer (some ⟨bb, 0, none⟩)) ∧ w'.cell? ⟨wb, X, none⟩ = some (.int .i64 (v : Nat))) (by kernel_rfl) ?_
    refine take_at (i := 0) (d := 66) (v := ?_) rfl rfl (by kernel_rfl) (by kernel_rfl) (by kernel_rfl) (fun _ _ _ _ => NormalOnly.any) rfl ?hy45 HS ?rest45
    case hy45 => intro w' hSw; (try dsimp only at hSw); go_simp; try (with_reducible rfl)
    try simp only [List.setIfInBounds_toArray, List.set_cons_zero, List.set_cons_succ]
    refine take_at (i := 1) (d := 67) (v := ?_) rfl rfl (by kernel_rfl) (by kernel_rfl) (by kernel_rfl) (fun _ _ _ _ => NormalOnly.any) rfl ?hy46 HS ?rest46
    case hy46 => intro w' hSw; (try dsimp only at hSw); go_simp; try (with_reducible rfl)
    try simp only [List.setIfInBounds_toArray, List.set_cons_zero, List.set_cons_succ]
    refine take_at (i := 2) (d := 68) (v := ?_) rfl rfl (by kernel_rfl) (by kernel_rfl) (by kernel_rfl) (fun _ _ _ _ => NormalOnly.any) rfl ?hy47 HS ?rest47
    case hy47 => intro w' hSw; (try dsimp only at hSw); go_simp; try (with_reducible rfl)
    try simp only [List.setIfInBounds_toArray, List.set_cons_zero, List.set_cons_succ]
    refine take_at (i := 3) (d := 69) (v := ?_) rfl rfl (by kernel_rfl) (by kernel_rfl) (by kernel_rfl) (fun _ _ _ _ => NormalOnly.any) rfl ?hy48 HS ?rest48
    case hy48 => intro w' hSw; (try dsimp only at hSw); go_simp; try (with_reducible rfl)
    try simp only [List.setIfInBounds_toArray, List.set_cons_zero, List.set_cons_succ]
    refine take_at (i := 4) (d := 70) (v := ?_) rfl rfl (by kernel_rfl) (by kernel_rfl) (by kernel_rfl) (fun _ _ _ _ => NormalOnly.any) rfl ?hy49 HS ?rest49
    case hy49 => intro w' hSw; (try dsimp only at hSw); go_simp; try (with_reducible rfl)
    try simp only [List.setIfInBounds_toArray, List.set_cons_zero, List.set_cons_succ]
    refine take_at (i := 5) (d := 71) (v := ?_) rfl rfl (by kernel_rfl) (by kernel_rfl) (by kernel_rfl) (fun _ _ _ _ => NormalOnly.any) rfl ?hy50 HS ?rest50
    case hy50 => intro w' hSw; (try dsimp only at hSw); go_simp; try (with_reducible rfl)
    try simp only [List.setIfInBounds_toArray, List.set_cons_zero, List.set_cons_succ]
    refine take_at (i := 6) (d := 72) (v := ?_) rfl rfl (by kernel_rfl) (by kernel_rfl) (by kernel_rfl) (fun _ _ _ _ => NormalOnly.any) rfl ?hy51 HS ?rest51
    case hy51 => intro w' hSw; (try dsimp only at hSw); go_simp; try (with_reducible rfl)
    try simp only [List.setIfInBounds_toArray, List.set_cons_zero, List.set_cons_succ]
    refine take_at (i := 7) (d := 73) (v := ?_) rfl rfl (by kernel_rfl) (by kernel_rfl) (by kernel_rfl) (fun _ _ _ _ => NormalOnly.any) rfl ?hy52 HS ?rest52
    case hy52 => intro w' hSw; (try dsimp only at hSw); go_simp; try (with_reducible rfl)
    try simp only [List.setIfInBounds_toArray, List.set_cons_zero, List.set_cons_succ]
    refine take_at (i := 8) (d := 74) (v := ?_) rfl rfl (by kernel_rfl) (by kernel_rfl) (by kernel_rfl) (fun _ _ _ _ => NormalOnly.any) rfl ?hy53 HS ?rest53
    case hy53 => intro w' hSw; (try dsimp only at hSw); go_simp; try (with_reducible rfl)
    try simp only [List.setIfInBounds_toArray, List.set_cons_zero, List.set_cons_succ]
    refine take_at (i := 9) (d := 75) (v := ?_) rfl rfl (by kernel_rfl) (by kernel_rfl) (by kernel_rfl) (fun _ _ _ _ => NormalOnly.any) rfl ?hy54 HS ?rest54
    case hy54 => intro w' hSw; (try dsimp only at hSw); go_simp; try (with_reducible rfl)
    try simp only [List.setIfInBounds_toArray, List.set_cons_zero, List.set_cons_succ]
    refine take_at (i := 10) (d := 76) (v := ?_) rfl rfl (by kernel_rfl) (by kernel_rfl) (by kernel_rfl) (fun _ _ _ _ => NormalOnly.any) rfl ?hy55 HS ?rest55
    case hy55 => intro w' hSw; (try dsimp only at hSw); go_simp; try (with_reducible rfl)
    try simp only [List.setIfInBounds_toArray, List.set_cons_zero, List.set_cons_succ]
    refine wpAnyH_ready (rs := [11]) (by kernel_rfl) (by simp) ?_
    refine AllReadyH.cons rfl (fun K hK => ?_) AllReadyH.nil
    go_simp
    refine HB.out.mono ?_
    rintro e w5 hb
    obtain ⟨rfl, t2, hQ, hi, hB⟩ := (HQ4.out.drew).bagged hb
    have hR := HR1.out.del
    rw [← hi] at hR
    have HS : w5.cell? ⟨tb, 2, none⟩ = some (.slice (some ⟨wb, 0, none⟩) n n) ∧ w5.cell? ⟨tb, 3, none⟩ = some (.pointer (some ⟨bb, 0, none⟩)) ∧ w5.cell? ⟨wb, X, none⟩ = some (.int .i64 (v : Nat)) := ⟨hQ.c2, hQ.c3, by rw [hQ.wt.cell hXn]; unfold natC; rw [HWPQ.out.2]⟩
    refine hK.out _ _ HS (fun _ => ?_)
    clear hK
    have HQ5 := Lib.hid hQ; have HR2 := Lib.hid hR
    have HB5 := Lib.hid (HB4.out.trans ((((TSt.refl z tb wb bb w4 t1).drew)).trans hB))
    clear hb hQ hi hB hR HB HS
    refine wpAnyH_done (by kernel_rfl) ⟨rfl, ?_⟩ _
    go_wp2_with fail
    have c2 := HQ5.out.c2
    have xP : w5.cell? ⟨wb, Y, none⟩ = some (.int .i64 (u : Nat)) := by rw [HQ5.out.wt.cell hYn]; unfold natC; rw [HWPQ.out.1]
    have xQ : w5.cell? ⟨wb, X, none⟩ = some (.int .i64 (v : Nat)) := by rw [HQ5.out.wt.cell hXn]; unfold natC; rw [HWPQ.out.2]
    have fP : w5.frozen? ⟨wb, Y, none⟩ = false := HQ5.out.wt.frozen Y
    go_region
    have hsum : ((u : Nat) : Int) + ((v : Nat) : Int) = ((u + v : Nat) : Int) := by simp
    rw [hsum]
    have hQ6 := (HQ5.out.setW Y (u + v)).drew
    have hB6 : TSt z tb wb bb w5 t2 ((w5.setCell ⟨wb, Y, none⟩ (.int .i64 ((u + v : Nat) : Int))).drew) t2 := ((TSt.refl z tb wb bb w5 t2).setW Y _).drew
    have HB6 := Lib.hid (HB5.out.trans hB6)
    have HQ6 := Lib.hid hQ6
    clear hQ6 hB6 c2 xP xQ fP hsum
    generalize (w5.setCell ⟨wb, Y, none⟩ (.int .i64 ((u + v : Nat) : Int))).drew = w6 at *
    obtain ⟨uv, huv⟩ : ∃ x, u + v = x := ⟨_, rfl⟩
    rw [huv] at HQ6 HP2 HC ⊢
    clear huv
    go_wp2_with fail
    have c2 : w6.cell? ⟨tb, 2, none⟩ = some (.slice (some ⟨wb, 0, none⟩) n n) := HQ6.out.c2
    have c3 : w6.cell? ⟨tb, 3, none⟩ = some (.pointer (some ⟨bb, 0, none⟩)) := HQ6.out.c3
    have cx : w6.cell? ⟨wb, Y, none⟩ = some (.int .i64 (uv : Nat)) := by rw [HQ6.out.wt.cell hYn]; unfold natC; simp
    have HS : w6.drew.cell? ⟨tb, 2, none⟩ = some (.slice (some ⟨wb, 0, none⟩) n n) ∧ w6.drew.cell? ⟨tb, 3, none⟩ = some (.pointer (some ⟨bb, 0, none⟩)) ∧ w6.drew.cell? ⟨wb, Y, none⟩ = some (.int .i64 (uv : Nat)) := ⟨c2, c3, cx⟩
    have hbd := szs_bd HR2.out (by omega) t2 rfl
    have HB := Lib.hid (bagadd_any (uv : Nat) (HQ6.out.drew).bag hbd.1 hbd.2)
    clear c2 c3 cx hbd
    refine region_plain (fun w' => w'.cell? ⟨tb, 2, none⟩ = some (.slice (some ⟨wb, 0, none⟩) n n) ∧ w'.cell? ⟨tb, 3, none⟩ = some (.pointer (some ⟨bb, 0, none⟩)) ∧ w'.cell? ⟨wb, Y, none⟩ = some (.int .i64 (uv : Nat))) (by kernel_rfl) ?_
    refine take_at (i := 0) (d := 94) (v := ?_) rfl rfl (by kernel_rfl) (by kernel_rfl) (by kernel_rfl) (fun _ _ _ _ => NormalOnly.any) rfl ?hy56 HS ?rest56
    case hy56 => intro w' hSw; (try dsimp only at hSw); go_simp; try (with_reducible rfl)
    try simp only [List.setIfInBounds_toArray, List.set_cons_zero, List.set_cons_succ]
    refine take_at (i := 1) (d := 95) (v := ?_) rfl rfl (by kernel_rfl) (by kernel_rfl) (by kernel_rfl) (fun _ _ _ _ => NormalOnly.any) rfl ?hy57 HS ?rest57
    case hy57 => intro w' hSw; (try dsimp only at hSw); go_simp; try (with_reducible rfl)
    try simp only [List.setIfInBounds_toArray, List.set_cons_zero, List.set_cons_succ]
    refine take_at (i := 2) (d := 96) (v := ?_) rfl rfl (by kernel_rfl) (by kernel_rfl) (by kernel_rfl) (fun _ _ _ _ => NormalOnly.any) rfl ?hy58 HS ?rest58
    case hy58 => intro w' hSw; (try dsimp only at hSw); go_simp; try (with_reducible rfl)
    try simp only [List.setIfInBounds_toArray, List.set_cons_zero, List.set_cons_succ]
    refine take_at (i := 3) (d := 97) (v := ?_) rfl rfl (by kernel_rfl) (by kernel_rfl) (by kernel_rfl) (fun _ _ _ _ => NormalOnly.any) rfl ?hy59 HS ?rest59
    case hy59 => intro w' hSw; (try dsimp only at hSw); go_simp; try (with_reducible rfl)
    try simp only [List.setIfInBounds_toArray, List.set_cons_zero, List.set_cons_succ]
    refine take_at (i := 4) (d := 98) (v := ?_) rfl rfl (by kernel_rfl) (by kernel_rfl) (by kernel_rfl) (fun _ _ _ _ => NormalOnly.any) rfl ?hy60 HS ?rest60
    case hy60 => intro w' hSw; (try dsimp only at hSw); go_simp; try (with_reducible rfl)
    try simp only [List.setIfInBounds_toArray, List.set_cons_zero, List.set_cons_succ]
    refine take_at (i := 5) (d := 99) (v := ?_) rfl rfl (by kernel_rfl) (by kernel_rfl) (by kernel_rfl) (fun _ _ _ _ => NormalOnly.any) rfl ?hy61 HS ?rest61
    case hy61 => intro w' hSw; (try dsimp only at hSw); go_simp; try (with_reducible rfl)
    try simp only [List.setIfInBounds_toArray, List.set_cons_zero, List.set_cons_succ]
    refine take_at (i := 6) (d := 100) (v := ?_) rfl rfl (by kernel_rfl) (by kernel_rfl) (by kernel_rfl) (fun _ _ _ _ => NormalOnly.any) rfl ?hy62 HS ?rest62
    case hy62 => intro w' hSw; (try dsimp only at hSw); go_simp; try (with_reducible rfl)
    try simp only [List.setIfInBounds_toArray, List.set_cons_zero, List.set_cons_succ]
    refine take_at (i := 7) (d := 101) (v := ?_) rfl rfl (by kernel_rfl) (by kernel_rfl) (by kernel_rfl) (fun _ _ _ _ => NormalOnly.any) rfl ?hy63 HS ?rest63
    case hy63 => intro w' hSw; (try dsimp only at hSw); go_simp; try (with_reducible rfl)
    try simp only [List.setIfInBounds_toArray, List.set_cons_zero, List.set_cons_succ]
    refine take_at (i := 8) (d := 102) (v := ?_) rfl rfl (by kernel_rfl) (by kernel_rfl) (by kernel_rfl) (fun _ _ _ _ => NormalOnly.any) rfl ?hy64 HS ?rest64
    case hy64 => intro w' hSw; (try dsimp only at hSw); go_simp; try (with_reducible rfl)
    try simp only [List.setIfInBounds_toArray, List.set_cons_zero, List.set_cons_succ]
    refine take_at (i := 9) (d := 103) (v := ?_) rfl rfl (by kernel_rfl) (by kernel_rfl) (by kernel_rfl) (fun _ _ _ _ => NormalOnly.any) rfl ?hy65 HS ?rest65
    case hy65 => intro w' hSw; (try dsimp only at hSw); go_simp; try (with_reducible rfl)
    try simp only [List.setIfInBounds_toArray, List.set_cons_zero, List.set_cons_succ]
    refine take_at (i := 10) (d := 104) (v := ?_) rfl rfl (by kernel_rfl) (by kernel_rfl) (by kernel_rfl) (fun _ _ _ _ => NormalOnly.any) rfl ?hy66 HS ?rest66
    case hy66 => intro w' hSw; (try dsimp only at hSw); go_simp; try (with_reducible rfl)
    try simp only [List.setIfInBounds_toArray, List.set_cons_zero, List.set_cons_succ]
    refine wpAnyH_ready (rs := [11]) (by kernel_rfl) (by simp) ?_
    refine AllReadyH.cons rfl (fun K hK => ?_) AllReadyH.nil
    go_simp
    refine HB.out.mono ?_
    rintro e w7 hb
    obtain ⟨rfl, t3, hQ, hi, hB⟩ := (HQ6.out.drew).bagged hb
    have hR := HR2.out.add ((uv : Nat) : Int)
    rw [← hi] at hR
    have HS : w7.cell? ⟨tb, 2, none⟩ = some (.slice (some ⟨wb, 0, none⟩) n n) ∧ w7.cell? ⟨tb, 3, none⟩ = some (.pointer (some ⟨bb, 0, none⟩)) ∧ w7.cell? ⟨wb, Y, none⟩ = some (.int .i64 (uv : Nat)) := ⟨hQ.c2, hQ.c3, by rw [hQ.wt.cell hYn]; unfold natC; simp⟩
    refine hK.out _ _ HS (fun _ => ?_)
    clear hK
    have HQ7 := Lib.hid hQ; have HR3 := Lib.hid hR
    have HB7 := Lib.hid (HB6.out.trans ((((TSt.refl z tb wb bb w6 t2).drew)).trans hB))
    clear hb hQ hi hB hR HB HS
    refine wpAnyH_done (by kernel_rfl) ⟨rfl, ?_⟩ _
    have HT := Lib.hid (show TSt z tb wb bb w t w7 t3 from (TSt.inner HI3.out).trans HB7.out)
    have HF := Lib.hid (show TalS (fun j => S j ∨ j ∈ t3.bl) w7 base tb n (joinF lab a c) from by
      rw [← HJ.out]
      refine ⟨z, db, wb, bb, _, t3, hbz, HQ7.out, fun i hi hr => ?_, HR3.out.perm HP2.out.symm, fun j hj => ?_⟩
      rotate_left
      · rcases hj with c | c | c | c | c
        · exact .inl (HSb.out j (.inl c))
        · exact .inl (HSb.out j (.inr (.inl c)))
        · exact .inl (HSb.out j (.inr (.inr (.inl c))))
        · exact .inl (HSb.out j (.inr (.inr (.inr (.inl c)))))
        · exact .inr c
      by_cases hip : i = Y
      · rw [if_pos hip, hip, HC.out]
      · obtain ⟨g1, g2, g3⟩ := joinF_root hxy HrY.out HrX.out hr hip
        rw [if_neg hip, HW.out i hi g1, clsN_other HK.out g2 g3])
    go_wp2_with fail
    go_ret2
    refine ⟨⟨_, rfl⟩, _, HF.out, HT.out.os, HT.out.tape, HT.out.output, HT.out.size, fun j hj hn => HT.out.block j hj fun c => hn (HSb.out j c), fun j hj => ?_⟩
    rcases hj with hj | hj
    · exact .inl hj
    · rcases HT.out.sub j hj with d | d
      · exact .inl (HSb.out j (.inr (.inr (.inr (.inr d)))))
      · exact .inr ⟨d, HQ7.out.bag.lt j (by simp [hj])⟩
end Go.Proofs.YtpbgophogneecaaGreat

/- A law of my own for a range over a function whose iterator writes between two rounds: its blocks are a set S that may grow. Conditions: the loop stands outside every round. -/
namespace Go.Proofs.YtpbgophogneecaaGreat
open Go.RowKit

variable {F : Fence} {n : Nat} {P : Program}

/-- what a round leaves alone: the blocks of S and of C -/
structure KpS (S C : Nat → Prop) (A B : World) : Prop where
  size : A.heap.size ≤ B.heap.size
  same : ∀ j, S j ∨ C j → B.heap[j]? = A.heap[j]?
theorem KpS.refl (S C : Nat → Prop) (A : World) : KpS S C A A := ⟨Nat.le_refl _, fun _ _ => rfl⟩
theorem KpS.trans {S C : Nat → Prop} {A B D : World} (h : KpS S C A B) (k : KpS S C B D) : KpS S C A D := ⟨Nat.le_trans h.size k.size, fun j hj => (k.same j hj).trans (h.same j hj)⟩
theorem KpS.putObj {S C : Nat → Prop} {W : World} {l : Nat} (o : Obj) (h1 : ¬ S l) (h2 : ¬ C l) : KpS S C W (W.putObj l o) := ⟨by simp [World.putObj], fun j hj => World.putObj_heap_other (fun e => by subst e; exact hj.elim h1 h2)⟩
/-- what an iterator that writes promises -/
def SeqW {α : Type} (F : Fence) (n : Nat) (P : Program) (g : Nat) (lb : Array Value) (encs : α → Array Value) (T : (Nat → Prop) → List α → World → Prop) (C : Nat → Prop) (Sx : List α → Prop) (S0 : Nat → Prop) (w : World) : Prop :=
  ∀ (l : Nat) (J : (Nat → Prop) → List α → World → Prop) (Jx : List α → World → Prop) (W : World), Below w.heap.size w W → T S0 [] W →
    (∀ S S' pre A B, J S pre A → StS S A S' B → J S' pre B) →
    (∀ S pre x W1, J S pre W1 → T S (pre ++ [x]) W1 → YieldAt F (n - 1) P l (encs x) W1 fun e W' =>
      (e = .returned (.bool true) ∧ J S (pre ++ [x]) W' ∧ KpS S C W1 W') ∨ (e = .returned (.bool false) ∧ Jx (pre ++ [x]) W')) →
    J S0 [] W →
    CallsIn F n P g (#[.func (.yield l) #[] #[]] ++ lb) W fun e W' => (∃ v, e = .returned v) ∧ ((∃ xs S, Sx xs ∧ T S xs W' ∧ J S xs W') ∨ (∃ pre, Jx pre W'))

theorem rangeW {α : Type} {g : Operand} {ps : Array Tmp} {assign body : Code} {Q : Exit → Act → World → Prop} {a : Act} {w : World}
    (hro : F.round = none) (h1 : 1 ≤ n) {gf : Nat} {lb : Array Value} (hg : a.eval g = .func (.func gf) #[] lb) (hFg : F.fn gf) (eg : ∀ args w, (callFunc gf args).run P w = .ok (.enter gf args) w)
    {encs : α → Array Value} {T : (Nat → Prop) → List α → World → Prop} {C : Nat → Prop} {Sx : List α → Prop} {S0 : Nat → Prop} (hseq : SeqW F (n - 1) P gf lb encs T C Sx S0 w)
    (hT : ∀ S xs A B, KpS S C A B → T S xs A → T S xs B) (hT0 : T S0 [] w) (hS0 : ∀ j, S0 j → j < w.heap.size) (hC : ∀ j, C j → j < w.heap.size) (hps : ∀ x, (encs x).size = ps.size)
    (I : (Nat → Prop) → List α → World → Prop) (Ix : Code → List α → World → Prop) (hI : ∀ S, OwnFrom w.heap.size (I S)) (hIx : ∀ c, OwnFrom w.heap.size (Ix c)) (hIs : ∀ S S' pre A B, I S pre A → StS S A S' B → I S' pre B) (h0 : I S0 [] w) (Ax : List α → α → Act → Prop)
    (hassign : ∀ (l : Nat) (S : Nat → Prop) (pre : List α) (x : α) (W : World) (K : Act → World → Prop), I S pre W → T S (pre ++ [x]) W → (∀ a', Ax pre x a' → K a' W) →
      assign.wpIn (F.inRound l) (n - 1 - 1) P (Exit.then K (fun _ _ _ => False)) { tmps := (ps.zip (encs x)).foldl (fun t (p, v) => t.setIfInBounds p v) a.tmps, defers := [] } W)
    (hbody : ∀ (l : Nat) (S : Nat → Prop) (pre : List α) (x : α) (a' : Act) (W : World), w.heap.size ≤ l → (∃ r, W.heap[l]? = some (.loop r)) → ¬ S l → I S pre W → Ax pre x a' → T S (pre ++ [x]) W → body.wpIn (F.inRound l) (n - 1 - 1) P (ownPostG w.heap.size (KpS S C) (I S) Ix (pre ++ [x]) W) a' W)
    (hdone : ∀ (D : Nat) (S : Nat → Prop) (xs : List α) (W : World), w.heap.size ≤ D → Sx xs → T S xs W → I S xs W → W.heap[D]? = some (.deferred (some [])) → Q .normal { a with defers := { target := .collected D, args := #[] } :: a.defers } W)
    (hstop : ∀ (D : Nat) (c : Code) (pre : List α) (W : World), w.heap.size ≤ D → Ix c pre W → W.heap[D]? = some (.deferred (some [])) → c.wpIn F n P Q { a with defers := { target := .collected D, args := #[] } :: a.defers } W) :
    (Code.rangeFunc g ps assign body).wpIn F n P Q a w := by
  refine wpIn_rangeFunc ?_
  intro fn hfn
  rw [hro]
  -- the loop's record, in the states that it passes through
  obtain ⟨rec, hrec⟩ : ∃ rec : LoopState → Option Code → Loop, rec = fun st pe => { state := st, pending := pe, fn, tmps := a.tmps, params := ps, assign, body, defers := w.heap.size } := ⟨_, rfl⟩
  obtain ⟨W1, hW1⟩ : ∃ W1, (w.alloc (.deferred (some []))).alloc (.loop (rec .ready none)) = W1 := ⟨_, rfl⟩
  have hL1 : W1.heap[w.heap.size + 1]? = some (.loop (rec .ready none)) := by
    rw [← hW1]; have := World.alloc_heap_new (w.alloc (.deferred (some []))) (.loop (rec .ready none)); rwa [World.size_alloc] at this
  have hK1 : W1.heap[w.heap.size]? = some (.deferred (some [])) := by
    rw [← hW1]; exact (Below.heap_alloc _ _ _ (by simp)).trans (World.alloc_heap_new w _)
  have hI1 : I S0 [] W1 := by rw [← hW1]; exact (hI S0).alloc _ ((hI S0).alloc _ h0)
  have hb1 : Below w.heap.size w W1 := by
    rw [← hW1]; exact ((Below.refl _ w).alloc (Nat.le_refl _) _).alloc (by simp) _
  have hT1 : T S0 [] W1 := hT _ _ _ _ ⟨hb1.size, fun j hj => hb1.block j (hj.elim (hS0 j) (hC j))⟩ hT0
  have hsz : w.heap.size + 2 = W1.heap.size := by rw [← hW1]; simp
  refine ⟨w.heap.size + 1, [{ target := .collected w.heap.size, args := #[] }], W1, { target := .fn (.func gf) lb, args := #[.func (.yield (w.heap.size + 1)) #[] #[]] }, W1, gf,
    #[.func (.yield (w.heap.size + 1)) #[] #[]] ++ lb, W1, ?_, ?_, ?_, ?_, fun _ => h1, ?_⟩
  · rw [← hW1, hrec]; exact run_enterLoop_outer _ _ _ _ _
  · simp only [resolve, hg]
    simp [go_sem]
  · intro f' hf'; simp [Target.leads] at hf'; subst hf'; exact hFg
  · simp [invoke, go_sem, eg]
  · refine (hseq (w.heap.size + 1)
      (fun S pre W => I S pre W ∧ W.heap[w.heap.size + 1]? = some (.loop (rec .ready none)) ∧ W.heap[w.heap.size]? = some (.deferred (some [])) ∧ ¬ S (w.heap.size + 1) ∧ ¬ S w.heap.size)
      (fun pre W => ∃ c, Ix c pre W ∧ W.heap[w.heap.size + 1]? = some (.loop (rec .done (some c))) ∧ W.heap[w.heap.size]? = some (.deferred (some [])))
      W1 hb1 hT1
      (fun S S' pre A B hs st => by
        obtain ⟨h1, h2, h3, h4, h5⟩ := hs
        have l1 := (Array.getElem?_eq_some_iff.1 h2).1
        have l2 := (Array.getElem?_eq_some_iff.1 h3).1
        exact ⟨hIs _ _ _ _ _ h1 st, (st.block _ l1 h4).trans h2, (st.block _ l2 h5).trans h3, fun c => (st.sub _ c).elim h4 fun e => by omega, fun c => (st.sub _ c).elim h5 fun e => by omega⟩)
      ?_ ⟨hI1, hL1, hK1, fun c => by have := hS0 _ c; omega, fun c => by have := hS0 _ c; omega⟩).mono ?_
    · -- one round
      rintro S pre x W0 ⟨hi0, hl0, hk0, hsl, hsk⟩ hR
      have hcl : ¬ C (w.heap.size + 1) := fun c => by have := hC _ c; omega
      have hy := run_yield (P := P) (args := encs x) hl0 (by rw [hrec]; exact hps x)
      rw [hrec] at hy
      refine ⟨fn, _, assign, body, hy, roundIn_of_wpIn hfn (hassign _ S pre x W0 _ hi0 hR ?_)⟩
      clear hy
      intro a' hax
      obtain ⟨W, hWe⟩ : ∃ W, W = W0 := ⟨_, rfl⟩
      subst hWe
      have hi := hi0
      have hl := hl0
      have hk := hk0
      have hlt : w.heap.size + 1 < W.heap.size := (Array.getElem?_eq_some_iff.1 hl).1
      refine ⟨_, run_beginRound hl (by rw [hrec]), ?_⟩
      obtain ⟨busy, hbusy⟩ : ∃ busy : Loop, busy = { rec .ready none with state := .busy } := ⟨_, rfl⟩
      rw [← hbusy]
      have hl2 : (W.putObj (w.heap.size + 1) (.loop busy)).heap[w.heap.size + 1]? = some (.loop busy) := World.putObj_heap_same hlt
      have hk2 : (W.putObj (w.heap.size + 1) (.loop busy)).heap[w.heap.size]? = some (.deferred (some [])) := (World.putObj_heap_other (by omega)).trans hk
      have hw2 : KpS S C W (W.putObj (w.heap.size + 1) (.loop busy)) := KpS.putObj _ hsl hcl
      refine wpIn_mono (hbody _ S pre x a' _ (by omega) ⟨_, hl2⟩ hsl ((hI S).putObj _ hi (by omega) hl rfl) hax (hT _ _ _ _ hw2 hR)) ?_
      have fin : ∀ (jump : Option Code) (W3 : World), KeepsFrom w.heap.size (W.putObj (w.heap.size + 1) (.loop busy)) W3 →
          ∃ W4, W4 = W3.putObj (w.heap.size + 1) (.loop (rec (if jump.isNone then .ready else .done) jump)) ∧
          (Instr.endRound (w.heap.size + 1) jump).run P W3 = .ok (.bool jump.isNone) W4 ∧
          W3.heap[w.heap.size + 1]? = some (.loop busy) ∧
          W4.heap[w.heap.size + 1]? = some (.loop (rec (if jump.isNone then .ready else .done) jump)) ∧
          W4.heap[w.heap.size]? = some (.deferred (some [])) := fun jump W3 hk3 => by
        have hl3 := hk3.same _ _ (by omega) hl2 rfl
        have he := run_endRound (P := P) jump hl3
        rw [hbusy, hrec] at he
        refine ⟨_, rfl, by rw [hrec]; exact he, hl3, World.putObj_heap_same (Array.getElem?_eq_some_iff.1 hl3).1, (World.putObj_heap_other (by omega)).trans (hk3.same _ _ (Nat.le_refl _) hk2 rfl)⟩
      have left : ∀ (c : Code) (W3 : World), KeepsFrom w.heap.size (W.putObj (w.heap.size + 1) (.loop busy)) W3 → Ix c (pre ++ [x]) W3 → ∃ v W4, (Instr.endRound (w.heap.size + 1) (some c)).run P W3 = .ok v W4 ∧
          ((Ending.returned v = .returned (.bool true) ∧ (I S (pre ++ [x]) W4 ∧ W4.heap[w.heap.size + 1]? = some (.loop (rec .ready none)) ∧ W4.heap[w.heap.size]? = some (.deferred (some [])) ∧ ¬ S (w.heap.size + 1) ∧ ¬ S w.heap.size) ∧ KpS S C W W4) ∨
           (Ending.returned v = .returned (.bool false) ∧ ∃ c, Ix c (pre ++ [x]) W4 ∧ W4.heap[w.heap.size + 1]? = some (.loop (rec .done (some c))) ∧ W4.heap[w.heap.size]? = some (.deferred (some [])))) := fun c W3 hk3 hi3 => by
        obtain ⟨W4, e4, hr, hl3, hl4, hk4⟩ := fin (some c) W3 hk3
        refine ⟨_, W4, hr, .inr ⟨rfl, c, ?_, hl4, hk4⟩⟩
        rw [e4]; exact (hIx _).putObj _ hi3 (by omega) hl3 rfl
      rintro e a3 W3 hp
      cases e with
      | normal =>
        obtain ⟨hk3, hkp3, hi3⟩ := hp
        obtain ⟨W4, e4, hr, hl3, hl4, hk4⟩ := fin none W3 hk3
        refine ⟨_, W4, hr, .inl ⟨rfl, ⟨?_, hl4, hk4, hsl, hsk⟩, ?_⟩⟩
        · rw [e4]; exact (hI S).putObj _ hi3 (by omega) hl3 rfl
        · rw [e4]; exact (hw2.trans hkp3).trans (KpS.putObj _ hsl hcl)
      | ret => exact left .ret W3 hp.1 hp.2
      | exit id => exact left (.exit id) W3 hp.1 hp.2
      | goto t => exact left (.goto t) W3 hp.1 hp.2
      | panic ch => exact hp.elim
      | outgrown => exact hp.elim
    · -- behind the iterator
      rintro e W2 ⟨⟨v, rfl⟩, (⟨xs, S, hS, ht, hi, hl, hk, hsl, hsk⟩ | ⟨pre, c, hi, hl, hk⟩)⟩
      · exact ⟨none, _, by have := run_endLoop (P := P) hl (by rw [hrec]; simp); rw [hrec] at this; exact this, hdone _ S xs _ (Nat.le_refl _) hS (hT _ _ _ _ (KpS.putObj _ hsl (fun c => by have := hC _ c; omega)) ht) ((hI S).putObj _ hi (by omega) hl rfl) ((World.putObj_heap_other (by omega)).trans hk)⟩
      · exact ⟨some c, _, by have := run_endLoop (P := P) hl (by rw [hrec]; simp); rw [hrec] at this; exact this, hstop _ c pre _ (Nat.le_refl _) ((hIx c).putObj _ hi (by omega) hl rfl) ((World.putObj_heap_other (by omega)).trans hk)⟩
end Go.Proofs.YtpbgophogneecaaGreat

/- The walks of Largest, Count, Squares of package tally, and of plain of package sweep. Conditions: the tally was made by Even; it has an element. -/
namespace Go.Proofs.YtpbgophogneecaaGreat
open Go.RowKit
section
variable {w : World} {base tb n : Nat} {lab : Nat → Nat}
theorem TalAt.below {w' : World} (h : TalAt w base tb n lab) (hb : Below w.heap.size w w') : TalAt w' base tb n lab := by
  obtain ⟨z, db, wb, bb, W, t, h1, h2, h3⟩ := h
  exact ⟨z, db, wb, bb, W, t, h1, ⟨h2.ds.below hb, h2.row.of_block (hb.block _ h2.row.lt), h2.wt.of_block (hb.block _ h2.wt.lt), h2.bag.keep fun j hj => hb.block j (h2.bag.lt j hj), Nat.le_trans h2.hi hb.size, h2.lo, h2.ne⟩, h3⟩
set_option maxRecDepth 100000 in
set_option maxHeartbeats 1000000 in
theorem talcount_any (h : TalAt w base tb n lab) : Calls Tryz.prog 36 #[.pointer (some ⟨tb, 0, none⟩)] w fun e w' => e = .returned (.int .i64 (cntN n lab : Nat)) ∧ Below w.heap.size w w' := by
  obtain ⟨z, db, wb, bb, W, t, hbz, hQ, hW, hR⟩ := h
  have HV := Lib.hid (talvalid_any hQ.c0)
  have HC := Lib.hid (dcount_any z db n lab w hQ.ds)
  have c1 := hQ.c1
  clear hQ hW hR
  go_enter Tryz.func36, Tryz.ntmps36
  go_wp2_with fail
  refine HV.out.mono ?_
  rintro e w' ⟨rfl, rfl⟩
  go_wp2_with fail
  refine HC.out.mono ?_
  rintro e w' ⟨rfl, rfl⟩
  go_wp2_with fail
  go_ret
  exact ⟨rfl, Below.refl _ _⟩
set_option maxRecDepth 100000 in
set_option maxHeartbeats 1000000 in
theorem tallargest_any (h : TalAt w base tb n lab) (h0 : 0 < n) (hn : n ≤ 4096) (K : LabOk lab) : Calls Tryz.prog 35 #[.pointer (some ⟨tb, 0, none⟩)] w fun e w' => e = .returned (.int .i64 (lgN n lab (lbL lab n) : Nat)) ∧ Below w.heap.size w w' := by
  obtain ⟨z, db, wb, bb, W, t, hbz, hQ, hW, hR⟩ := h
  have HV := Lib.hid (talvalid_any hQ.c0)
  have hne : lbL lab n ≠ [] := fun e => by
    have : lab 0 ∈ lbL lab n := lbL_mem.2 ⟨Nat.lt_of_le_of_lt (K.le 0) h0, K.idem 0⟩
    rw [e] at this; simp at this
  obtain ⟨ht, hp⟩ := hR.top hne
  have hsz : t.sz = szL t.ino := Tn.sz_ino t
  have hle := hR.size
  have hcn := cntN_le n lab
  have HM := Lib.hid (bagmax_any hQ.bag (by omega) (by omega))
  rw [hsz, ht] at HM
  have c3 := hQ.c3
  clear hQ hW hR ht
  go_enter Tryz.func35, Tryz.ntmps35
  go_wp2_with fail
  refine HV.out.mono ?_
  rintro e w' ⟨rfl, rfl⟩
  go_wp2_with fail
  refine HM.out.mono ?_
  rintro e w' ⟨rfl, q, rfl⟩
  go_wp2_with fail
  go_ret
  exact ⟨rfl, below_drewN (Below.refl _ _) q⟩
set_option maxRecDepth 100000 in
set_option maxHeartbeats 1000000 in
theorem talsq_any (h : TalAt w base tb n lab) (hn : n ≤ 4096) : Calls Tryz.prog 37 #[.pointer (some ⟨tb, 0, none⟩)] w fun e w' => e = .returned (.int .i64 (sqN n lab (lbL lab n) : Nat)) ∧ Below w.heap.size w w' := by
  obtain ⟨z, db, wb, bb, W, t, hbz, hQ, hW, hR⟩ := h
  have HV := Lib.hid (talvalid_any hQ.c0)
  have hs := hR.sq
  have hle := sqN_le n lab (lbL lab n)
  have hcn := cntN_le n lab
  rw [lbL_len] at hle
  have hnn : cntN n lab * (n * n) ≤ 4096 * (4096 * 4096) := Nat.mul_le_mul (by omega) (Nat.mul_le_mul hn hn)
  have HM := Lib.hid (bagsq_any hQ.bag (hR.sml (by omega)) (by omega))
  rw [hs] at HM
  have c3 := hQ.c3
  clear hQ hW hR hs hle hcn hnn
  go_enter Tryz.func37, Tryz.ntmps37
  go_wp2_with fail
  refine HV.out.mono ?_
  rintro e w' ⟨rfl, rfl⟩
  go_wp2_with fail
  refine HM.out.mono ?_
  rintro e w' ⟨rfl, hb⟩
  have HB := Lib.hid hb
  clear hb
  go_wp2_with fail
  go_ret
  exact ⟨rfl, HB.out⟩
set_option maxRecDepth 100000 in
set_option maxHeartbeats 2000000 in
theorem plain_any (h : TalAt w base tb n lab) (h0 : 0 < n) (hn : n ≤ 4096) (K : LabOk lab) : Calls Tryz.prog 14 #[.pointer (some ⟨tb, 0, none⟩)] w (RowRes n lab w) := by
  have H := Lib.hid h; have HK := Lib.hid K
  clear h K
  go_enter Tryz.func14, Tryz.ntmps14
  go_wp2_with fail
  have hR0 := row3 w (.int .i64 0) (.int .i64 0) (.int .i64 0) 35
  have hB1 : Below w.heap.size w (w.alloc (.cells #[.int .i64 0, .int .i64 0, .int .i64 0] 35)) := (Below.refl _ w).alloc (Nat.le_refl _) _
  have H1 := Lib.hid (H.out.below hB1)
  have HB1 := Lib.hid hB1; have HR := Lib.hid hR0
  clear hR0 hB1
  generalize w.alloc (.cells #[.int .i64 0, .int .i64 0, .int .i64 0] 35) = w1 at *
  refine (tallargest_any H1.out h0 hn HK.out).mono ?_
  rintro e w2 ⟨rfl, b2⟩
  have HB2 := Lib.hid b2
  have H2 := Lib.hid (H1.out.below b2)
  clear b2 H1
  go_wp2_with fail
  refine (talcount_any H2.out).mono ?_
  rintro e w3 ⟨rfl, b3⟩
  have HB3 := Lib.hid (HB2.out.trans (b3.mono HB2.out.size))
  have H3 := Lib.hid (H2.out.below b3)
  clear b3 H2
  go_wp2_with fail
  refine (talsq_any H3.out hn).mono ?_
  rintro e w4 ⟨rfl, b4⟩
  have hR4 := HR.out.below (HB3.out.trans (b4.mono HB3.out.size)) HR.out.lt
  have HB4 := Lib.hid ((HB1.out.trans ((HB3.out.trans (b4.mono HB3.out.size)).mono HB1.out.size)))
  have c0 : w4.cell? ⟨w.heap.size, 0, none⟩ = some (.int .i64 0) := hR4.cell (i := 0) (by omega)
  have c1 : w4.cell? ⟨w.heap.size, 1, none⟩ = some (.int .i64 0) := hR4.cell (i := 1) (by omega)
  have c2 : w4.cell? ⟨w.heap.size, 2, none⟩ = some (.int .i64 0) := hR4.cell (i := 2) (by omega)
  have f0 := hR4.frozen 0
  have f1 := hR4.frozen 1
  have f2 := hR4.frozen 2
  have HR4 := Lib.hid hR4
  obtain ⟨lg, hlg⟩ : ∃ x, lgN n lab (lbL lab n) = x := ⟨_, rfl⟩
  obtain ⟨cn, hcn⟩ : ∃ x, cntN n lab = x := ⟨_, rfl⟩
  obtain ⟨sq, hsq⟩ : ∃ x, sqN n lab (lbL lab n) = x := ⟨_, rfl⟩
  have HE := Lib.hid (And.intro hlg (And.intro hcn hsq))
  rw [hlg, hcn, hsq]
  clear b4 hlg hcn hsq hR4 H3 HB3 HB2
  go_wp2_with fail
  have H5 := ((HR4.out.set 0 (.int .i64 (lg : Nat))).set 1 (.int .i64 (cn : Nat))).set 2 (.int .i64 (sq : Nat))
  have HB5 := Lib.hid (((HB4.out.setCell (p := ⟨w.heap.size, 0, none⟩) (Nat.le_refl _) (.int .i64 (lg : Nat))).setCell (p := ⟨w.heap.size, 1, none⟩) (Nat.le_refl _) (.int .i64 (cn : Nat))).setCell (p := ⟨w.heap.size, 2, none⟩) (Nat.le_refl _) (.int .i64 (sq : Nat)))
  generalize ((w4.setCell ⟨w.heap.size, 0, none⟩ (.int .i64 (lg : Nat))).setCell ⟨w.heap.size, 1, none⟩ (.int .i64 (cn : Nat))).setCell ⟨w.heap.size, 2, none⟩ (.int .i64 (sq : Nat)) = wz at *
  have s0 := H5.cell (i := 0) (by omega)
  have s1 := H5.cell (i := 1) (by omega)
  have s2 := H5.cell (i := 2) (by omega)
  refine bodyPost_ret (v := .agg #[.int .i64 (lg : Nat), .int .i64 (cn : Nat), .int .i64 (sq : Nat)]) (by simp [results, Tryz.results14, go_sem, s0, s1, s2]) rfl ?_
  exact ⟨by rw [HE.out.1, HE.out.2.1, HE.out.2.2], HB5.out⟩
end
end Go.Proofs.YtpbgophogneecaaGreat
