/- The walk of the law LiftAbove. Conditions: the bytes are given as cells; the library's table of de Bruijn is as its initialiser lays it. -/
import Derived.Test.YtbjakjgabolkeaaDoorHold
namespace Go.Proofs.YtbjakjgabolkeaaDoor
open Go.RowKit Go.Shelf

/-- how many of the first k nodes are above v -/
def aboveTo (p : List Int) (v k : Nat) : Nat := ((List.range k).filter fun a => isAnc p a v).length
theorem aboveTo_succ (p : List Int) (v k : Nat) : aboveTo p v (k + 1) = aboveTo p v k + (if isAnc p k v then 1 else 0) := by
  simp only [aboveTo, List.range_succ, List.filter_append, List.length_append, List.filter_cons, List.filter_nil]
  cases isAnc p k v <;> simp
theorem aboveTo_le (p : List Int) (v k : Nat) : aboveTo p v k ≤ k := by
  have := List.length_filter_le (fun a => isAnc p a v) (List.range k); simpa [aboveTo] using this
theorem aboveTo_all {p : List Int} (F : Tree p) {v : Nat} (hv : v < p.length) : aboveTo p v p.length = dp p v + 1 := by
  let f : Nat → Nat := fun k => (anc p k v).getD 0
  have hf : ∀ k, k < dp p v + 1 → anc p k v = some (f k) := fun k hk => by
    obtain ⟨u, hu⟩ := anc_some F k v hv (by omega)
    simp [f, hu]
  have hd : ∀ k, k < dp p v + 1 → dp p v = dp p (f k) + k := fun k hk => anc_d F hv (hf k hk)
  have hn : ((List.range (dp p v + 1)).map f).Nodup := by
    rw [List.nodup_iff_pairwise_ne, List.pairwise_map]
    refine List.Pairwise.imp_of_mem ?_ (List.nodup_iff_pairwise_ne.1 (List.nodup_range (n := dp p v + 1)))
    intro a b ha hb hne he
    have h1 := hd a (by simpa using ha)
    have h2 := hd b (by simpa using hb)
    rw [he] at h1; omega
  have hm : ((List.range p.length).filter fun a => isAnc p a v).Nodup := List.nodup_range.filter _
  have h1 := hn.length_le_of_subset (l₂ := (List.range p.length).filter fun a => isAnc p a v) (by
    intro x hx
    obtain ⟨k, hk, rfl⟩ := List.mem_map.1 hx
    have hk' := hf k (by simpa using hk)
    simp only [List.mem_filter, List.mem_range]
    exact ⟨anc_lt F hv hk', (isAnc_iff F hv).2 ⟨k, hk'⟩⟩)
  have h2 := hm.length_le_of_subset (l₂ := (List.range (dp p v + 1)).map f) (by
    intro x hx
    simp only [List.mem_filter, List.mem_range] at hx
    obtain ⟨k, hk⟩ := (isAnc_iff F hv).1 hx.2
    have hk2 := anc_d F hv hk
    refine List.mem_map.2 ⟨k, by simp; omega, ?_⟩
    simp [f, hk])
  simp only [List.length_map, List.length_range] at h1 h2
  unfold aboveTo
  omega
theorem ab_at {p : List Int} {a v : Nat} (ha : a < p.length) (hv : v < p.length) : abB p a v = isAnc p a v := by
  simp [abB, inB_iff.2 ⟨a, rfl, ha⟩, inB_iff.2 ⟨v, rfl, hv⟩]
theorem ab0 {p : List Int} (h : p.length = 0) : abB p 0 0 = false := by
  have : inB p 0 = false := by simp [inB, h]
  simp [abB, this]

set_option maxRecDepth 100000 in
set_option maxHeartbeats 8000000 in
theorem aboves_walk (B : Nat) (ao : Option Addr) (cap : Nat) (A : Nat → Addr) (L : List Int) (turned : Bool) (x : Nat) (w : World) (hT : DeB w) (hS : Sl 22 .u8 w B (.slice ao L.length cap) L A) (hB : B ≤ w.heap.size) (hc : L.length ≤ cap) (hm : L.length ≤ 9223372036854775807) (hb : ∀ i, i < L.length → 0 ≤ nth L i ∧ nth L i ≤ 255) (hx : x ≤ 65535) :
    Calls Tryd.prog 6 #[.slice ao L.length cap, .bool turned, .int .u16 x] w fun e w' => e = .returned (.bool true) ∧ Below w.heap.size w w' := by
  have hM := made_any B ao cap A L turned w hT hS hB hc hm hb
  clear hS hB hc hb hT
  generalize madeL L turned = p at hM
  go_enter Tryd.func6, Tryd.ntmps6
  go_wp2_with fail
  refine hM.mono ?_
  rintro e w1 ⟨b0, a1, cap1, A1, K, rfl, S, hSp⟩
  clear hM
  by_cases h0 : p.length = 0
  · have h0' : ((p.length : Int) == 0) = true := by rw [h0]; rfl
    have hd0 := ab0 h0
    clear h0
    go_wp2_with fail
    refine (S.above hd0).mono ?_
    rintro e w2 ⟨rfl, S2⟩
    go_wp2_with fail
    refine (works_any _ S2.deb).mono ?_
    rintro e w3 ⟨rfl, hb3⟩
    go_wp2_with fail
    go_ret
    exact ⟨rfl, (S2.step hb3).bel⟩
  · have h0' : ((p.length : Int) == 0) = false := by rw [beq_eq_false_iff_ne]; omega
    have hn : (1 : Int) ≤ p.length := by omega
    have hsm := S.tab.small
    obtain ⟨v, hv, hvl⟩ := mod_nat x (show 0 < p.length by omega)
    have F := S.tab.tree
    have dv := dep_lt F hvl
    have HV := Lib.hid hv; have D1 := Lib.hid (dp_v hvl); have HF := Lib.hid F
    have S0 := S.top.hold hSp
    clear h0 hv F S hSp
    go_wp2_with fail
    rw [HV.out]
    clear HV
    go_loopw [10, 11] (fun c i wr => ∃ k : Nat, k ≤ p.length ∧ i = .int .i64 k ∧ c = .int .i64 (aboveTo p v k) ∧ SQ w w1.heap.size b0 p (fun w => Sl 25 .i64 w w1.heap.size (.slice a1 p.length cap1) p A1) wr) (fun _ i _ => p.length - (intOf i).toNat)
    case atStart => exact ⟨0, Nat.zero_le _, rfl, rfl, S0⟩
    case round =>
      obtain ⟨k, hk, rfl, rfl, S1⟩ := hrel
      clear S0
      by_cases hlt : k < p.length
      · have D2 := Lib.hid (dp_v hlt)
        have hin := up_above HF.out (x := k) hvl
        have hab := Lib.hid (ab_at hlt hvl)
        have hsu := aboveTo_succ p v k
        have hle := aboveTo_le p v k
        have dk := dep_lt HF.out hlt
        obtain ⟨X, hX⟩ : ∃ X, upV p v ((dp p v : Int) - dp p k) = X := ⟨_, rfl⟩
        obtain ⟨O, hO⟩ : ∃ O, upB p v ((dp p v : Int) - dp p k) = O := ⟨_, rfl⟩
        obtain ⟨Z, hZ⟩ : ∃ Z, isAnc p k v = Z := ⟨_, rfl⟩
        rw [hX, hO, hZ] at hin
        rw [hZ] at hsu hab
        have HX := Lib.hid hX; have HO := Lib.hid hO; have HSU := Lib.hid hsu; have HIN := Lib.hid hin
        clear hX hO hsu hZ hin
        go_wp2_with fail
        refine (S1.depth D1.out).mono ?_
        rintro e w2 ⟨rfl, S2⟩
        clear S1
        go_wp2_with fail
        refine (S2.depth D2.out).mono ?_
        rintro e w3 ⟨rfl, S3⟩
        clear S2
        go_wp2_with fail
        refine (S3.up HX.out HO.out).mono ?_
        rintro e w4 ⟨rfl, S4⟩
        clear S3
        go_wp2_with fail
        refine (S4.above hab.out).mono ?_
        rintro e w5 ⟨rfl, S5⟩
        clear S4
        have hin := HIN.out
        clear HIN HX HO
        cases O
        · have e : Z = false := by simpa using hin.symm
          subst e
          clear hin
          go_wp2_with fail
          refine (S5.above hab.out).mono ?_
          rintro e w6 ⟨rfl, S6⟩
          clear S5
          have hsu : aboveTo p v (k + 1) = aboveTo p v k := by rw [HSU.out]; rfl
          clear HSU
          go_wp2_with fail
          go_roundw
          case rel => exact ⟨k + 1, by omega, by go_num, by rw [hsu], S6⟩
          case measure => simp [intOf]; omega
        · rw [Bool.true_and] at hin
          cases Z
          · go_wp2_with fail
            refine (S5.above hab.out).mono ?_
            rintro e w6 ⟨rfl, S6⟩
            clear S5
            have hsu : aboveTo p v (k + 1) = aboveTo p v k := by rw [HSU.out]; rfl
            clear HSU
            go_wp2_with fail
            go_roundw
            case rel => exact ⟨k + 1, by omega, by go_num, by rw [hsu], S6⟩
            case measure => simp [intOf]; omega
          · go_wp2_with fail
            refine (S5.above hab.out).mono ?_
            rintro e w6 ⟨rfl, S6⟩
            clear S5
            have hsu : aboveTo p v (k + 1) = aboveTo p v k + 1 := by rw [HSU.out]; rfl
            clear HSU
            go_wp2_with fail
            go_roundw
            case rel => exact ⟨k + 1, by omega, by go_num, by rw [hsu]; go_num, S6⟩
            case measure => simp [intOf]; omega
      · obtain rfl : k = p.length := by omega
        have hall := Lib.hid (aboveTo_all HF.out hvl)
        have hq : ((aboveTo p v p.length : Int) == (dp p v : Int) + 1) = true := by rw [beq_iff_eq, hall.out]; omega
        go_wp2_with fail
        refine (S1.depth D1.out).mono ?_
        rintro e w2 ⟨rfl, S2⟩
        clear S1
        go_wp2_with fail
        refine S2.works.mono ?_
        rintro e w3 ⟨rfl, S3⟩
        go_wp2_with fail
        go_ret
        exact ⟨rfl, S3.st.bel⟩
end Go.Proofs.YtbjakjgabolkeaaDoor
