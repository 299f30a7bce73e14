/- Plain mathematics: the edges of the cycle are in one block; the cycle leads back. Conditions: the graph is one that is accepted. -/
import Derived.Test.YtcpikabhcjkkmaaBpB
namespace Go.Proofs.Ytcpikabhcjkkmaa

section
variable {n : Nat} {E : List Ed} {p a v : Nat} {d : Nat → Int}
theorem ne_of_d {x y : Nat} (h : d x ≠ d y) : x ≠ y := fun c => h (by rw [c])
theorem chn_zero {x : Nat} : chn E p d 0 x = [] := rfl
/-- from a vertex of the way back on to its end, without one that is farther away -/
theorem way_on (G : GOk n E) (h : DistF E (NE E p) n v d) : ∀ (k x z : Nat), x < n → d x = (k : Nat) → (k : Int) < d z → CI E (noV E z) x v
  | 0, x, z, hx, hk, _ => by rw [zero_root h hx hk]; exact .refl _
  | k + 1, x, z, hx, hk, hz => by
    obtain ⟨i, hi⟩ := nx_some G h hx (by omega)
    obtain ⟨h1, h2, _, h4⟩ := nx_mem hi
    have hl := oN_lnk G h1 h2
    have hr := way_on G h k (oN E x i) z hl.2.2.1 (by omega) (by omega)
    exact (CI.one (noV_of h1 hl.1 (ne_of_d (d := d) (by omega)) (ne_of_d (d := d) (by omega))) hl.1).trans hr
theorem cyc_near' (G : GOk n E) (hp : p < E.length) (hl : Lnk E p a v) (h : DistF E (NE E p) n v d) : ∀ (k x : Nat), x < n → d x = (k : Nat) → d x ≤ d a → (∀ z, d z < d x → CI E (noV E z) a x) →
    (∃ g w, NearC E p g ∧ g < E.length ∧ Lnk E g x w ∧ (0 < d x → CI E (noV E x) w v)) → ∀ c, c ∈ chn E p d k x → NearC E p c
  | 0, _, _, _, _, _, _, _, hc => absurd hc (by simp [chn_zero])
  | k + 1, x, hx, hk, hxa, hpre, ⟨g, w, hg, hgl, hgx, hgw⟩, c, hc => by
    obtain ⟨i, hi⟩ := nx_some G h hx (by omega)
    obtain ⟨h1, h2, _, h4⟩ := nx_mem hi
    have hx1 := oN_lnk G h1 h2
    rw [chn_step hi] at hc
    have hyk : d (oN E x i) = (k : Nat) := by omega
    have hci : NearC E p i := .step hg ⟨hgl, h1, x, w, oN E x i, hgx, hx1.1, .inr ((hgw (by omega)).trans (way_on G h k (oN E x i) x hx1.2.2.1 hyk (by omega)).symm)⟩
    rcases List.mem_cons.1 hc with rfl | hc
    · exact hci
    · have hd0 := h.root
      refine cyc_near' G hp hl h k (oN E x i) hx1.2.2.1 hyk (by omega) (fun z hz => ?_) ⟨i, x, hci, h1, hx1.1.symm, fun h0 => ?_⟩ c hc
      · exact (hpre z (by omega)).trans (CI.one (noV_of h1 hx1.1 (ne_of_d (d := d) (by omega)) (ne_of_d (d := d) (by omega))) hx1.1)
      · exact (hpre (oN E x i) (by omega)).symm.trans (CI.one (noV_of hp hl (ne_of_d (d := d) (by omega)) (ne_of_d (d := d) (by omega))) hl)
/-- the edges of the cycle are in one block -/
theorem cyc_near (G : GOk n E) (hp : p < E.length) (hl : Lnk E p a v) (h : DistF E (NE E p) n v d) {c : Nat} (hc : c ∈ cyc E p d a) : NearC E p c := by
  unfold cyc at hc
  split at hc
  · exact absurd hc (by simp)
  · rename_i h0
    rcases List.mem_cons.1 hc with rfl | hc
    · exact .refl _
    · have ha := (ends_ne G hp hl).2.1
      exact cyc_near' G hp hl h _ a ha (by omega) (Int.le_refl _) (fun z hz => .refl _) ⟨p, v, .refl _, hp, hl, fun _ => .refl _⟩ c hc
theorem cyc_len (G : GOk n E) (h : DistF E (NE E p) n v d) (ha : a < n) (h0 : 0 ≤ d a) : (cyc E p d a).length = (d a).toNat + 1 := by
  unfold cyc
  rw [if_neg (by omega), List.length_cons, chn_len G h _ a ha (by omega)]
/-- there is no way back if the edge is a bridge -/
theorem cyc_none (hp : p < E.length) (hl : Lnk E p a v) (h : DistF E (NE E p) n v d) (ha : a < n) : d a < 0 ↔ p ∈ briL E := by
  have h1 := h.iff ha
  rw [mem_briL]
  unfold Bri
  rw [ci_lnk hl]
  constructor
  · intro c
    exact ⟨hp, fun hc => by have := h1.2 hc.symm; omega⟩
  · rintro ⟨_, c⟩
    rcases Int.lt_or_le (d a) 0 with k | k
    · exact k
    · exact absurd (h1.1 k).symm c
end
end Go.Proofs.Ytcpikabhcjkkmaa
