/- Plain mathematics: distances by what holds at each edge; the chapter's example. Conditions: the graph is one that is accepted. -/
import Derived.Test.YtcpikabhcjkkmaaBrX
import Derived.Test.YtcpikabhcjkkmaaCyc
namespace Go.Proofs.Ytcpikabhcjkkmaa

theorem dist_local {n v : Nat} {E : List Ed} {S : Nat → Prop} {d : Nat → Int} (h0 : d v = 0) (hz : ∀ x, x < n → d x = 0 → x = v) (hn : ∀ x, x < n → d x < 0 → d x = -1)
    (hl : ∀ i a b, S i → Lnk E i a b → 0 ≤ d a → 0 ≤ d b ∧ d b ≤ d a + 1) (hr : ∀ x, x < n → 0 < d x → ∃ i y, S i ∧ Lnk E i x y ∧ y < n ∧ d y = d x - 1) : DistF E S n v d := by
  refine ⟨fun x hx h => ?_, fun x k hw => ?_, hn⟩
  · have key : ∀ (k x : Nat), x < n → d x = (k : Nat) → Wk E S v x k := by
      intro k
      induction k with
      | zero => intro x hx hk; rw [hz x hx hk]; exact .nil
      | succ k ih =>
        intro x hx hk
        obtain ⟨i, y, hi, hly, hy, hd⟩ := hr x hx (by omega)
        exact .snoc (ih y hy (by omega)) hi hly.symm
    exact key _ x hx (by omega)
  · induction hw with
    | nil => rw [h0]; omega
    | @snoc b c k i _ hi hlk ih =>
      have := hl i b c hi hlk ih.1
      omega
/-- the same, as a reckoning -/
def dchk (n : Nat) (E : List Ed) (p v : Nat) (l : List Int) : Bool :=
  decide (l.getD v (-1) = 0) && (List.range n).all (fun x => (decide (l.getD x (-1) = 0 → x = v) && decide (l.getD x (-1) < 0 → l.getD x (-1) = -1)) && (decide (l.getD x (-1) ≤ 0) || (adj E x).any fun i => decide (i ≠ p) && decide (l.getD (oN E x i) (-1) = l.getD x (-1) - 1)))
    && (List.range E.length).all fun i => decide (i = p) || (decide (0 ≤ l.getD (edP E i).1 (-1) → 0 ≤ l.getD (edP E i).2 (-1) ∧ l.getD (edP E i).2 (-1) ≤ l.getD (edP E i).1 (-1) + 1) && decide (0 ≤ l.getD (edP E i).2 (-1) → 0 ≤ l.getD (edP E i).1 (-1) ∧ l.getD (edP E i).1 (-1) ≤ l.getD (edP E i).2 (-1) + 1))
theorem dchk_ok {n : Nat} {E : List Ed} {p v : Nat} {l : List Int} (G : GOk n E) (h : dchk n E p v l = true) : DistF E (NE E p) n v fun x => l.getD x (-1) := by
  unfold dchk at h
  simp only [Bool.and_eq_true, Bool.or_eq_true, List.all_eq_true, List.any_eq_true, decide_eq_true_eq, List.mem_range] at h
  obtain ⟨⟨h0, h1⟩, h2⟩ := h
  refine dist_local h0 (fun x hx => (h1 x hx).1.1) (fun x hx => (h1 x hx).1.2) (fun i a b hi hl ha => ?_) fun x hx hp => ?_
  · rcases h2 i hi.1 with e | ⟨k1, k2⟩
    · exact absurd e hi.2
    · rcases hl with e | e <;> rw [e] at k1 k2
      · exact k1 ha
      · exact k2 ha
  · rcases (h1 x hx).2 with e | ⟨i, hi, hne, hd⟩
    · have hp : 0 < l.getD x (-1) := hp
      omega
    · obtain ⟨i1, i2⟩ := mem_adj.1 hi
      have := oN_lnk G i1 i2
      exact ⟨i, _, ⟨i1, hne⟩, this.1, this.2.2.1, hd⟩
/-- the cycle is what any distances say -/
theorem cyc_any {n : Nat} {E : List Ed} {p : Nat} {d d' : Nat → Int} (G : GOk n E) (hp : p < E.length) (h : DistF E (NE E p) n (edP E p).2 d) (h' : DistF E (NE E p) n (edP E p).2 d') : cyc E p d (edP E p).1 = cyc E p d' (edP E p).1 := by
  obtain ⟨a, b, ha, hb, h1, _⟩ := G.nats hp
  refine cyc_congr G (fun x hx => h.uniq h' hx) ?_
  unfold edP; rw [ha]; exact h1
/-! the example -/
def ex6 : List Ed := [⟨0, 1, 0⟩, ⟨1, 2, 0⟩, ⟨2, 0, 0⟩, ⟨2, 3, 0⟩, ⟨3, 4, 0⟩, ⟨4, 3, 0⟩]
theorem ex6_ok : GOk 6 ex6 := ⟨by decide, by decide, by decide⟩
theorem ex6_bri : briL ex6 = [3] := by decide +kernel
theorem ex6_cut : cutL 6 ex6 = [2, 3] := by decide +kernel
theorem ex6_lab : (List.range 6).map (labO ex6 (nbL ex6)) = [0, 0, 0, 3, 3, 5] := by decide +kernel
theorem ex6_blk : bkL ex6 = [[0, 1, 2], [3], [4, 5]] := by decide +kernel
theorem ex6_cyc (p : Nat) (l : List Int) (r : List Nat) (hp : p < 6) (h1 : dchk 6 ex6 p (edP ex6 p).2 l = true) (h2 : cyc ex6 p (fun x => l.getD x (-1)) (edP ex6 p).1 = r) {d : Nat → Int} (h : DistF ex6 (NE ex6 p) 6 (edP ex6 p).2 d) : cyc ex6 p d (edP ex6 p).1 = r := by
  rw [cyc_any ex6_ok hp h (dchk_ok ex6_ok h1), h2]
theorem ex6_cyc0 {d : Nat → Int} (h : DistF ex6 (NE ex6 0) 6 (edP ex6 0).2 d) : cyc ex6 0 d (edP ex6 0).1 = [0, 2, 1] := ex6_cyc 0 [2, 0, 1, 2, 3, -1] _ (by decide) (by decide +kernel) (by decide +kernel) h
theorem ex6_cyc4 {d : Nat → Int} (h : DistF ex6 (NE ex6 4) 6 (edP ex6 4).2 d) : cyc ex6 4 d (edP ex6 4).1 = [4, 5] := ex6_cyc 4 [3, 3, 2, 1, 0, -1] _ (by decide) (by decide +kernel) (by decide +kernel) h
theorem ex6_cyc3 {d : Nat → Int} (h : DistF ex6 (NE ex6 3) 6 (edP ex6 3).2 d) : cyc ex6 3 d (edP ex6 3).1 = [] := ex6_cyc 3 [-1, -1, -1, 0, 1, -1] _ (by decide) (by decide +kernel) (by decide +kernel) h
end Go.Proofs.Ytcpikabhcjkkmaa
