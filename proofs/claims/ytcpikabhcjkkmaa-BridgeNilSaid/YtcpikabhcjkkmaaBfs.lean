/- Plain mathematics of distances: walks over edges of a set, how many steps a shortest one has; the breadth first search. Conditions: the graph is one that is accepted. -/
import Derived.Test.YtcpikabhcjkkmaaBrC
import Derived.Test.YtcpikabhcjkkmaaNdp
namespace Go.Proofs.Ytcpikabhcjkkmaa

/-- a walk of so many steps over edges of a set -/
inductive Wk (E : List Ed) (S : Nat → Prop) (a : Nat) : Nat → Nat → Prop
  | nil : Wk E S a a 0
  | snoc {b c k i : Nat} (h : Wk E S a b k) (hi : S i) (hl : Lnk E i b c) : Wk E S a c (k + 1)
/-- the distances from a vertex; -1: there is no walk -/
structure DistF (E : List Ed) (S : Nat → Prop) (n v : Nat) (d : Nat → Int) : Prop where
  up : ∀ x, x < n → 0 ≤ d x → Wk E S v x (d x).toNat
  lo : ∀ x k, Wk E S v x k → 0 ≤ d x ∧ d x ≤ k
  neg : ∀ x, x < n → d x < 0 → d x = -1
section
variable {n : Nat} {E : List Ed} {S T : Nat → Prop} {a b v : Nat} {d d' : Nat → Int}
theorem Wk.mono {x k : Nat} (h : Wk E S a x k) (hs : ∀ i, S i → T i) : Wk E T a x k := by
  induction h with
  | nil => exact .nil
  | snoc _ hi hl ih => exact .snoc ih (hs _ hi) hl
theorem DistF.uniq (h : DistF E S n v d) (h' : DistF E S n v d') {x : Nat} (hx : x < n) : d x = d' x := by
  by_cases c : 0 ≤ d x
  · have h1 := h'.lo x _ (h.up x hx c)
    have h2 := h.lo x _ (h'.up x hx h1.1)
    omega
  · by_cases c' : 0 ≤ d' x
    · have := h.lo x _ (h'.up x hx c'); omega
    · rw [h.neg x hx (by omega), h'.neg x hx (by omega)]
theorem DistF.congr (h : DistF E S n v d) (hs : ∀ i, S i ↔ T i) : DistF E T n v d :=
  ⟨fun x hx h0 => (h.up x hx h0).mono fun i hi => (hs i).1 hi, fun x k hw => h.lo x k (hw.mono fun i hi => (hs i).2 hi), h.neg⟩
theorem wk_ci {x k : Nat} (h : Wk E S a x k) : CI E S a x := by
  induction h with
  | nil => exact .refl _
  | snoc _ hi hl ih => exact .step _ ih hi hl
theorem ci_wk {x : Nat} (h : CI E S a x) : ∃ k, Wk E S a x k := by
  induction h with
  | refl => exact ⟨0, .nil⟩
  | step i _ hi hl ih =>
    obtain ⟨k, hk⟩ := ih
    exact ⟨k + 1, .snoc hk hi hl⟩
/-- there is a walk where the distance is not -1 -/
theorem DistF.iff (h : DistF E S n v d) {x : Nat} (hx : x < n) : 0 ≤ d x ↔ CI E S v x := by
  constructor
  · intro h0; exact wk_ci (h.up x hx h0)
  · intro hc
    obtain ⟨k, hk⟩ := ci_wk hc
    exact (h.lo x k hk).1
/-- a vertex has a neighbour that is one step nearer -/
theorem DistF.near (G : GOk n E) (hS : ∀ i, S i → i < E.length) (h : DistF E S n v d) {x : Nat} (hx : x < n) (h0 : 0 < d x) : ∃ i y, S i ∧ Lnk E i x y ∧ y < n ∧ d y = d x - 1 := by
  have hw := h.up x hx (by omega)
  obtain ⟨k, hk⟩ : ∃ k, (d x).toNat = k + 1 := ⟨(d x).toNat - 1, by omega⟩
  rw [hk] at hw
  cases hw with
  | @snoc b _ _ i hb hi hl =>
    have hbn := (ends_ne G (hS i hi) hl).2.1
    have h1 := h.lo b k hb
    have h2 := h.lo x _ (.snoc (h.up b hbn h1.1) hi hl)
    exact ⟨i, b, hi, hl.symm, hbn, by omega⟩
theorem DistF.root (h : DistF E S n v d) : d v = 0 := by
  have := h.lo v 0 .nil
  omega
/-! the search -/
/-- the search between two vertices: f tells the distances found, Q the vertices in the queue -/
structure BfI (n : Nat) (E : List Ed) (v : Nat) (f : Nat → Int) (Q : List Nat) : Prop where
  root : f v = 0
  wk : ∀ x, 0 ≤ f x → x < n ∧ Wk E (· < E.length) v x (f x).toNat
  neg : ∀ x, f x < 0 → f x = -1
  q : ∀ x, x ∈ Q → 0 ≤ f x
  done : ∀ u x i, 0 ≤ f u → u ∉ Q → i < E.length → Lnk E i u x → 0 ≤ f x ∧ f x ≤ f u + 1
  ord : Q.Pairwise fun x y => f x ≤ f y
  hd : ∀ u Q', Q = u :: Q' → ∀ x, 0 ≤ f x → f x ≤ f u + 1
/-- the search at a vertex u, whose edges in pre have been looked at -/
structure BfU (n : Nat) (E : List Ed) (v u : Nat) (pre : List Nat) (f : Nat → Int) (Q : List Nat) : Prop where
  un : u < n
  u0 : 0 ≤ f u
  root : f v = 0
  wk : ∀ x, 0 ≤ f x → x < n ∧ Wk E (· < E.length) v x (f x).toNat
  neg : ∀ x, f x < 0 → f x = -1
  q : ∀ x, x ∈ Q → f u ≤ f x
  done : ∀ y x i, 0 ≤ f y → y ∉ Q → y ≠ u → i < E.length → Lnk E i y x → 0 ≤ f x ∧ f x ≤ f y + 1
  pre : ∀ x i, i ∈ pre → Lnk E i u x → 0 ≤ f x ∧ f x ≤ f u + 1
  ord : Q.Pairwise fun x y => f x ≤ f y
  top : ∀ x, 0 ≤ f x → f x ≤ f u + 1
theorem BfI.start (hv : v < n) : BfI n E v (upd (fun _ => -1) v 0) [v] := by
  have h0 : ∀ x, 0 ≤ upd (fun _ => (-1 : Int)) v 0 x → x = v := fun x hx => by
    by_cases c : x = v
    · exact c
    · rw [upd_ne _ _ c] at hx; omega
  refine ⟨upd_at _ _ _, fun x hx => ?_, fun x hx => ?_, fun x hx => ?_, fun u x i hu hq => ?_, List.pairwise_singleton _ _, fun u Q' hq x hx => ?_⟩
  · obtain rfl := h0 x hx
    rw [upd_at]
    exact ⟨hv, .nil⟩
  · by_cases c : x = v
    · rw [c, upd_at] at hx; omega
    · rw [upd_ne _ _ c]
  · rw [List.mem_singleton.1 hx, upd_at]; exact Int.le_refl _
  · exact absurd (by rw [h0 u hu]; simp) hq
  · rw [h0 x hx, upd_at]
    have : u = v := by simp at hq; exact hq.1.symm
    rw [this, upd_at]; omega
theorem BfI.take {f : Nat → Int} {u : Nat} {Q : List Nat} (h : BfI n E v f (u :: Q)) : BfU n E v u [] f Q := by
  have hu := h.q u (List.mem_cons_self ..)
  have ho := List.pairwise_cons.1 h.ord
  exact ⟨(h.wk u hu).1, hu, h.root, h.wk, h.neg, fun x hx => ho.1 x hx, fun y x i hy hq hne hi hl => h.done y x i hy (by simp [hq, hne]) hi hl, fun x i hi => absurd hi (by simp), ho.2, h.hd u Q rfl⟩
theorem BfU.old {f : Nat → Int} {u i w : Nat} {Q pre : List Nat} (h : BfU n E v u pre f Q) (hw : 0 ≤ f w) (hne : ∀ x, Lnk E i u x → x = w) : BfU n E v u (pre ++ [i]) f Q :=
  ⟨h.un, h.u0, h.root, h.wk, h.neg, h.q, h.done, fun x j hj hlj => by
    rcases List.mem_append.1 hj with hj | hj
    · exact h.pre x j hj hlj
    · rw [List.mem_singleton.1 hj] at hlj
      rw [hne x hlj]
      exact ⟨hw, h.top w hw⟩, h.ord, h.top⟩
theorem BfU.new {f : Nat → Int} {u i w : Nat} {Q pre : List Nat} (h : BfU n E v u pre f Q) (hi : i < E.length) (hl : Lnk E i u w) (hwn : w < n) (hw : f w < 0) (hne : ∀ x, Lnk E i u x → x = w) : BfU n E v u (pre ++ [i]) (upd f w (f u + 1)) (Q ++ [w]) := by
  have hk : ∀ x, 0 ≤ f x → upd f w (f u + 1) x = f x := fun x hx => upd_ne _ _ fun c => by rw [c] at hx; omega
  have hu0 := h.u0
  have e0 := hk u hu0
  have hq0 : ∀ x, x ∈ Q → 0 ≤ f x := fun x hx => by have := h.q x hx; omega
  have hnew : ∀ x, 0 ≤ upd f w (f u + 1) x → 0 ≤ f x ∨ x = w := fun x hx => by
    by_cases c : x = w
    · exact .inr c
    · rw [upd_ne _ _ c] at hx; exact .inl hx
  have step : ∀ x, 0 ≤ f x ∧ f x ≤ f u + 1 → 0 ≤ upd f w (f u + 1) x ∧ upd f w (f u + 1) x ≤ f u + 1 := fun x hx => by rw [hk x hx.1]; exact hx
  refine ⟨h.un, by rw [e0]; exact hu0, by rw [hk v (by rw [h.root]; exact Int.le_refl _)]; exact h.root, fun x hx => ?_, fun x hx => ?_, fun x hx => ?_, fun y x j hy hq hyu hj hlj => ?_, fun x j hj hlj => ?_, ?_, fun x hx => ?_⟩
  · rcases hnew x hx with c | rfl
    · rw [hk x c]; exact h.wk x c
    · rw [upd_at]
      have := (h.wk u hu0).2
      refine ⟨hwn, ?_⟩
      have e : (f u + 1).toNat = (f u).toNat + 1 := by omega
      rw [e]
      exact .snoc this hi hl
  · by_cases c : x = w
    · rw [c, upd_at] at hx; omega
    · rw [upd_ne _ _ c] at hx ⊢; exact h.neg x hx
  · rw [e0]
    rcases List.mem_append.1 hx with hx | hx
    · rw [hk x (hq0 x hx)]; exact h.q x hx
    · rw [List.mem_singleton.1 hx, upd_at]; omega
  · have hyw : y ≠ w := fun c => hq (by rw [c]; simp)
    rw [upd_ne _ _ hyw] at hy ⊢
    have := h.done y x j hy (fun c => hq (List.mem_append_left _ c)) hyu hj hlj
    rw [hk x this.1]; exact this
  · rw [e0]
    rcases List.mem_append.1 hj with hj | hj
    · exact step x (h.pre x j hj hlj)
    · rw [List.mem_singleton.1 hj] at hlj
      rw [hne x hlj, upd_at]; omega
  · rw [List.pairwise_append]
    refine ⟨h.ord.imp_of_mem fun {a b} ha hb hab => ?_, List.pairwise_singleton _ _, fun a ha b hb => ?_⟩
    · rw [hk a (hq0 a ha), hk b (hq0 b hb)]; exact hab
    · rw [List.mem_singleton.1 hb, upd_at, hk a (hq0 a ha)]
      exact h.top a (hq0 a ha)
  · rw [e0]
    rcases hnew x hx with c | rfl
    · rw [hk x c]; exact h.top x c
    · rw [upd_at]; exact Int.le_refl _
theorem BfU.done' {f : Nat → Int} {u : Nat} {Q pre : List Nat} (h : BfU n E v u pre f Q) (hp : ∀ i x, i < E.length → Lnk E i u x → i ∈ pre) : BfI n E v f Q := by
  refine ⟨h.root, h.wk, h.neg, fun x hx => by have := h.q x hx; have := h.u0; omega, fun y x i hy hq hi hl => ?_, h.ord, fun y Q' hq x hx => ?_⟩
  · by_cases c : y = u
    · subst c; exact h.pre x i (hp i x hi hl) hl
    · exact h.done y x i hy hq c hi hl
  · have h1 := h.top x hx
    have h2 := h.q y (by rw [hq]; exact List.mem_cons_self ..)
    omega
theorem BfI.dist {f : Nat → Int} (h : BfI n E v f []) : DistF E (· < E.length) n v f := by
  refine ⟨fun x hx h0 => (h.wk x h0).2, fun x k hw => ?_, fun x _ hx => h.neg x hx⟩
  induction hw with
  | nil => rw [h.root]; omega
  | @snoc b c k i hb hi hl ih =>
    have := h.done b c i ih.1 (by simp) hi hl
    omega
end
end Go.Proofs.Ytcpikabhcjkkmaa
