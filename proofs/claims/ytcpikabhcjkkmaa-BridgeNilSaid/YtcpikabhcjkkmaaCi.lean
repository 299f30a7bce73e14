/- Plain mathematics: vertices that edges of a set join. No conditions. -/
import Derived.Test.YtcpikabhcjkkmaaFst
namespace Go.Proofs.Ytcpikabhcjkkmaa

/-- an edge between two vertices -/
def Lnk (E : List Ed) (i a b : Nat) : Prop := edP E i = (a, b) ∨ edP E i = (b, a)
theorem Lnk.symm {E : List Ed} {i a b : Nat} (h : Lnk E i a b) : Lnk E i b a := h.elim .inr .inl
/-- joined by edges of a set -/
inductive CI (E : List Ed) (S : Nat → Prop) : Nat → Nat → Prop
  | refl (a : Nat) : CI E S a a
  | step {a b c : Nat} (i : Nat) (h : CI E S a b) (hi : S i) (e : Lnk E i b c) : CI E S a c
section
variable {E : List Ed} {S T : Nat → Prop} {a b c : Nat}
theorem CI.trans (h : CI E S a b) (k : CI E S b c) : CI E S a c := by
  induction k with
  | refl => exact h
  | step i _ hi e ih => exact .step i ih hi e
theorem CI.one {i : Nat} (hi : S i) (e : Lnk E i a b) : CI E S a b := .step i (.refl a) hi e
theorem CI.symm (h : CI E S a b) : CI E S b a := by
  induction h with
  | refl => exact .refl _
  | step i _ hi e ih => exact (CI.one hi e.symm).trans ih
theorem CI.mono (h : CI E S a b) (hs : ∀ i, S i → T i) : CI E T a b := by
  induction h with
  | refl => exact .refl _
  | step i _ hi e ih => exact .step i ih (hs i hi) e
theorem ci_cn {o : List Nat} : CI E (· ∈ o) a b ↔ Cn (o.map (edP E)) a b := by
  constructor
  · intro h
    induction h with
    | refl => exact .refl _
    | @step b c i _ hi e ih => exact .step ih (e.imp (fun e => by rw [← e]; exact List.mem_map_of_mem hi) (fun e => by rw [← e]; exact List.mem_map_of_mem hi))
  · intro h
    induction h with
    | refl => exact .refl _
    | step _ e ih =>
      rcases e with e | e
      · obtain ⟨i, hi, he⟩ := List.mem_map.1 e
        exact .step i ih hi (.inl he)
      · obtain ⟨i, hi, he⟩ := List.mem_map.1 e
        exact .step i ih hi (.inr he)
end
/-- a set without one edge -/
def wo (S : Nat → Prop) (i : Nat) : Nat → Prop := fun j => S j ∧ j ≠ i
section
variable {E : List Ed} {F : Nat → Prop} {v u t i : Nat}
/-- the first edge of a path that does not come back -/
theorem ci_first {S : Nat → Prop} (h : CI E S v t) (hne : v ≠ t) : ∃ i u, S i ∧ Lnk E i v u ∧ CI E (wo S i) u t := by
  induction h with
  | refl => exact absurd rfl hne
  | @step b c e _ he hl ih =>
    by_cases hb : v = b
    · subst hb; exact ⟨e, c, he, hl, .refl _⟩
    · obtain ⟨i, u, h1, h2, h3⟩ := ih hb
      refine ⟨i, u, h1, h2, ?_⟩
      by_cases hei : e = i
      · subst hei
        have : b = u ∧ c = v ∨ b = v ∧ c = u := by
          rcases hl with x | x <;> rcases h2 with y | y <;> rw [x] at y <;> simp at y <;> omega
        rcases this with ⟨x, y⟩ | ⟨x, _⟩
        · exact absurd y.symm hne
        · exact absurd x.symm hb
      · exact .step e h3 ⟨he, hei⟩ hl
/-- a path without an edge, or up to it -/
theorem ci_split {S : Nat → Prop} {a b x : Nat} (hl : Lnk E i a b) (h : CI E S x t) (hx : x = a ∨ x = b) : CI E (wo S i) a t ∨ CI E (wo S i) b t := by
  induction h with
  | refl =>
    rcases hx with e | e
    · rw [e]; exact .inl (.refl _)
    · rw [e]; exact .inr (.refl _)
  | @step y z e _ he hle ih =>
    by_cases hei : e = i
    · subst hei
      have : z = a ∨ z = b := by
        rcases hl with p | p <;> rcases hle with q | q <;> rw [p] at q <;> simp at q <;> omega
      rcases this with e | e
      · rw [e]; exact .inl (.refl _)
      · rw [e]; exact .inr (.refl _)
    · exact ih.imp (fun k => .step e k ⟨he, hei⟩ hle) (fun k => .step e k ⟨he, hei⟩ hle)
end
section
variable {E : List Ed} {S T : Nat → Prop} {o : List Nat} {a b x y i k : Nat}
theorem ci_ends (h : ∀ k, S k → CI E T (edP E k).1 (edP E k).2) (hc : CI E S a b) : CI E T a b := by
  induction hc with
  | refl => exact .refl _
  | @step b c k _ hk hl ih =>
    have h1 := h k hk
    rcases hl with e | e
    · rw [e] at h1; exact ih.trans h1
    · rw [e] at h1; exact ih.trans h1.symm
theorem ci_add (hl : edP E i = (a, b)) (h : CI E (fun k => S k ∨ k = i) x y) : CI E S x y ∨ (CI E S x a ∧ CI E S b y) ∨ (CI E S x b ∧ CI E S a y) := by
  induction h with
  | refl => exact .inl (.refl _)
  | @step c d k _ hk hl2 ih =>
    by_cases hki : k = i
    · subst hki
      have hcd : (c = a ∧ d = b) ∨ (c = b ∧ d = a) := by
        rcases hl2 with e | e <;> rw [hl] at e <;> simp at e <;> omega
      rcases hcd with ⟨rfl, rfl⟩ | ⟨rfl, rfl⟩
      · rcases ih with h | ⟨h1, h2⟩ | ⟨h1, h2⟩
        · exact .inr (.inl ⟨h, .refl _⟩)
        · exact .inr (.inl ⟨h1, .refl _⟩)
        · exact .inl h1
      · rcases ih with h | ⟨h1, h2⟩ | ⟨h1, h2⟩
        · exact .inr (.inr ⟨h, .refl _⟩)
        · exact .inl h1
        · exact .inr (.inr ⟨h1, .refl _⟩)
    · have hS := hk.resolve_right hki
      rcases ih with h | ⟨h1, h2⟩ | ⟨h1, h2⟩
      · exact .inl (.step k h hS hl2)
      · exact .inr (.inl ⟨h1, .step k h2 hS hl2⟩)
      · exact .inr (.inr ⟨h1, .step k h2 hS hl2⟩)
theorem ci_one (hk : S k) : CI E S (edP E k).1 (edP E k).2 := CI.one hk (.inl rfl)
theorem ci_lab {a b : Nat} : CI E (· ∈ o) a b ↔ labO E o a = labO E o b := by
  rw [ci_cn]; exact (labL_cn _ a b).symm
end
end Go.Proofs.Ytcpikabhcjkkmaa
