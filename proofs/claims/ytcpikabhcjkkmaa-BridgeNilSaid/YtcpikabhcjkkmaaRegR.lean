/- A region that draws its order, inside a round of a loop over a function: what is shown of it outside of every fence holds there too. Conditions: no operation defers a call; it ends normally. -/
import Derived.OrdersHeld
import Derived.Deep.RegionHeld
import Derived.OrdersIn
import Derived.RangeFuncNested
import Derived.Test.YtcpikabhcjkkmaaRows
namespace Go.Proofs.Ytcpikabhcjkkmaa
open Go.RowKit

section
variable {P : Program} {ops : Array Oper} {l n : Nat} {md : Region.Mode}
/-- an end that is normal -/
def NormalOnly (K : Act → World → Prop) : Exit → Act → World → Prop := fun e a w => e = .normal ∧ K a w
theorem NormalOnly.panic {K : Act → World → Prop} {c : List PanicEntry} {a : Act} {w : World} (h : NormalOnly K (.panic c) a w) : False := by cases h.1
theorem not_letsOut (K : Act → World → Prop) : ¬ LetsOut (NormalOnly K) := fun ⟨_, _, h, _⟩ => by cases h
theorem oper_round {o : Oper} {a : Act} {w : World} {K X : Act → World → Prop} (hd : ∀ c, o.op ≠ .defer c) (h : Oper.wp P o a w K (NormalOnly X)) : Oper.wpIn (Fence.wide.inRound l) n P o a w K (NormalOnly X) := by
  refine ⟨fun _ _ => trivial, ?_⟩
  rw [Oper.semAt_eq _ _ _ hd]
  unfold Oper.wp at h
  generalize (execOp a.eval o).run P w = r at *
  cases r with
  | ok x w' =>
    cases x <;> simp only [Oper.upon] at h <;> simp only [Oper.uponIn]
    case value v => exact h
    case skip => exact h
    case defer d => exact h
    case enter f args => exact ⟨fun hh => absurd hh (by simp [Fence.wide]), CallsIn.inRound l (callsIn_wide.2 h)⟩
    case row r args =>
      refine ⟨fun hh => absurd hh (by simp [Fence.wide]), fun c cs _ => ?_⟩
      obtain ⟨v, w', hr, s⟩ := h c cs
      exact ⟨v, w', hr, stepsIn_wide.2 s⟩
  | halt x w' => cases x <;> simp only [Oper.upon] at h <;> simp only [Oper.uponIn] <;> exact h
/-- no operation defers a call -/
def noDefer (ops : Array Oper) : Bool := ops.all fun o => match o.op with | .defer _ => false | _ => true
theorem noDefer_at (h : noDefer ops = true) {i : Nat} {o : Oper} (ho : ops[i]? = some o) : ∀ c, o.op ≠ .defer c := by
  intro c hc
  have := Array.all_eq_true_iff_forall_mem.1 h o (Array.mem_of_getElem? ho)
  simp [hc] at this
theorem any_round {X : Act → World → Prop} (hn : noDefer ops = true) : ∀ (fuel : Nat) (listed : Array Bool) (a : Act) (w : World), wpAny P md ops (NormalOnly X) fuel listed a w → wpAnyIn (Fence.wide.inRound l) n P md ops (NormalOnly X) fuel listed a w
  | 0, _, _, _, h => h
  | fuel + 1, listed, a, w, h => ⟨h.1, fun i hi => by
    have h1 := h.2 i hi
    unfold wpOp at h1
    unfold wpOpIn
    cases ho : ops[i]? with
    | none => simp only [ho] at h1 ⊢; exact any_round hn fuel _ a w h1
    | some o =>
      simp only [ho] at h1 ⊢
      by_cases hw : Region.wanted o (yielded ops a.tmps) = true
      · rw [if_pos hw] at h1 ⊢
        rcases h1 with h1 | ⟨_, h1⟩
        · exact Oper.wpIn_mono (fun a' w' h' => any_round hn fuel _ a' w' h') (oper_round (noDefer_at hn ho) h1)
        · exact absurd h1 (not_letsOut X)
      · rw [if_neg hw] at h1 ⊢
        exact ⟨fun _ _ => trivial, any_round hn fuel _ _ w h1⟩⟩
/-- an operation is taken first; its slot is given -/
theorem take_at {Q : Exit → Act → World → Prop} {S : World → Prop} {i d : Nat} {oi : Oper} {v : Value} {fuel : Nat} {listed : Array Bool} {tmps : Array Value} {ds : List Deferred} {w : World} (hi : ops[i]? = some oi) (hd : oi.dst = some d)
    (hs : Region.noSelect ops = true) (hf : Region.free md ops listed i = true) (hr : (Region.ready md ops listed).contains i = true)
    (hQ : ∀ c a a' w, Q (.panic c) a w → Q (.panic c) a' w) (hw : Region.wanted oi (yielded ops tmps) = true) (hy : ∀ w, S w → (execOp (Act.eval { tmps := tmps, defers := ds }) oi).run P w = .ok (.value v) w) (hS : S w)
    (h : wpAnyH P md ops Q S fuel (listed.setIfInBounds i true) { tmps := tmps.setIfInBounds d v, defers := ds } w) : wpAnyH P md ops Q S (fuel + 1) listed { tmps := tmps, defers := ds } w :=
  wpAnyH_take hi hs hf hr (fun c a w => hQ c _ _ w) (.inl ⟨hw, hy⟩) hS (by rw [hd]; exact h)
theorem NormalOnly.any {K : Act → World → Prop} {c : List PanicEntry} {a a' : Act} {w : World} (h : NormalOnly K (.panic c) a w) : NormalOnly K (.panic c) a' w := h.panic.elim
/-- a region that draws, inside a round: a condition S on the worlds holds behind each operation -/
theorem region_round {Q : Exit → Act → World → Prop} {id : Nat} {a : Act} {w : World} (S : World → Prop) (hm : P.follows .mixedOrders = true) (hn : noDefer ops = true)
    (h : wpAnyH P .any ops (NormalOnly fun a w => Q .normal a w) S ops.size (Array.replicate ops.size false) a w.drew) : (Code.region id ops true).wpIn (Fence.wide.inRound l) n P Q a w := by
  refine wpIn_mono (wpIn_region_any hm (any_round hn _ _ _ _ (wpAny_of_held _ _ _ _ h))) ?_
  rintro e a w ⟨rfl, h⟩
  exact h
/-- the same outside of rounds -/
theorem region_wide {Q : Exit → Act → World → Prop} {id : Nat} {a : Act} {w : World} (S : World → Prop) (hm : P.follows .mixedOrders = true)
    (h : wpAnyH P .any ops (NormalOnly fun a w => Q .normal a w) S ops.size (Array.replicate ops.size false) a w.drew) : (Code.region id ops true).wpIn Fence.wide n P Q a w := by
  refine wpIn_wide.2 (wp_mono (wp_region_held hm h) ?_)
  rintro e a w ⟨rfl, h⟩
  exact h
theorem region_plain {Q : Exit → Act → World → Prop} {id : Nat} {a : Act} {w : World} (S : World → Prop) (hm : P.follows .mixedOrders = true)
    (h : wpAnyH P .any ops (NormalOnly fun a w => Q .normal a w) S ops.size (Array.replicate ops.size false) a w.drew) : (Code.region id ops true).wp P Q a w := by
  refine wp_mono (wp_region_held hm h) ?_
  rintro e a w ⟨rfl, h⟩
  exact h
end
end Go.Proofs.Ytcpikabhcjkkmaa
