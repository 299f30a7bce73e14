/- A region that only reads, inside a round of a loop over a function: one walk in the text's order. Conditions: no operation defers a call. -/
import Derived.Test.YtcpikabhcjkkmaaMe
import Derived.BigQuiet
namespace Go.Proofs.Ytcpikabhcjkkmaa
open Go.RowKit

theorem region_quiet_round {P : Program} {l n : Nat} {id : Nat} {Q : Exit → Act → World → Prop} {a : Act} {w : World} {ops : List Oper} (hm : P.follows .mixedOrders = true) (hn : noDefer ops.toArray = true) (hB : Region.lexB .any ops.toArray = true)
    (h : wpQuiet P ops.toArray (fun w' => ∃ n, w' = w.drewN n) (fun a' => ∀ w', (∃ n, w' = w.drewN n) → Q .normal a' w') ops a) : (Code.region id ops.toArray true).wpIn (Fence.wide.inRound l) n P Q a w := by
  simp only [Region.lexB, Bool.and_eq_true] at hB
  have h2 : wpAnyQ P .any ops.toArray (fun w' => ∃ n, w' = w.drewN n) (fun a' => ∀ w', (∃ n, w' = w.drewN n) → Q .normal a' w') ops.toArray.size (Array.replicate ops.toArray.size false) a := by
    have := wpAnyQ_lex (C := fun w' => ∃ n, w' = w.drewN n) (md := .any) hB.1 ops 0 (Array.replicate ops.toArray.size false) a (by simp) (by simpa using hB.2) h
    simpa using this
  have h3 := wpAny_of_quiet (Q := fun a' => ∀ w', (∃ n, w' = w.drewN n) → Q .normal a' w') (Q' := NormalOnly fun a w => Q .normal a w) (fun _ w' hw' h => ⟨rfl, h w' hw'⟩) _ _ _ w.drew ⟨1, rfl⟩ h2
  refine wpIn_mono (wpIn_region_any hm (any_round hn _ _ _ _ h3)) ?_
  rintro e a w ⟨rfl, h⟩
  exact h
end Go.Proofs.Ytcpikabhcjkkmaa
