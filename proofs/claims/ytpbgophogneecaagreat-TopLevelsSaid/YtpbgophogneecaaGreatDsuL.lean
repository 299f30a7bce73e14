/- The walk of Labels of package dsu. Conditions: the sets were made by New. -/
import Derived.Test.YtpbgophogneecaaGreatDsa
import Derived.Test.YtpbgophogneecaaGreatMe
namespace Go.Proofs.YtpbgophogneecaaGreat
open Go.RowKit

/-- what Labels answers -/
def DLabRes (z : Zone) (b n : Nat) (lab : Nat → Nat) (w : World) (e : Ending) (w' : World) : Prop :=
  e = .returned (.slice (some ⟨w.heap.size, 0, none⟩) n n) ∧ Row w' w.heap.size n (natC lab) ∧ DS w' z b n lab ∧ Below z.low w w'
end Go.Proofs.YtpbgophogneecaaGreat
