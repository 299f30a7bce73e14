/- What Forest of package kruskal answers. No conditions. -/
import Derived.Test.YtibdggbejogciaaGreatOrd
import Derived.Test.YtibdggbejogciaaGreatPl
import Derived.Test.YtibdggbejogciaaGreatMe
namespace Go.Proofs.YtibdggbejogciaaGreat
open Go.RowKit

/-- what Forest answers -/
def ForRes (n : Int) (E : List Ed) (w : World) (e : Ending) (w' : World) : Prop :=
  Below w.heap.size w w' ∧ ((gErr n E ≠ 0 ∧ e = .returned (.tuple #[.slice none 0 0, .int .i64 (gErr n E)])) ∨
    (gErr n E = 0 ∧ ∃ o v, OrdOf E o ∧ e = .returned (.tuple #[v, .int .i64 0]) ∧ OwnI w.heap.size v (frs E o) w'))
end Go.Proofs.YtibdggbejogciaaGreat
