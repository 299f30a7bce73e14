/- More of the frame: slices of int16, and the struct of questions as it comes in. No conditions. -/
import Derived.Test.YtbjakjgabolkeaaDoorFrame
namespace Go.Proofs.YtbjakjgabolkeaaDoor
open Go.ChangeShapes Go.WideShapes Go.ChangeAt Go.RowKit

theorem Tryd.info60 : (Tryd.prog.info? 60).map (fun i => (i.zero, i.size, i.bytes)) = some (some (.int .i16 0), 1, 2) := by kernel_rfl
theorem et59 : ET 59 60 1 2 := ET.of Tryd.underlying59 Tryd.info60 rfl (by decide)
end Go.Proofs.YtbjakjgabolkeaaDoor
