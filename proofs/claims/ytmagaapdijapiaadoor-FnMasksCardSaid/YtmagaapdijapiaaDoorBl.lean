/- Corners and masks by value: copied, held against each other. -/
import Derived.Test.YtmagaapdijapiaaDoorRows
import Derived.Test.YtmagaapdijapiaaDoorBase
namespace Go.Proofs.YtmagaapdijapiaaDoor
open Go.ChangeShapes Go.WideShapes Go.ChangeAt Go.RowKit

theorem size63 : (Tryd.prog.info? 63).map (·.size) = some 2 := by kernel_rfl
theorem size44 : (Tryd.prog.info? 44).map (·.size) = some 16 := by kernel_rfl

end Go.Proofs.YtmagaapdijapiaaDoor
