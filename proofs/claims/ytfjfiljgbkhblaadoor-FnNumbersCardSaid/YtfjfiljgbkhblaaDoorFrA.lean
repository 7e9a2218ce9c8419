/- Rows of bytes by value, walked: copied, cut, held against each other. Each function leaves what was there as it was. -/
import Derived.Test.YtfjfiljgbkhblaaDoorRows
import Derived.Test.YtfjfiljgbkhblaaDoorBase
namespace Go.Proofs.YtfjfiljgbkhblaaDoor
open Go.ChangeShapes Go.WideShapes Go.ChangeAt Go.RowKit

theorem size22 : (Tryd.prog.info? 22).map (·.size) = some 16 := by kernel_rfl

end Go.Proofs.YtfjfiljgbkhblaaDoor
