/- A picture with a further cell: the reference's walk. -/
import Derived.Test.YtmagaapdijapiaaRows
import Derived.Test.YtmagaapdijapiaaAd
import Derived.Test.YtmagaapdijapiaaTu
namespace Go.Proofs.Ytmagaapdijapiaa
open Go.ChangeShapes Go.WideShapes Go.ChangeAt Go.RowKit
section
attribute [local go_sem ↓] exec_ldCorner exec_ldMask
attribute [local go_sem] run_ldCorner run_ldMask
end
end Go.Proofs.Ytmagaapdijapiaa
