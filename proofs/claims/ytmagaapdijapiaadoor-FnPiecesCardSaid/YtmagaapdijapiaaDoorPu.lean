/- A picture with a further cell: the reference's walk. -/
import Derived.Test.YtmagaapdijapiaaDoorRows
import Derived.Test.YtmagaapdijapiaaDoorAd
import Derived.Test.YtmagaapdijapiaaDoorTu
namespace Go.Proofs.YtmagaapdijapiaaDoor
open Go.ChangeShapes Go.WideShapes Go.ChangeAt Go.RowKit
section
attribute [local go_sem ↓] exec_ldCorner exec_ldMask
attribute [local go_sem] run_ldCorner run_ldMask
end
end Go.Proofs.YtmagaapdijapiaaDoor
