/- Slices of frames in the laws: copied, compared, marked. -/
import Derived.Test.YtmagaapdijapiaaDoorRows
import Derived.Test.YtmagaapdijapiaaDoorFrA
import Derived.Test.YtmagaapdijapiaaDoorLd
import Derived.Deep.RegionLaw
namespace Go.Proofs.YtmagaapdijapiaaDoor
open Go.ChangeShapes Go.WideShapes Go.ChangeAt Go.RowKit

def mkFrame (x : Int) : Int := x % 256

section
end

end Go.Proofs.YtmagaapdijapiaaDoor
