/- Slices of frames in the laws: copied, compared, marked. -/
import Derived.Test.YtfjfiljgbkhblaaDoorRows
import Derived.Test.YtfjfiljgbkhblaaDoorFrA
import Derived.Test.YtfjfiljgbkhblaaDoorLd
import Derived.Deep.RegionLaw
namespace Go.Proofs.YtfjfiljgbkhblaaDoor
open Go.ChangeShapes Go.WideShapes Go.ChangeAt Go.RowKit

def mkFrame (x : Int) : Int := x % 256

section
end

end Go.Proofs.YtfjfiljgbkhblaaDoor
