/- Slices of bytes and of numbers in the laws: copied, compared, marked. -/
import Derived.Test.YtmagaapdijapiaaRows
import Derived.Test.YtmagaapdijapiaaSl
namespace Go.Proofs.Ytmagaapdijapiaa
open Go.ChangeShapes Go.WideShapes Go.ChangeAt Go.RowKit

theorem Byte_info : (Try.prog.info? 5).map (fun i => (i.zero, i.size, i.bytes)) = some (some (.int .u8 0), 1, 1) := by kernel_rfl

def mkByte (x : Int) : Int := x % 256
theorem Int64_info : (Try.prog.info? 2).map (fun i => (i.zero, i.size, i.bytes)) = some (some (.int .i64 0), 1, 8) := by kernel_rfl

def mkInt64 (x : Int) : Int := x
end Go.Proofs.Ytmagaapdijapiaa
