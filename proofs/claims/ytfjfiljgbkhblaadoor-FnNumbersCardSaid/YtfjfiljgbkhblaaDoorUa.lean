/- Numbers of four bytes, the highest one first; whether bytes begin with three others. -/
import Derived.Test.YtfjfiljgbkhblaaDoorRows
import Derived.Test.YtfjfiljgbkhblaaDoorSf
import Derived.Test.YtfjfiljgbkhblaaDoorSb
import Derived.Laws.BytesArg
import Derived.Lib.EndianBits
namespace Go.Proofs.YtfjfiljgbkhblaaDoor
open Go.ChangeShapes Go.WideShapes Go.ChangeAt Go.RowKit

def num4 (b0 b1 b2 b3 : Int) : Int := b0 * 16777216 + b1 * 65536 + b2 * 256 + b3

theorem cell_alloc {w : World} {g i : Nat} {v : Value} (o : Obj) (h : w.cell? ⟨g, i, none⟩ = some v) : (w.alloc o).cell? ⟨g, i, none⟩ = some v :=
  (((Below.refl w.heap.size w).alloc (Nat.le_refl _) o).cell (p := ⟨g, i, none⟩) (World.block_lt_of_cell? w _ h)).trans h

theorem shl8_or (x b : Int) (h0 : 0 ≤ x) (h1 : x < 16777216) (g0 : 0 ≤ b) (g1 : b ≤ 255) : bits .or .u32 (x * 256) b = x * 256 + b :=
  bits_join .u32 32 (by decide) wraps_u32 8 (x * 256) b (by omega) (by omega) (by omega) g0 (by omega) (by omega)

def numTo (b0 b1 b2 b3 : Int) : Nat → Int
  | 0 => 0
  | 1 => b0
  | 2 => b0 * 256 + b1
  | 3 => b0 * 65536 + b1 * 256 + b2
  | _ => num4 b0 b1 b2 b3

theorem conv_bytes {W : World} {g o n c : Nat} {l : List Int} (hl : l.length = n) (hr : W.rangeAt g o (l.map (.int .u8))) :
    (convert 42 9 (.slice (some ⟨g, o, none⟩) n c)).run Tryd.prog W = .ok (.string (strOfNums l)) W :=
  run_convert_bytes_arg W 42 5 Tryd.underlying42 Tryd.underlying5 g o n c l hl (fun i hi => by
    rw [hr i (.int .u8 (l.getD i 0)) (by rw [List.getElem?_map, List.getElem?_eq_getElem (by omega)]; simp [List.getD, List.getElem?_eq_getElem (show i < l.length by omega)])]) 9 Tryd.underlying9

end Go.Proofs.YtfjfiljgbkhblaaDoor
