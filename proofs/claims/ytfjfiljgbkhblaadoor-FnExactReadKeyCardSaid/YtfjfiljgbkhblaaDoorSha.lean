/- The decoder of hexadecimal texts, by its contract at this dump. -/
import Derived.Shelf.Hex.Decode
import Derived.Test.YtfjfiljgbkhblaaDoorProg
namespace Go.Proofs
open Go.Shelf
def Tryd.laysPah43_ren : Go.Shelf.Ren := ⟨fun | 43 => 23 | 42 => 43 | 44 => 44 | n => n, fun | 9 => 9 | 30 => 42 | 35 => 49 | 3 => 3 | 38 => 73 | 4 => 4 | 0 => 0 | 5 => 5 | 47 => 90 | 46 => 45 | 45 => 136 | n => n, fun | 0 => 0 | n => n⟩
theorem Tryd.laysPah43 : Go.Proofs.Lays.ph43 Tryd.prog Tryd.laysPah43_ren := {
  mixed := by kernel_rfl
  f42 := Tryd.func43.trans (congrArg some (by kernel_rfl))
  f43 := Tryd.func23.trans (congrArg some (by kernel_rfl))
  f44 := Tryd.func44.trans (congrArg some (by kernel_rfl))
  t0 := Tryd.underlying0
  a0 := Tryd.isAgg0
  z0 := Tryd.sizeOf0
  v0 := Tryd.zeroValue0
  t3 := Tryd.underlying3
  a3 := Tryd.isAgg3
  z3 := Tryd.sizeOf3
  v3 := Tryd.zeroValue3
  t4 := Tryd.underlying4
  a4 := Tryd.isAgg4
  z4 := Tryd.sizeOf4
  v4 := Tryd.zeroValue4
  t5 := Tryd.underlying5
  a5 := Tryd.isAgg5
  z5 := Tryd.sizeOf5
  v5 := Tryd.zeroValue5
  t9 := Tryd.underlying9
  a9 := Tryd.isAgg9
  z9 := Tryd.sizeOf9
  v9 := Tryd.zeroValue9
  t30 := Tryd.underlying42
  a30 := Tryd.isAgg42
  z30 := Tryd.sizeOf42
  v30 := Tryd.zeroValue42
  t35 := Tryd.underlying49
  a35 := Tryd.isAgg49
  z35 := Tryd.sizeOf49
  v35 := Tryd.zeroValue49
  t38 := Tryd.underlying73
  a38 := Tryd.isAgg73
  z38 := Tryd.sizeOf73
  v38 := Tryd.zeroValue73
  t45 := Tryd.underlying136
  a45 := Tryd.isAgg136
  z45 := Tryd.sizeOf136
  v45 := Tryd.zeroValue136
  t46 := Tryd.underlying45
  a46 := Tryd.isAgg45
  z46 := Tryd.sizeOf45
  v46 := Tryd.zeroValue45
  t47 := Tryd.underlying90
  a47 := Tryd.isAgg90
  z47 := Tryd.sizeOf90
  v47 := Tryd.zeroValue90
  g0 := by kernel_rfl
  info5 := by kernel_rfl }
open Go.RowKit Go.Lib in
theorem Tryd.hex_DecodeString (s : ByteArray) (w : World) (ev : Value) (hE : w.cell? ⟨0, 0, none⟩ = some ev) (hbig : s.size ≤ 281474976710656) :
    Calls Tryd.prog 23 #[.string s] w fun e w' =>
      e = .returned (.tuple #[.slice (some ⟨w.heap.size, 0, none⟩) (Hx.decode s.data.toList).1.length (s.size / 2), Hx.errVal 90 ev (Hx.decode s.data.toList).2]) ∧
      w'.rowIs w.heap.size 5 (s.size / 2) (Hx.rowP (fun _ => .int .u8 0) 0 (Hx.decode s.data.toList).1) ∧ Below w.heap.size w w' := Any.hex_DecodeString Tryd.laysPah43 s w ev hE hbig
end Go.Proofs
