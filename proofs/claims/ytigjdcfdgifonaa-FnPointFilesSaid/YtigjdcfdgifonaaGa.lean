/- FramesOfBytes: the reference's and the program's walk come to the same frames. -/
import Derived.Test.YtigjdcfdgifonaaRows
import Derived.Test.YtigjdcfdgifonaaSf
import Derived.Test.YtigjdcfdgifonaaSb
namespace Go.Proofs.Ytigjdcfdgifonaa
open Go.ChangeShapes Go.WideShapes Go.ChangeAt Go.RowKit

def frs (l : List Int) (m : Nat) : List (List Int) := (List.range m).map fun i => (l.drop (i * 16)).take 16
theorem frs_succ (l : List Int) (m : Nat) : frs l (m + 1) = frs l m ++ [(l.drop (m * 16)).take 16] := by simp [frs, List.range_succ]
theorem frs_length (l : List Int) (m : Nat) : (frs l m).length = m := by simp [frs]
theorem frs_rows (l : List Int) (m : Nat) (h : m * 16 ≤ l.length) : Rows_ 16 (frs l m) := fun f hf => by
  obtain ⟨i, hi, rfl⟩ := List.mem_map.1 hf
  have := List.mem_range.1 hi
  simp
  omega
def many (l : List Int) : Nat := if l.length / 16 ≤ 700 then l.length / 16 else 0
def restOf (l : List Int) : Int := if l.length / 16 ≤ 700 then ((l.length % 16 : Nat) : Int) else 0
def codeOf (l : List Int) : Int := if l.length / 16 ≤ 700 then 0 else 3
def outOf (l : List Int) : List (List Int) := frs l (many l)
theorem outOf_rows (l : List Int) : Rows_ 16 (outOf l) := by
  unfold outOf many
  split
  · exact frs_rows l _ (by omega)
  · exact frs_rows l _ (by omega)
theorem outOf_length (l : List Int) : (outOf l).length ≤ 700 := by
  unfold outOf many
  rw [frs_length]
  split <;> omega

theorem results_tmp3 {P : Program} {fn : Func} {t u v : Tmp} (h : fn.results = #[.tmp t, .tmp u, .tmp v]) (tmps : Array Value) (w : World) :
    (results fn tmps).run P w = .ok (.tuple #[tmps.getD t undef, tmps.getD u undef, tmps.getD v undef]) w := by simp [results, h]

/-- what FramesOfBytes gives -/
def GivesFrames (l : List Int) (w : World) (e : Ending) (w' : World) : Prop :=
  ∃ A c, e = .returned (.tuple #[.slice A (outOf l).length c, .int .i64 (restOf l), .int .i64 (codeOf l)]) ∧ Own w' w.heap.size w'.heap.size 65 16 A (outOf l).length c ((outOf l).flatten.map (.int .u8)) ∧ Below w.heap.size w w'

end Go.Proofs.Ytigjdcfdgifonaa
