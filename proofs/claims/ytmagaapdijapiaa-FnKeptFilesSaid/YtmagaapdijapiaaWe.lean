/- The code of a word: plain law, the reference's walk. -/
import Derived.Test.YtmagaapdijapiaaRows
import Derived.Test.YtmagaapdijapiaaWd
import Derived.Test.YtmagaapdijapiaaSl
import Derived.Laws.BitsAllLaws
namespace Go.Proofs.Ytmagaapdijapiaa
open Go.ChangeShapes Go.WideShapes Go.ChangeAt Go.RowKit
theorem size103 : (Try.prog.info? 103).map (·.size) = some 16 := by kernel_rfl

/-- whether bit p of a word's code is set -/
def wbit (s : ByteArray) (p : Nat) : Bool := decide (lt (bAt s (p / 3)) / 2 ^ (2 - p % 3) % 2 = 1)
def cw (s : ByteArray) : Nat → List Int
  | 0 => (s.size : Int) :: List.replicate 15 0
  | p + 1 => if wbit s p then (cw s p).set (1 + p / 8) (bits .or .u8 ((cw s p).getD (1 + p / 8) 0) (2 ^ (7 - p % 8) % 256)) else cw s p
theorem cw_length (s : ByteArray) : ∀ p, (cw s p).length = 16
  | 0 => rfl
  | p + 1 => by
    rw [cw]
    split
    · rw [List.length_set, cw_length s p]
    · exact cw_length s p
def wcV (s : ByteArray) : List Int := if wOk s then cw s (3 * s.size) else List.replicate 16 0
def wcC (s : ByteArray) : Int := if wOk s then 0 else 1
theorem wcV_length (s : ByteArray) : (wcV s).length = 16 := by
  unfold wcV
  split
  · exact cw_length _ _
  · simp
theorem results_row_tmp {P : Program} {fn : Func} {p u : Tmp} {ty : TypeId} (h : fn.results = #[.cell p ty, .tmp u]) (tmps : Array Value) (w : World) (g : Nat) (t : TypeId) (cs : Array Value) (fr : Nat × Nat) (d : TypeDesc)
    (hp : tmps.getD p undef = .pointer (some ⟨g, 0, none⟩)) (hg : w.heap[g]? = some (.cells cs t fr))
    (hu : P.underlying ty = some d) (hd : (match d with | .struct _ | .array _ _ => true | _ => false) = true) (hi : (P.info? ty).map (·.size) = some cs.size) :
    (results fn tmps).run P w = .ok (.tuple #[.agg cs, tmps.getD u undef]) w := by
  have hp' : tmps[p]?.getD undef = .pointer (some ⟨g, 0, none⟩) := by simpa using hp
  simp [results, h, hp', asAddr, run_loadVar_row w g t ty cs fr d hg hu hd hi]

theorem wbit_b (s : ByteArray) (k b : Nat) (hb : b < 3) : wbit s (3 * k + b) = decide (lt (bAt s k) / 2 ^ (2 - b) % 2 = 1) := by
  rw [wbit, show (3 * k + b) / 3 = k by omega, show (3 * k + b) % 3 = b by omega]
theorem btest (v : Int) (h0 : 0 ≤ v) (h1 : v ≤ 7) : (bits .and .i64 v 1 == 1) = decide (v % 2 = 1) := by
  rcases (by omega : v = 0 ∨ v = 1 ∨ v = 2 ∨ v = 3 ∨ v = 4 ∨ v = 5 ∨ v = 6 ∨ v = 7) with rfl | rfl | rfl | rfl | rfl | rfl | rfl | rfl <;> decide
theorem cw_no {s : ByteArray} {p : Nat} (h : wbit s p = false) : cw s (p + 1) = cw s p := by rw [cw, if_neg (by rw [h]; decide)]
theorem cw_yes {s : ByteArray} {p : Nat} (h : wbit s p = true) : cw s (p + 1) = (cw s p).set (1 + p / 8) (bits .or .u8 ((cw s p).getD (1 + p / 8) 0) (2 ^ (7 - p % 8) % 256)) := by rw [cw, if_pos h]
/-- what a round of the inner loop needs of place p = 3 i + b -/
structure Rnd (s : ByteArray) (i b : Nat) : Prop where
  q : (3 * (i : Int) + b) / 8 = (((3 * i + b) / 8 : Nat) : Int)
  lt : (3 * i + b) / 8 < 15

end Go.Proofs.Ytmagaapdijapiaa
