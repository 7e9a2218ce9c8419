/- The deed with a text: the program's walk. -/
import Derived.Test.YtfjfiljgbkhblaaDoorRows
import Derived.Test.YtfjfiljgbkhblaaDoorNr
import Derived.Test.YtfjfiljgbkhblaaDoorShd
import Derived.Test.YtfjfiljgbkhblaaDoorDu
import Derived.Lib.AtoiErrMem
import Derived.Lib.ParseIntBTie
namespace Go.Proofs.YtfjfiljgbkhblaaDoor
open Go.ChangeShapes Go.WideShapes Go.ChangeAt Go.RowKit

theorem split_told (t : ByteArray) (ht : t.size ≤ 1048576) (mx : Int) (w : World) (hm : w.cell? ⟨3, 0, none⟩ = some (.int .i64 mx)) :
    Calls Tryd.prog 33 #[.string t, .string { data := #[32] }] w fun e w' => ∃ (S : List ByteArray) (m : Nat), S.length = m + 1 ∧ S.map (·.data.toList) = pcs 32 t.data.toList ∧ e = .returned (.slice (some ⟨w.heap.size, 0, none⟩) (m + 1) (m + 1)) ∧ Blk w' w.heap.size 9 (strs S).toArray ∧ Below w.heap.size w w' ∧ w'.heap.size = w.heap.size + 1 := by
  refine (Tryd.strings_Split t { data := #[32] } mx w (by omega) hm (by decide)).mono ?_
  rintro e w' ⟨rfl, rfl⟩
  refine ⟨Lib.splitB { data := #[32] } 0 (Lib.countB t { data := #[32] }) t, Lib.countB t { data := #[32] }, Lib.splitB_all _ (by decide) 0 _ t rfl, ?_, rfl, Blk.newAt rfl rfl, (Below.refl _ _).alloc (Nat.le_refl _) _, size_alloc _ _⟩
  rw [Lib.splitB_data]
  exact split_pcs 32 t.data.toList
theorem parse_ok (s : ByteArray) (hs : s.size ≤ 1048576) (v : Int) (h : Lib.parseIntB 64 s.data.toList = .ok v) (w : World) :
    Calls Tryd.prog 34 #[.string s, .int .i64 10, .int .i64 64] w fun e w' => e = .returned (.tuple #[.int .i64 v, .nilIface]) ∧ Below w.heap.size w w' := by
  refine (Tryd.strconv_ParseInt_10_at64_ok s (by omega) v h w).mono ?_
  rintro e w' ⟨rfl, hw⟩
  refine ⟨rfl, ?_⟩
  rcases hw with rfl | ⟨u, rfl⟩
  · exact Below.refl _ _
  · exact Lib.bytesWorld_below _ _ _
theorem parse_no (s : ByteArray) (hs : s.size ≤ 1048576) (h : okW s.data.toList = false) (w : World) (Te : TypeId) (ve : Value) (hr : w.cell? ⟨2, 0, none⟩ = some (.iface Te ve)) (Ts : TypeId) (vs : Value) (hsy : w.cell? ⟨1, 0, none⟩ = some (.iface Ts vs)) :
    Calls Tryd.prog 34 #[.string s, .int .i64 10, .int .i64 64] w fun e w' => (∃ x T p, e = .returned (.tuple #[.int .i64 x, .iface T p])) ∧ Below w.heap.size w w' := by
  unfold okW at h
  cases e : Lib.parseIntB 64 s.data.toList
  · rw [e] at h; cases h
  · refine (Tryd.strconv_ParseInt_10_at64_syntax s (by omega) e _ w hsy (.inr ⟨_, _, rfl⟩)).mono ?_
    rintro e w' ⟨N, rfl, _, _, hb⟩
    exact ⟨⟨_, _, _, rfl⟩, hb⟩
  · refine (Tryd.strconv_ParseInt_10_at64_range s (by omega) e _ w hr (.inr ⟨_, _, rfl⟩)).mono ?_
    rintro e w' ⟨N, rfl, _, _, hb⟩
    exact ⟨⟨_, _, _, rfl⟩, hb⟩
theorem neq_iface (T : TypeId) (x : Value) (W : World) : (binOp .neq 49 (.iface T x) .nilIface).run Tryd.prog W = .ok (.bool true) W := by kernel_rfl
theorem size63 : (Tryd.prog.info? 63).map (·.size) = some 2 := by kernel_rfl
/-- the two numbers after j words -/
def stN (ws : List (List UInt8)) (j : Nat) : List Int := [if 0 < j then iN ws 0 else 0, if 1 < j then iN ws 1 else 0]
theorem stN_end {ws : List (List UInt8)} (h : ws.length ≤ 2) : stN ws ws.length = [iN ws 0, iN ws 1] := by
  match ws, h with
  | [], _ => rfl
  | [a], _ => rfl
  | [a, b], _ => rfl
theorem iN_at {ws : List (List UInt8)} {j : Nat} {v : Int} (hj : j < ws.length) (h : Lib.parseIntB 64 ws[j] = .ok v) : iN ws j = v := by
  unfold iN
  rw [List.head?_drop, List.getElem?_eq_getElem hj]
  simp only [h]
theorem stN_step {ws : List (List UInt8)} {j : Nat} {v : Int} (hj : j < ws.length) (h2 : j < 2) (h : Lib.parseIntB 64 ws[j] = .ok v) : (stN ws j).set j v = stN ws (j + 1) := by
  have hv := iN_at hj h
  rcases (by omega : j = 0 ∨ j = 1) with rfl | rfl
  · rw [← hv]; rfl
  · rw [← hv]; rfl
end Go.Proofs.YtfjfiljgbkhblaaDoor
