/- A file that is none of points, read as one of points; words read back from their file (plain law). -/
import Derived.Test.YtmagaapdijapiaaRows
import Derived.Test.YtmagaapdijapiaaZw
import Derived.Test.YtmagaapdijapiaaWn
import Derived.Test.YtmagaapdijapiaaVa
namespace Go.Proofs.Ytmagaapdijapiaa
open Go.ChangeShapes Go.WideShapes Go.ChangeAt Go.RowKit
theorem results_2boxesk (tmps : Array Value) (W : World) (g1 g2 : Nat) (v1 v2 : Value) (h1 : tmps.getD 2 undef = .pointer (some ⟨g1, 0, none⟩)) (h2 : tmps.getD 3 undef = .pointer (some ⟨g2, 0, none⟩)) (c1 : W.cell? ⟨g1, 0, none⟩ = some v1) (c2 : W.cell? ⟨g2, 0, none⟩ = some v2) :
    (results Try.f27 tmps).run Try.prog W = .ok (.tuple #[v1, v2]) W := by
  have h1' : tmps[2]?.getD undef = .pointer (some ⟨g1, 0, none⟩) := by simpa using h1
  have h2' : tmps[3]?.getD undef = .pointer (some ⟨g2, 0, none⟩) := by simpa using h2
  simp [results, Try.f27, go_sem, h1', h2', c1, c2]
set_option maxRecDepth 100000 in
set_option maxHeartbeats 3200000 in
theorem iReadPointFile_kind (A : Option Addr) (n c : Nat) (l : List (List Int)) (hl : l.length = n) (hrow : Rows_ 16 l) (h255 : ∀ f ∈ l, is255 f) (hn : n ≤ 1048576) (hnc : n ≤ c) (hc63 : c ≤ 9223372036854775807) (hC : opCode l = 0) (hK : opKind l ≠ 1) (w : World) (hR : Rd w w.heap.size 16 A n (l.flatten.map (.int .u8))) :
    Calls Try.prog 27 #[.slice A n c] w fun e w' => e = .returned (.tuple #[.slice none 0 0, .int .i64 5]) ∧ Below w.heap.size w w' := by
  have r1 := ((Boxed.new w 49 (.slice none 0 0)).alloc (.cells #[.int .i64 0] 2))
  have r2 := Boxed.new (w.alloc (.cells #[.slice none 0 0] 49)) 2 (.int .i64 0)
  rw [size_alloc] at r2
  have bW : Below w.heap.size w ((w.alloc (.cells #[.slice none 0 0] 49)).alloc (.cells #[.int .i64 0] 2)) := ((Below.refl _ _).alloc (Nat.le_refl _) _).alloc (by simp) _
  have zW : ((w.alloc (.cells #[.slice none 0 0] 49)).alloc (.cells #[.int .i64 0] 2)).heap.size = w.heap.size + 2 := by simp
  have ho := iUnpackFrames_any A n c l hl hrow h255 hn hnc hc63 ((w.alloc (.cells #[.slice none 0 0] 49)).alloc (.cells #[.int .i64 0] 2)) ((hR.below bW (Nat.le_refl _)).more (by rw [zW]; omega))
  unfold GOpenL at ho
  rw [hC] at ho
  have HOP := Lib.hid ho
  have R1 := Lib.hid r1
  have R2 := Lib.hid r2
  have BW := Lib.hid bW
  have ZW := Lib.hid zW
  clear ho hl hrow h255 hR r1 r2 bW zW hC
  generalize opKind l = K at *
  generalize opCount l = M at *
  generalize opData l = D at *
  go_enter Try.func27, Try.ntmps27
  go_wp2_with (go_at_call 57; refine HOP.out.mono ?_; rintro e w2 ⟨A2, c2, rfl, hO2, hb2⟩; have HB2 := Lib.hid hb2; have HO2 := Lib.hid hO2; have b1 : Boxed w2 w.heap.size 49 (.slice none 0 0) := (hb2.block _ (by rw [ZW.out]; omega)).trans R1.out; have b2 : Boxed w2 (w.heap.size + 1) 2 (.int .i64 0) := (hb2.block _ (by rw [ZW.out]; omega)).trans R2.out; have c1 := b1.cell; have c2' := b2.cell; have f1 := b1.frozen; have f2 := b2.frozen; have BX1 := Lib.hid b1; have BX2 := Lib.hid b2; clear hO2 hb2 b1 b2)
  have hB2 : Below w.heap.size w w2 := BW.out.trans (HB2.out.mono BW.out.size)
  have hs := set2 BX1.out BX2.out (by omega) (.slice none 0 0) (.int .i64 5)
  exact bodyPost_ret (results_2boxesk _ _ w.heap.size (w.heap.size + 1) _ _ rfl rfl hs.1 hs.2) rfl ⟨rfl, (hB2.setCell (Nat.le_refl _) _).setCell (Nat.le_succ _) _⟩
/-! ### words -/
theorem chW_flat {R : List (List Int)} (h : Rows_ 16 R) {i : Nat} (hi : i < R.length) : chW R.flatten i = R[i] := by
  have e : R.flatten = (R.take i).flatten ++ (R[i] ++ (R.drop (i + 1)).flatten) := by
    conv => lhs; rw [← List.take_append_drop i R, List.drop_eq_getElem_cons hi]
    rw [List.flatten_append, List.flatten_cons]
  have h1 : (R.take i).flatten.length = 16 * i := by
    rw [flat_length (fun f hf => h f (List.mem_of_mem_take hf)), List.length_take]
    omega
  have h2 : (R[i]).length = 16 := h _ (List.getElem_mem hi)
  rw [chW, e, List.drop_append, List.drop_eq_nil_of_le (by omega), List.nil_append, h1, Nat.sub_self, List.drop_zero, List.take_append_of_le_length (by omega), List.take_of_length_le (by omega)]
theorem words_back {ws : List ByteArray} (hw : ∀ s ∈ ws, wOk s = true) (hn : ws.length ≤ 256) :
    wfC ws = 0 ∧ opCode (wfF ws) = 0 ∧ opKind (wfF ws) = 3 ∧ rwC (wfF ws) = 0 ∧ rwL (wfF ws) = ws ∧ ∀ f ∈ wfF ws, is255 f := by
  have ho : wOks ws = true := wOks_yes fun j hj => hw _ (List.getElem_mem hj)
  have hF : wfF ws = packOf 3 ws.length (wData ws) := by rw [wfF, if_pos ⟨ho, hn⟩]
  have hl := wData_length ws
  obtain ⟨o1, o2, o3, o4⟩ := packOf_opens (kd := 3) (cn := (ws.length : Int)) (d := wData ws) (by omega) (by omega) (by omega)
  have h255 : is255 (wData ws) := fun x hx => by
    obtain ⟨r, hr, hx⟩ := List.mem_flatten.1 hx
    obtain ⟨s, hs, rfl⟩ := List.mem_map.1 hr
    rw [wcV, if_pos (hw s hs)] at hx
    exact cw_255 (by have := wOk_size (hw s hs); omega) _ x hx
  have hp := packOf_255 (kd := 3) (cn := (ws.length : Int)) (d := wData ws) (by omega) h255
  rw [← hF] at o1 o2 o3 o4 hp
  have hN : rwN (wfF ws) = ws.length := by rw [rwN, o4, hl]; omega
  have hc : ∀ i (hi : i < ws.length), chW (wData ws) i = wcV ws[i] := fun i hi => by
    rw [wData, chW_flat (wRows ws) (by rw [List.length_map]; exact hi), List.getElem_map]
  have hC : rwC (wfF ws) = 0 := by
    rw [rwC, if_pos o1, if_pos, if_pos]
    · rw [o4, hN]
      exact rwAll_yes fun k hk => by rw [hc k hk]; exact woOk_wcV (hw _ (List.getElem_mem hk))
    · rw [rwGood, o2, o3, o4, hl, Bool.and_eq_true, beq_iff_eq, beq_iff_eq]
      omega
  refine ⟨by rw [wfC, if_pos ho, if_pos hn], o1, o2, hC, ?_, hp⟩
  rw [rwL, if_pos hC, o4, hN]
  apply List.ext_getElem
  · rw [wds_length]
  · intro i h1 h2
    simp only [wds, List.getElem_map, List.getElem_range]
    rw [hc i h2, dw_wcV (hw _ (List.getElem_mem h2))]
end Go.Proofs.Ytmagaapdijapiaa
