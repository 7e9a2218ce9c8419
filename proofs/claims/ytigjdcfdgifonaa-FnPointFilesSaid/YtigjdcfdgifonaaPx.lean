/- The point in eight bytes: the reference's walk. -/
import Derived.Test.YtigjdcfdgifonaaRows
import Derived.Test.YtigjdcfdgifonaaFp
namespace Go.Proofs.Ytigjdcfdgifonaa
open Go.ChangeShapes Go.WideShapes Go.ChangeAt Go.RowKit
attribute [local go_sem ↓] exec_loadKey
attribute [local go_sem] run_ldKey
theorem fill_step8 {V : List Int} {q : Nat} (hl : V.length = 8) (hq : q < 8) : (V.take q ++ List.replicate (8 - q) 0).set q (V[q]'(by omega)) = V.take (q + 1) ++ List.replicate (8 - (q + 1)) 0 := by
  rw [List.set_append_right _ _ (by rw [List.length_take]; omega), List.length_take, show q - min q V.length = 0 by omega, show 8 - q = (8 - (q + 1)) + 1 by omega, List.replicate_succ, List.set_cons_zero, List.take_succ_eq_append_getElem (by omega : q < V.length), List.append_assoc]
  rfl
theorem fill_end8 {V : List Int} (hl : V.length = 8) : V.take 8 ++ List.replicate (8 - 8) 0 = V := by
  rw [List.take_of_length_le (by omega)]; simp
set_option maxRecDepth 20000 in
set_option maxHeartbeats 1600000 in
theorem sPoint_any (A : Option Addr) (n c : Nat) (l : List Int) (hn : 8 ≤ n) (h255 : is255 l) (w : World) (hR : Rd w w.heap.size 1 A n (l.map (.int .u8))) :
    Calls Try.prog 43 #[.slice A n c] w fun e w' => e = .returned (.tuple #[.complex .f32 (pRe (l.take 8)) (pIm (l.take 8)), .bool (fkOk (l.take 8))]) ∧ Below w.heap.size w w' := by
  have hl : l.length = n := by have := hR.1; simpa using this
  obtain ⟨b, o, rfl, hbB, hc⟩ := hR.at_ (by omega)
  have hV8 : (l.take 8).length = 8 := by rw [List.length_take]; omega
  have hV255 : is255 (l.take 8) := fun x hx => h255 x (List.mem_of_mem_take hx)
  have hcc : ∀ q, q < 8 → w.cell? ⟨b, o + q, none⟩ = some (.int .u8 ((l.take 8).getD q 0)) := fun q hq => by
    refine hc _ _ ?_
    rw [List.getElem?_map, List.getElem?_eq_getElem (by omega), List.getD_eq_getElem?_getD, List.getElem?_eq_getElem (by omega), List.getElem_take]
    rfl
  have hfk := fun W => sFromKey_any (l.take 8) hV8 hV255 W
  clear hc hV255 hR h255 hl
  generalize l.take 8 = V at *
  have HCC := Lib.hid hcc
  have HFK := Lib.hid hfk
  have HV8 := Lib.hid hV8
  have hn8 : (8 : Int) ≤ n := by omega
  have r1 : Blk (w.alloc (.cells #[.int .u8 0, .int .u8 0, .int .u8 0, .int .u8 0, .int .u8 0, .int .u8 0, .int .u8 0, .int .u8 0] 73)) w.heap.size 73 (ivs .u8 (List.replicate 8 0)) := Blk.newAt rfl rfl
  have b1 : Below w.heap.size w (w.alloc (.cells #[.int .u8 0, .int .u8 0, .int .u8 0, .int .u8 0, .int .u8 0, .int .u8 0, .int .u8 0, .int .u8 0] 73)) := (Below.refl _ _).alloc (Nat.le_refl _) _
  have r2 := r1.row (ivs .u8 (List.replicate 8 0))
  have b2 := below_setRow b1 (g := w.heap.size) (Nat.le_refl _) (ivs .u8 (List.replicate 8 0))
  clear hcc hfk hV8
  go_enter Try.func43, Try.ntmps43
  go_wp2_with (refine wpList_store_row rfl _ _ _ rfl w.heap.size (ivs .u8 (List.replicate 8 0)) rfl rfl 73 _ r1 (by rw [ivs_size]; exact size73) (by simp [ivs_size]) ivs_one ?_)
  go_loopw [5] (fun j wr => ∃ q : Nat, q ≤ 8 ∧ j = .int .i64 q ∧ Blk wr w.heap.size 73 (ivs .u8 (V.take q ++ List.replicate (8 - q) 0)) ∧ Below w.heap.size w wr) (fun j _ => 8 - (intOf j).toNat)
  case atStart => exact ⟨0, by omega, rfl, r2, b2⟩
  case round =>
    clear r1 r2 b1 b2
    obtain ⟨q, hq, rfl, h2, hbw⟩ := hrel
    by_cases hq8 : q < 8
    · have hq8' : (q : Int) < 8 := by omega
      have hqV : q < V.length := by rw [HV8.out]; exact hq8
      have c1 := HCC.out q hq8
      rw [← (bcell hbw).1 b _ hbB] at c1
      rw [List.getD_eq_getElem?_getD, List.getElem?_eq_getElem hqV, Option.getD_some] at c1
      obtain ⟨u3, c3⟩ := h2.some_ (i := q) (by simp; omega)
      have f3 := h2.frozen q
      have h3 := h2.setI q (V[q])
      rw [fill_step8 HV8.out hq8] at h3
      have H3 := Lib.hid h3
      have hqn : (q : Int) < n := by omega
      generalize V[q] = x at *
      clear h2 h3
      go_wp2
      exact ⟨⟨q + 1, by omega, by go_num, H3.out, hbw.setCell (Nat.le_refl _) _⟩, by simp [intOf]; omega⟩
    · obtain rfl : q = 8 := by omega
      rw [fill_end8 HV8.out] at h2
      have H2 := Lib.hid h2
      have e3 := H2.out.rowAt_eq HV8.out
      have e4 := H2.out.hasRow_eq HV8.out
      have HBW := Lib.hid hbw
      clear h2 hbw
      go_wp2_with (go_at_call 74; refine (HFK.out _).mono ?_; rintro e w5 ⟨rfl, hb5⟩; have HB5 := Lib.hid hb5; clear hb5)
      go_ret2
      exact ⟨rfl, HBW.out.trans (HB5.out.mono HBW.out.size)⟩
end Go.Proofs.Ytigjdcfdgifonaa
