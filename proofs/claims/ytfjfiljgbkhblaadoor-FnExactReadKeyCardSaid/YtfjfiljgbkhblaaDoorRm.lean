/- ReadKey: the law's walk. -/
import Derived.Test.YtfjfiljgbkhblaaDoorRows
import Derived.Test.YtfjfiljgbkhblaaDoorRl
import Derived.Test.YtfjfiljgbkhblaaDoorKm
namespace Go.Proofs.YtfjfiljgbkhblaaDoor
open Go.ChangeShapes Go.WideShapes Go.ChangeAt Go.RowKit
set_option maxRecDepth 20000 in
set_option maxHeartbeats 3200000 in
theorem lawReadKey_any (s : ByteArray) (w : World) (Te : TypeId) (ve : Value) (hE : w.cell? ⟨0, 0, none⟩ = some (.iface Te ve)) :
    Calls Tryd.prog 3 #[.string s] w fun e w' => e = .returned (.bool true) ∧ Below w.heap.size w w' := by
  by_cases hs : s.size ≤ 1048576
  · obtain ⟨M, hM⟩ : ∃ M, M = rkV (nums s.data.toList) := ⟨_, rfl⟩
    obtain ⟨c, hc⟩ : ∃ c, c = rkC (nums s.data.toList) := ⟨_, rfl⟩
    have hML : M.length = 16 := by rw [hM]; exact rkV_length _
    have sM := fun W => sReadKey_any s hs W
    have iM := fun W h => iReadKey_any s hs W Te ve h
    rw [← hM, ← hc] at sM iM
    have SM := Lib.hid sM
    have IM := Lib.hid iM
    have HML := Lib.hid hML
    have HE := Lib.hid hE
    have h0 : 0 < w.heap.size := World.block_lt_of_cell? _ _ hE
    have H0 := Lib.hid h0
    have hsi : (s.size : Int) ≤ 1048576 := by omega
    clear sM iM hM hc hML hE h0
    go_enter Tryd.func3, Tryd.ntmps3
    go_wp2_with (first
      | (go_at_call 8; refine (SM.out _).mono ?_; rintro e w1 ⟨rfl, hb1⟩; have HB1 := Lib.hid hb1; clear hb1)
      | refine wpList_store_row rfl _ _ _ rfl w1.heap.size (ivs .u8 M) rfl rfl 23 (ivs .u8 (List.replicate 16 0)) (Blk.newAt rfl rfl) (by rw [ivs_size, HML.out]; exact size23) (by simp [ivs_size, HML.out]) ivs_one ?_)
    have B1 := HB1.out
    have E1 := bcell B1 |>.1 0 0 H0.out
    have B2 := below_setRow (B1.alloc B1.size (.cells #[.int .u8 0, .int .u8 0, .int .u8 0, .int .u8 0, .int .u8 0, .int .u8 0, .int .u8 0, .int .u8 0, .int .u8 0, .int .u8 0, .int .u8 0, .int .u8 0, .int .u8 0, .int .u8 0, .int .u8 0, .int .u8 0] 23)) (g := w1.heap.size) B1.size (ivs .u8 M)
    have r2 : Blk ((w1.alloc (.cells #[.int .u8 0, .int .u8 0, .int .u8 0, .int .u8 0, .int .u8 0, .int .u8 0, .int .u8 0, .int .u8 0, .int .u8 0, .int .u8 0, .int .u8 0, .int .u8 0, .int .u8 0, .int .u8 0, .int .u8 0, .int .u8 0] 23)).setRow w1.heap.size (ivs .u8 M)) w1.heap.size 23 (ivs .u8 M) := (Blk.new _ _ _).row _
    have s2 : ((w1.alloc (.cells #[.int .u8 0, .int .u8 0, .int .u8 0, .int .u8 0, .int .u8 0, .int .u8 0, .int .u8 0, .int .u8 0, .int .u8 0, .int .u8 0, .int .u8 0, .int .u8 0, .int .u8 0, .int .u8 0, .int .u8 0, .int .u8 0] 23)).setRow w1.heap.size (ivs .u8 M)).heap.size = w1.heap.size + 1 := by rw [size_setRow, size_alloc]
    generalize (w1.alloc (.cells #[.int .u8 0, .int .u8 0, .int .u8 0, .int .u8 0, .int .u8 0, .int .u8 0, .int .u8 0, .int .u8 0, .int .u8 0, .int .u8 0, .int .u8 0, .int .u8 0, .int .u8 0, .int .u8 0, .int .u8 0, .int .u8 0] 23)).setRow w1.heap.size (ivs .u8 M) = w2 at *
    have hE2 : w2.cell? ⟨0, 0, none⟩ = some (.iface Te ve) := by rw [(bcell B2).1 0 0 H0.out]; exact HE.out
    have HR2 := Lib.hid r2
    have HB2 := Lib.hid B2
    have HS2 := Lib.hid s2
    have HS1 := Lib.hid B1.size
    have hIM := IM.out w2 hE2
    have HIM := Lib.hid hIM
    clear r2 B2 s2 B1 E1 hE2 hIM IM SM
    refine HIM.out.mono ?_
    rintro e w3 ⟨rfl, hb3⟩
    have HB3 := Lib.hid hb3
    have HS3 := Lib.hid hb3.size
    have R3 := Lib.hid (HR2.out.below hb3 (by have := HS2.out; omega))
    clear hb3
    go_wp2_with (first
      | refine wpList_store_row rfl _ _ _ rfl w3.heap.size (ivs .u8 M) rfl rfl 23 (ivs .u8 (List.replicate 16 0)) (Blk.newAt rfl rfl) (by rw [ivs_size, HML.out]; exact size23) (by simp [ivs_size, HML.out]) ivs_one ?_
      | refine wpList_load_row rfl _ _ rfl w3.heap.size rfl 23 (ivs .u8 M) (0, 0) _ ((Blk.newAt rfl rfl).row _) Tryd.underlying23 rfl (by rw [ivs_size, HML.out]; exact size23) ?_
      | refine wpList_load_row rfl _ _ rfl w1.heap.size rfl 23 (ivs .u8 M) (0, 0) _ ((R3.out.alloc _).rowFar (by have := HS2.out; have := HS3.out; omega) _) Tryd.underlying23 rfl (by rw [ivs_size, HML.out]; exact size23) ?_)
    have B4 : Below w.heap.size w w3 := HB2.out.trans (HB3.out.mono (by have := HS2.out; have := HS1.out; omega))
    have B5 := below_setRow (B4.alloc B4.size (.cells #[.int .u8 0, .int .u8 0, .int .u8 0, .int .u8 0, .int .u8 0, .int .u8 0, .int .u8 0, .int .u8 0, .int .u8 0, .int .u8 0, .int .u8 0, .int .u8 0, .int .u8 0, .int .u8 0, .int .u8 0, .int .u8 0] 23)) (g := w3.heap.size) B4.size (ivs .u8 M)
    have s5 : ((w3.alloc (.cells #[.int .u8 0, .int .u8 0, .int .u8 0, .int .u8 0, .int .u8 0, .int .u8 0, .int .u8 0, .int .u8 0, .int .u8 0, .int .u8 0, .int .u8 0, .int .u8 0, .int .u8 0, .int .u8 0, .int .u8 0, .int .u8 0] 23)).setRow w3.heap.size (ivs .u8 M)).heap.size = w3.heap.size + 1 := by rw [size_setRow, size_alloc]
    generalize (w3.alloc (.cells #[.int .u8 0, .int .u8 0, .int .u8 0, .int .u8 0, .int .u8 0, .int .u8 0, .int .u8 0, .int .u8 0, .int .u8 0, .int .u8 0, .int .u8 0, .int .u8 0, .int .u8 0, .int .u8 0, .int .u8 0, .int .u8 0] 23)).setRow w3.heap.size (ivs .u8 M) = w5 at *
    refine (eqMaskKey_same M HML.out _).mono ?_
    rintro e w6 ⟨rfl, hb6⟩
    have B6 := B5.trans (hb6.mono B5.size)
    have HB6 := Lib.hid B6
    clear B6 hb6 B5 B4 s5
    go_wp2
    go_ret
    exact ⟨rfl, HB6.out⟩
  · have hsi : ¬ (s.size : Int) ≤ 1048576 := by omega
    go_enter Tryd.func3, Tryd.ntmps3
    go_wp2
    go_ret
    exact ⟨rfl, Below.refl _ _⟩
end Go.Proofs.YtfjfiljgbkhblaaDoor
