/- Points out of keys: the program's walk. -/
import Derived.Test.YtigjdcfdgifonaaRows
import Derived.Test.YtigjdcfdgifonaaFk
import Derived.Test.YtigjdcfdgifonaaLd
import Derived.Test.YtigjdcfdgifonaaFrE
import Derived.Deep.RegionWith
namespace Go.Proofs.Ytigjdcfdgifonaa
open Go.ChangeShapes Go.WideShapes Go.ChangeAt Go.RowKit
def pRe (K : List Int) : Nat := (numAt K 0).toNat
def pIm (K : List Int) : Nat := (numAt K 4).toNat
def fkOk (K : List Int) : Bool := keyB (pRe K) (pIm K) == K
theorem pRe_lt {K : List Int} (h : is255 K) : pRe K < 4294967296 := by
  have := numAt_range h 0
  unfold pRe
  omega
theorem pIm_lt {K : List Int} (h : is255 K) : pIm K < 4294967296 := by
  have := numAt_range h 4
  unfold pIm
  omega
theorem exec_loadKey (ρ : Operand → Value) (dst : Option Tmp) (x : Operand) (t : TypeId) (pos : String) (after : Array Edge) (guard : Option (Nat × Bool)) :
    execOp ρ { dst := dst, op := .load 73 x, type := t, pos := pos, after := after, guard := guard } = ldRow 73 (ρ x) := rfl
theorem run_ldKey : ∀ (W : World) (g o : Nat), hasRow W g o 8 = true → (ldRow 73 (.pointer (some ⟨g, o, none⟩))).run Try.prog W = .ok (.value (.agg (rowAt W g o 8))) W := run_ldRow Try.underlying73 rfl size73

/-- the point of a key -/
def fkV (K : List Int) : Value := if fkOk K then .complex .f32 (pRe K) (pIm K) else .complex .f32 0 0
def fkC (K : List Int) : Int := if fkOk K then 0 else 2
theorem iNum_any (K : List Int) (h255 : is255 K) (hK : K.length = 8) (g o n c : Nat) (w : World) (h : Blk w g 73 (ivs .u8 K)) (hn : 4 ≤ n) (ho : o + 4 ≤ 8) :
    Calls Try.prog 80 #[.agg #[], .slice (some ⟨g, o, none⟩) n c] w fun e w' => e = .returned (.int .u32 (numAt K o)) ∧ Below w.heap.size w w' := beAt_any K h255 g o n c _ w h hn (by omega)

attribute [local go_sem ↓] exec_loadKey
attribute [local go_sem] run_ldKey
set_option maxRecDepth 20000 in
set_option maxHeartbeats 12800000 in
theorem iFromKey_any (K : List Int) (hK : K.length = 8) (h255 : is255 K) (w : World) :
    Calls Try.prog 47 #[.agg (ivs .u8 K)] w fun e w' => e = .returned (.tuple #[fkV K, .int .i64 (fkC K)]) ∧ Below w.heap.size w w' := by
  have h1 : Blk (w.alloc (.cells (ivs .u8 K) 73)) w.heap.size 73 (ivs .u8 K) := Blk.newAt rfl rfl
  have b1 : Below w.heap.size w (w.alloc (.cells (ivs .u8 K) 73)) := (Below.refl _ _).alloc (Nat.le_refl _) _
  have hfb := frombits_run
  obtain ⟨i0, hi0, -, -, -⟩ := info_parts uint8_info
  have hkb := keyB_length (numAt K 0).toNat (numAt K 4).toNat
  have heq : ∀ W : World, (Op.equalIn 10000 73 (.agg (ivs .u8 (keyB (numAt K 0).toNat (numAt K 4).toNat))) (.agg (ivs .u8 K))).run Try.prog W = .ok (fkOk K) W := fun W => run_eql_arr W Try.underlying73 Try.underlying5 hi0 (by kernel_rfl) hkb hK
  have hky := fun W => iKey_any (numAt K 0).toNat (numAt K 4).toNat (pRe_lt h255) (pIm_lt h255) W
  have hV : fkV K = if fkOk K then .complex .f32 (numAt K 0).toNat (numAt K 4).toNat else .complex .f32 0 0 := rfl
  have hC : fkC K = if fkOk K then 0 else 2 := rfl
  rw [hV, hC]
  have HKY := Lib.hid hky
  have H1 := Lib.hid h1
  have B1 := Lib.hid b1
  have HK := Lib.hid hK
  have H255 := Lib.hid h255
  have hd : Hid (Blk (w.alloc (.cells (ivs .u8 K) 73)).drew w.heap.size 73 (ivs .u8 K) ∧ Below w.heap.size w (w.alloc (.cells (ivs .u8 K) 73)).drew) := Lib.hid ⟨h1.drew, below_drew b1⟩
  clear h1 b1 hK h255 hky hkb hV hC hi0
  generalize keyB (numAt K 0).toNat (numAt K 4).toNat = KB at *
  generalize fkOk K = ok at *
  go_enter Try.func47, Try.ntmps47
  go_wp2
  go_region_with (first
    | (go_at_call_of 80 (Value.slice (some ⟨w.heap.size, 0, none⟩) 4 8); refine (iNum_any K H255.out HK.out w.heap.size 0 4 8 _ hd.out.1 (by omega) (by omega)).mono ?_; rintro e w5 ⟨rfl, hb5⟩; have hd : Hid (Blk w5 w.heap.size 73 (ivs .u8 K) ∧ Below w.heap.size w w5) := Lib.hid ⟨hd.out.1.below hb5 hd.out.1.lt, hd.out.2.trans (hb5.mono hd.out.2.size)⟩; clear hb5)
    | (go_at_call_of 80 (Value.slice (some ⟨w.heap.size, 4, none⟩) 4 4); refine (iNum_any K H255.out HK.out w.heap.size 4 4 4 _ hd.out.1 (by omega) (by omega)).mono ?_; rintro e w5 ⟨rfl, hb5⟩; have hd : Hid (Blk w5 w.heap.size 73 (ivs .u8 K) ∧ Below w.heap.size w w5) := Lib.hid ⟨hd.out.1.below hb5 hd.out.1.lt, hd.out.2.trans (hb5.mono hd.out.2.size)⟩; clear hb5))
  all_goals
    have h5 := hd.out.1
    have e1 := h5.drew.rowAt_eq HK.out
    have e2 := h5.drew.hasRow_eq HK.out
    have H5 := Lib.hid h5
    clear h5
    go_wp2_with fail
    go_region_law (go_simp; go_at_call 66; refine (HKY.out _).mono ?_; rintro e w6 ⟨rfl, hb6⟩; have h6 := H5.out.drew.below hb6 H5.out.lt; have e3 := h6.rowAt_eq HK.out; have e4 := h6.hasRow_eq HK.out; have hd6 : Hid (Below w.heap.size w w6) := Lib.hid ((below_drew hd.out.2).trans (hb6.mono hd.out.2.size)); clear h6 hb6)
  all_goals
    clear heq HKY
    cases ok
    all_goals
      go_wp2
      go_ret2
      exact ⟨rfl, hd6.out⟩
end Go.Proofs.Ytigjdcfdgifonaa
