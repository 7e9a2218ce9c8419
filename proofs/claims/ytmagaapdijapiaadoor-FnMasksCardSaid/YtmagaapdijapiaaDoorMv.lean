/- A mask out of the source of choices; what the great law of masks needs of the plain side. -/
import Derived.Test.YtmagaapdijapiaaDoorRows
import Derived.Test.YtmagaapdijapiaaDoorGm
import Derived.Test.YtmagaapdijapiaaDoorMi
import Derived.Test.YtmagaapdijapiaaDoorMc
namespace Go.Proofs.YtmagaapdijapiaaDoor
open Go.ChangeShapes Go.WideShapes Go.ChangeAt Go.RowKit
theorem l00FromM_any (A : Option Addr) (n c : Nat) (w : World) :
    Calls Tryd.prog 32 #[.slice A n c] w fun e w' => e = .returned (.pointer (some ⟨w.heap.size, 0, none⟩)) ∧ Src w' w.heap.size A n c 0 ∧ Below w.heap.size w w' := by
  go_enter Tryd.func32, Tryd.ntmps32
  go_wp2
  go_ret
  exact ⟨rfl, ⟨0, by omega, by omega, Blk.newAt rfl rfl⟩, (Below.refl _ _).alloc (Nat.le_refl _) _⟩
set_option maxRecDepth 20000 in
set_option maxHeartbeats 1600000 in
theorem A2Mask_any (A : Option Addr) (n c : Nat) (l : List Int) (hl : l.length = n) (h255 : is255 l) (hn : n ≤ 1000000) (w : World) (hR : Rd w w.heap.size 1 A n (l.map (.int .u8))) :
    Calls Tryd.prog 16 #[.slice A n c] w fun e w' => ∃ M : List Int, M.length = 16 ∧ is16 M ∧ e = .returned (.agg (ivs .u16 M)) ∧ Below w.heap.size w w' := by
  have K0 : Hid (Blk (w.alloc (.cells (ivs .u16 zr16) 44)) w.heap.size 44 (ivs .u16 zr16)) := Lib.hid (Blk.newAt rfl rfl)
  have hb0 : Below w.heap.size w (w.alloc (.cells (ivs .u16 zr16) 44)) := (Below.refl _ _).alloc (Nat.le_refl _) _
  have HB0 := Lib.hid hb0
  have HMK : Hid (∀ (g : Nat) (W : World), w.heap.size < g → Src W g A n c 0 → Below w.heap.size w W → Calls Tryd.prog 35 #[.pointer (some ⟨g, 0, none⟩)] W fun e w' => (∃ M : List Int, M.length = 16 ∧ is16 M ∧ e = .returned (.agg (ivs .u16 M))) ∧ Gone W g A n c 0 40 w') := Lib.hid (fun g W hg hs hb => l07Mask_any g A n c l hl h255 0 (by omega) (by omega) W hs ((hR.below hb (Nat.le_refl _)).more (by omega)))
  clear hR hl h255 hb0
  go_enter Tryd.func16, Tryd.ntmps16
  go_wp2_with fail
  refine (l00FromM_any A n c _).mono ?_
  rintro e w1 ⟨rfl, hs1, hb1'⟩
  have hb1 : Below (w.heap.size + 1) (w.alloc (.cells (ivs .u16 zr16) 44)) w1 := by
    have h := hb1'
    rw [size_alloc] at h
    exact h
  have hs2 : Src w1 (w.heap.size + 1) A n c 0 := by
    have h := hs1
    rw [size_alloc] at h
    exact h
  clear hs1 hb1'
  have z1 := hs2.lt
  have K1 := Lib.hid (K0.out.below hb1 (by omega))
  have B1 := Lib.hid (HB0.out.trans (hb1.mono (by omega)))
  have HM := Lib.hid (HMK.out (w.heap.size + 1) w1 (by omega) hs2 B1.out)
  clear HMK K0 HB0 hb1 hs2
  go_wp2_with fail
  refine HM.out.mono ?_
  rintro e w2 ⟨⟨M, hM, h16, rfl⟩, _, hg2⟩
  have K2 := Lib.hid (K1.out.grown hg2 (fun e => by injection e with e; omega))
  have B2 := Lib.hid (B1.out.grown hg2 B1.out.size (fun g e => by cases e; omega))
  have H16 := Lib.hid h16
  clear hg2 HM K1 B1 h16
  go_wp2_with (refine wpList_store_row rfl _ _ _ rfl w.heap.size (ivs .u16 M) rfl rfl 44 _ K2.out (by rw [ivs_size, hM]; exact size44) (by rw [ivs_size, ivs_size, hM]; rfl) ivs_one ?_)
  exact bodyPost_ret (results_cell_row rfl _ _ w.heap.size 44 (ivs .u16 M) (0, 0) _ rfl (K2.out.row _) Tryd.underlying44 rfl (by rw [ivs_size, hM]; exact size44)) rfl ⟨M, hM, H16.out, rfl, below_setRow B2.out (Nat.le_refl _) _⟩
/-! ### plain -/
def trn (M : List Int) : Nat → Nat → Nat → Bool
  | 0 => bitB M
  | k + 1 => fun x y => trn M k y (15 - x)
theorem trn_four (M : List Int) {x y : Nat} (hx : x < 16) (hy : y < 16) : trn M 4 x y = bitB M x y := by
  show bitB M (15 - (15 - x)) (15 - (15 - y)) = _
  rw [show 15 - (15 - x) = x by omega, show 15 - (15 - y) = y by omega]
theorem trn_step {M R S : List Int} {k : Nat} (h : IsM R (trn M k)) (hs : IsM S (fun x y => bitB R y (15 - x))) : IsM S (trn M (k + 1)) := hs.congr fun x y hx hy => by
  rw [h.bit y (15 - x) hy (by omega)]
  rfl
theorem cnt_is {R : List Int} {f : Nat → Nat → Bool} (h : IsM R f) : cnt (bitB R) 256 = cnt f 256 := cnt_congr h.bit
theorem cnt_turned {M R : List Int} (h : IsM R (fun x y => bitB M y (15 - x))) : cnt (bitB R) 256 = cnt (bitB M) 256 := (cnt_is h).trans (cnt_turn (bitB M))
theorem mir_two {M R S : List Int} (hM : M.length = 16) (h16 : is16 M) (h : IsM R (fun x y => bitB M (15 - x) y)) (hs : IsM S (fun x y => bitB R (15 - x) y)) : S = M :=
  hs.eq (IsM.self hM h16) fun x y hx hy => by rw [h.bit (15 - x) y (by omega) hy, show 15 - (15 - x) = x by omega]
section
variable {M N : List Int} (hM : M.length = 16) (h16 : is16 M) (hN : N.length = 16) (h16' : is16 N)
include hM h16 hN h16'
theorem is_or : IsM (opM orF M N) fun x y => bitB M x y || bitB N x y := ⟨opM_length hM hN, opM_16 orF_way M N, fun _ _ _ hy => orM_bit hM hN h16 h16' hy⟩
theorem is_and : IsM (opM andF M N) fun x y => bitB M x y && bitB N x y := ⟨opM_length hM hN, opM_16 andF_way M N, fun _ _ _ hy => andM_bit hM hN h16 h16' hy⟩
theorem is_not : IsM (opM notF M N) fun x y => bitB M x y && !bitB N x y := ⟨opM_length hM hN, opM_16 notF_way M N, fun _ _ hx hy => notM_bit hM hN h16 h16' hx hy⟩
theorem cnt_both : cnt (bitB (opM orF M N)) 256 + cnt (bitB (opM andF M N)) 256 = cnt (bitB M) 256 + cnt (bitB N) 256 := by
  rw [cnt_is (is_or hM h16 hN h16'), cnt_is (is_and hM h16 hN h16')]
  exact cnt_sum _ _ _
theorem minus_meet : opM orF (opM notF M N) (opM andF M N) = M := by
  have h1 := is_not hM h16 hN h16'
  have h2 := is_and hM h16 hN h16'
  refine (is_or h1.len h1.m16 h2.len h2.m16).eq (IsM.self hM h16) fun x y hx hy => ?_
  rw [h1.bit x y hx hy, h2.bit x y hx hy]
  cases bitB M x y <;> cases bitB N x y <;> rfl
theorem minus_none : cnt (bitB (opM andF (opM notF M N) N)) 256 = 0 := by
  have h1 := is_not hM h16 hN h16'
  rw [cnt_is (is_and h1.len h1.m16 hN h16'), ← cnt_none 256]
  refine cnt_congr fun x y hx hy => ?_
  rw [h1.bit x y hx hy]
  cases bitB M x y <;> cases bitB N x y <;> rfl
end
theorem on_off {M : List Int} (hM : M.length = 16) (h16 : is16 M) {x y : Nat} (hx : x < 16) (hy : y < 16) :
    bitB (setOn M y x true) x y = true ∧ bitB (setOn (setOn M y x true) y x false) x y = false ∧ cnt (bitB (setOn M y x true)) 256 = cnt (bitB (setOn (setOn M y x true) y x false)) 256 + 1 := by
  have h1 := setOn_is hM h16 hx hy true
  have h2 := setOn_is h1.len h1.m16 hx hy false
  refine ⟨by rw [h1.bit x y hx hy]; simp, by rw [h2.bit x y hx hy]; simp, ?_⟩
  have h3 : cnt (fun a b => bitB (setOn (setOn M y x true) y x false) a b || (decide (a = x) && decide (b = y))) 256 = cnt (bitB (setOn (setOn M y x true) y x false)) 256 + 1 := cnt_set hx hy (by rw [h2.bit x y hx hy]; simp)
  rw [← h3]
  refine cnt_congr fun a b ha hb => ?_
  rw [h2.bit a b ha hb, h1.bit a b ha hb]
  cases bitB M a b <;> cases (decide (a = x) && decide (b = y)) <;> rfl
theorem cells_cnt (M : List Int) : (mCells M).length = cnt (bitB M) 256 := cnt_cells M 256
end Go.Proofs.YtmagaapdijapiaaDoor
