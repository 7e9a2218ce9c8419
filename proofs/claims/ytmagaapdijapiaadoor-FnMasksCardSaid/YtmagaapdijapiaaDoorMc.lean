/- Cells of masks: one cell asked, one set or not; the program's walks. -/
import Derived.Test.YtmagaapdijapiaaDoorRows
import Derived.Test.YtmagaapdijapiaaDoorMa
import Derived.Test.YtmagaapdijapiaaDoorYe
namespace Go.Proofs.YtmagaapdijapiaaDoor
open Go.ChangeShapes Go.WideShapes Go.ChangeAt Go.RowKit
theorem inR64_any (n lo hi : Int) (w : World) : Calls Tryd.prog 60 #[.int .i64 n, .int .i64 lo, .int .i64 hi] w fun e w' => e = .returned (.bool (decide (lo ≤ n) && decide (n ≤ hi))) ∧ w = w' := by
  go_enter Tryd.func60, Tryd.ntmps60
  go_wp2
  all_goals
    go_ret
    exact ⟨by simp [*]; try omega, rfl⟩
/-- whether a number is a column or a row -/
def plB (n : Int) : Bool := decide (0 ≤ n) && decide (n ≤ 15)
theorem isPlace_any (n : Int) (w : World) : Calls Tryd.prog 51 #[.int .i64 n] w fun e w' => e = .returned (.bool (plB n)) ∧ w = w' := by
  have HI := Lib.hid (inR64_any n 0 15 w)
  go_enter Tryd.func51, Tryd.ntmps51
  go_wp2_with (go_at_call 60; refine HI.out.mono ?_; rintro e w2 ⟨rfl, rfl⟩)
  go_ret
  exact ⟨rfl, rfl⟩
theorem plB_in {n : Nat} (h : n < 16) : plB (n : Int) = true := by
  rw [plB, decide_eq_true (by omega), decide_eq_true (by omega)]
  rfl
theorem pow16 {x : Nat} (h : x < 16) : IntKind.u16.wrap (2 ^ x) = 2 ^ x := by
  have := pow_16 h
  rw [IntKind.wrap_u16]
  omega
set_option maxRecDepth 20000 in
set_option maxHeartbeats 1600000 in
theorem iHasCell_any (M : List Int) (hM : M.length = 16) (h16 : is16 M) (x y : Nat) (hx : x < 16) (hy : y < 16) (w : World) :
    Calls Tryd.prog 30 #[.agg (ivs .u16 M), .int .i64 x, .int .i64 y] w fun e w' => e = .returned (.tuple #[.bool (bitB M x y), .int .i64 0]) ∧ Below w.heap.size w w' := by
  have h0 : Blk (w.alloc (.cells (ivs .u16 M) 44)) w.heap.size 44 (ivs .u16 M) := Blk.newAt rfl rfl
  have c1 := h0.getAtG (i := y) (by omega)
  obtain ⟨v0, v1⟩ := h16.getD y
  have hb : bitB M x y = decide (M.getD y 0 / 2 ^ x % 2 = 1) := rfl
  have hbq := bit_eq v0 v1 x
  rw [hb, ← hbq]
  generalize M.getD y 0 = v at *
  have px := plB_in hx
  have py := plB_in hy
  have HPX := Lib.hid (fun W => isPlace_any (x : Int) W)
  have HPY := Lib.hid (fun W => isPlace_any (y : Int) W)
  rw [px] at HPX
  rw [py] at HPY
  have hx0 : (0 : Int) ≤ x := by omega
  have hx1 : (x : Int) < 16 := by omega
  have hy0 : (0 : Int) ≤ y := by omega
  have hy1 : (y : Int) < 16 := by omega
  clear h0 h16 hb hbq px py
  go_enter Tryd.func30, Tryd.ntmps30
  go_wp2_with (first
    | (go_at_call 51; refine (HPX.out _).mono ?_; rintro e w2 ⟨rfl, rfl⟩)
    | (go_at_call 51; refine (HPY.out _).mono ?_; rintro e w2 ⟨rfl, rfl⟩))
  go_ret2
  exact ⟨rfl, (Below.refl _ _).alloc (Nat.le_refl _) _⟩
theorem results_row_tmpM {P : Program} {fn : Func} {p u : Tmp} {ty : TypeId} (h : fn.results = #[.cell p ty, .tmp u]) (tmps : Array Value) (w : World) (g : Nat) (t : TypeId) (cs : Array Value) (fr : Nat × Nat) (d : TypeDesc)
    (hp : tmps.getD p undef = .pointer (some ⟨g, 0, none⟩)) (hg : w.heap[g]? = some (.cells cs t fr))
    (hu : P.underlying ty = some d) (hd : (match d with | .struct _ | .array _ _ => true | _ => false) = true) (hi : (P.info? ty).map (·.size) = some cs.size) :
    (results fn tmps).run P w = .ok (.tuple #[.agg cs, tmps.getD u undef]) w := by
  have hp' : tmps[p]?.getD undef = .pointer (some ⟨g, 0, none⟩) := by simpa using hp
  simp [results, h, hp', asAddr, run_loadVar_row w g t ty cs fr d hg hu hd hi]
/-! ### one cell set, or not -/
def setOn (M : List Int) (y x : Nat) (on : Bool) : List Int := if on then setOr (setNot M y x) y x else setNot M y x
theorem setOn_is {M : List Int} (hM : M.length = 16) (h16 : is16 M) {x y : Nat} (hx : x < 16) (hy : y < 16) (on : Bool) : IsM (setOn M y x on) fun a b => (bitB M a b && !(decide (a = x) && decide (b = y))) || (on && (decide (a = x) && decide (b = y))) := by
  have hn : IsM (setNot M y x) fun a b => bitB M a b && !(decide (a = x) && decide (b = y)) := ⟨setNot_length hM _ _, setNot_16 h16 _ _, fun a b ha _ => setNot_bit hM h16 hx hy ha⟩
  cases on
  · exact hn.congr fun a b _ _ => by simp
  · exact (hn.set hx hy).congr fun a b _ _ => by simp
set_option maxRecDepth 20000 in
set_option maxHeartbeats 3200000 in
theorem iSetCell_any (M : List Int) (hM : M.length = 16) (_h16 : is16 M) (x y : Nat) (hx : x < 16) (hy : y < 16) (on : Bool) (w : World) :
    Calls Tryd.prog 31 #[.agg (ivs .u16 M), .int .i64 x, .int .i64 y, .bool on] w fun e w' => e = .returned (.tuple #[.agg (ivs .u16 (setOn M y x on)), .int .i64 0]) ∧ Below w.heap.size w w' := by
  obtain ⟨w2, hw2⟩ : ∃ w2, w2 = (w.alloc (.cells (ivs .u16 M) 44)).alloc (.cells (ivs .u16 zr16) 44) := ⟨_, rfl⟩
  have h0 : Blk w2 w.heap.size 44 (ivs .u16 M) := by rw [hw2]; exact (Blk.newAt rfl rfl).alloc _
  have h1 : Blk w2 (w.heap.size + 1) 44 (ivs .u16 zr16) := by rw [hw2]; exact Blk.newAt (by simp) rfl
  have hB : Below w.heap.size w w2 := by rw [hw2]; exact ((Below.refl _ _).alloc (Nat.le_refl _) _).alloc (by simp) _
  have c0 := h0.getAtG (i := y) (by omega)
  have f0 := h0.frozen y
  obtain ⟨w3, hw3⟩ : ∃ w3, w3 = (w2.setCell ⟨w.heap.size, y, none⟩ (.int .u16 (bits .andNot .u16 (M.getD y 0) (2 ^ x)))).drew := ⟨_, rfl⟩
  have n0 : Blk w3 w.heap.size 44 (ivs .u16 (setNot M y x)) := by rw [hw3]; exact (h0.setI y (notF (M.getD y 0) (2 ^ x))).drew
  have n1 : Blk w3 (w.heap.size + 1) 44 (ivs .u16 zr16) := by rw [hw3]; exact (h1.far (p := ⟨w.heap.size, y, none⟩) (show w.heap.size + 1 ≠ w.heap.size by omega) _).drew
  have nB : Below w.heap.size w w3 := by rw [hw3]; exact below_drew (hB.setCell (p := ⟨w.heap.size, y, none⟩) (Nat.le_refl _) _)
  have c3 := n0.getAtG (i := y) (by rw [setNot_length hM]; exact hy)
  have f3 := n0.frozen y
  have HM1 := Lib.hid (setNot_length hM y x)
  obtain ⟨w4, hw4⟩ : ∃ w4, w4 = (w3.setCell ⟨w.heap.size, y, none⟩ (.int .u16 (bits .or .u16 ((setNot M y x).getD y 0) (2 ^ x)))).drew := ⟨_, rfl⟩
  have m0 : Blk w4 w.heap.size 44 (ivs .u16 (setOr (setNot M y x) y x)) := by rw [hw4]; exact (n0.setI y (orF ((setNot M y x).getD y 0) (2 ^ x))).drew
  have m1 : Blk w4 (w.heap.size + 1) 44 (ivs .u16 zr16) := by rw [hw4]; exact (n1.far (p := ⟨w.heap.size, y, none⟩) (show w.heap.size + 1 ≠ w.heap.size by omega) _).drew
  have mB : Below w.heap.size w w4 := by rw [hw4]; exact below_drew (nB.setCell (p := ⟨w.heap.size, y, none⟩) (Nat.le_refl _) _)
  have HM2 := Lib.hid (setOr_length HM1.out y x)
  have hwp := pow16 hx
  have px := plB_in hx
  have py := plB_in hy
  have HPX := Lib.hid (fun W => isPlace_any (x : Int) W)
  have HPY := Lib.hid (fun W => isPlace_any (y : Int) W)
  rw [px] at HPX
  rw [py] at HPY
  have hx0 : (0 : Int) ≤ x := by omega
  have hx1 : (x : Int) < 16 := by omega
  have hy0 : (0 : Int) ≤ y := by omega
  have hy1 : (y : Int) < 16 := by omega
  have KN := Lib.hid (And.intro n0 (And.intro n1 nB))
  have KM := Lib.hid (And.intro m0 (And.intro m1 mB))
  have son : setOn M y x true = setOr (setNot M y x) y x := rfl
  have sof : setOn M y x false = setNot M y x := rfl
  cases on
  · rw [sof]
    clear h1 hB _h16 px py n0 n1 nB m0 m1 mB c3 f3 h0 KM HM2 hw4 son sof
    generalize setNot M y x = R at *
    generalize M.getD y 0 = v at *
    go_enter Tryd.func31, Tryd.ntmps31
    go_wp2_with (first
      | (go_at_call 51; refine (HPX.out _).mono ?_; rintro e w2 ⟨rfl, rfl⟩)
      | (go_at_call 51; refine (HPY.out _).mono ?_; rintro e w2 ⟨rfl, rfl⟩))
    generalize hwz : World.alloc (World.alloc w _) _ = wz
    obtain rfl : wz = w2 := hwz.symm.trans hw2.symm
    have HW3 := Lib.hid hw3
    clear hwz hw2 hw3
    go_region
    rw [← HW3.out]
    clear HW3 c0 f0
    go_wp2_with (first
      | refine wpList_load_row rfl _ _ rfl w.heap.size rfl 44 (ivs .u16 R) (0, 0) _ KN.out.1 Tryd.underlying44 rfl (by rw [ivs_size, HM1.out]; exact size44) ?_
      | refine wpList_store_row rfl _ _ _ rfl (w.heap.size + 1) (ivs .u16 R) rfl rfl 44 _ KN.out.2.1 (by rw [ivs_size, HM1.out]; exact size44) (by rw [ivs_size, ivs_size, HM1.out]; rfl) ivs_one ?_)
    exact bodyPost_ret (results_row_tmpM rfl _ _ (w.heap.size + 1) 44 (ivs .u16 R) (0, 0) _ rfl (KN.out.2.1.row _) Tryd.underlying44 rfl (by rw [ivs_size, HM1.out]; exact size44)) rfl ⟨rfl, below_setRow KN.out.2.2 (by omega) _⟩
  · rw [son]
    clear h1 hB _h16 px py n0 n1 nB m0 m1 mB h0 KN son sof
    generalize setOr (setNot M y x) y x = S at *
    generalize setNot M y x = R at *
    generalize M.getD y 0 = v at *
    generalize R.getD y 0 = u at *
    go_enter Tryd.func31, Tryd.ntmps31
    go_wp2_with (first
      | (go_at_call 51; refine (HPX.out _).mono ?_; rintro e w2 ⟨rfl, rfl⟩)
      | (go_at_call 51; refine (HPY.out _).mono ?_; rintro e w2 ⟨rfl, rfl⟩))
    generalize hwz : World.alloc (World.alloc w _) _ = wz
    obtain rfl : wz = w2 := hwz.symm.trans hw2.symm
    have HW3 := Lib.hid hw3
    have HW4 := Lib.hid hw4
    have HC3 := Lib.hid (And.intro c3 f3)
    clear hwz hw2 hw3 hw4 c3 f3
    go_region
    rw [← HW3.out]
    have c3 := HC3.out.1
    have f3 := HC3.out.2
    clear HW3 c0 f0
    go_wp2
    go_region
    rw [← HW4.out]
    clear HW4 c3 f3 HC3
    go_wp2_with (first
      | refine wpList_load_row rfl _ _ rfl w.heap.size rfl 44 (ivs .u16 S) (0, 0) _ KM.out.1 Tryd.underlying44 rfl (by rw [ivs_size, HM2.out]; exact size44) ?_
      | refine wpList_store_row rfl _ _ _ rfl (w.heap.size + 1) (ivs .u16 S) rfl rfl 44 _ KM.out.2.1 (by rw [ivs_size, HM2.out]; exact size44) (by rw [ivs_size, ivs_size, HM2.out]; rfl) ivs_one ?_)
    exact bodyPost_ret (results_row_tmpM rfl _ _ (w.heap.size + 1) 44 (ivs .u16 S) (0, 0) _ rfl (KM.out.2.1.row _) Tryd.underlying44 rfl (by rw [ivs_size, HM2.out]; exact size44)) rfl ⟨rfl, below_setRow KM.out.2.2 (by omega) _⟩
end Go.Proofs.YtmagaapdijapiaaDoor
