/- CheckOf, MakeFrame, IsSound: the reference and the program give the same. -/
import Derived.Test.YtjjmgonbhofipaaRows
import Derived.Test.YtjjmgonbhofipaaFrE
namespace Go.Proofs.Ytjjmgonbhofipaa
open Go.ChangeShapes Go.WideShapes Go.ChangeAt Go.RowKit

theorem results_row_tmp {P : Program} {fn : Func} {p u : Tmp} {ty : TypeId} (h : fn.results = #[.cell p ty, .tmp u]) (tmps : Array Value) (w : World) (g : Nat) (t : TypeId) (cs : Array Value) (fr : Nat × Nat) (d : TypeDesc)
    (hp : tmps.getD p undef = .pointer (some ⟨g, 0, none⟩)) (hg : w.heap[g]? = some (.cells cs t fr))
    (hu : P.underlying ty = some d) (hd : (match d with | .struct _ | .array _ _ => true | _ => false) = true) (hi : (P.info? ty).map (·.size) = some cs.size) :
    (results fn tmps).run P w = .ok (.tuple #[.agg cs, tmps.getD u undef]) w := by
  have hp' : tmps[p]?.getD undef = .pointer (some ⟨g, 0, none⟩) := by simpa using hp
  simp [results, h, hp', asAddr, run_loadVar_row w g t ty cs fr d hg hu hd hi]

def ckV (n : Int) (p : List Int) : Int := if inB n 0 699 then chk n p else 0
def codeB (b : Bool) : Int := if b then 0 else 2

set_option maxHeartbeats 400000 in
theorem sCheckOf_any (n : Int) (p : List Int) (hp : p.length = 12) (w : World) :
    Calls Try.prog 19 #[.int .i64 n, .agg (ivs .u8 p)] w fun e w' => e = .returned (.tuple #[.int .u32 (ckV n p), .int .i64 (codeB (inB n 0 699))]) ∧ Below w.heap.size w w' := by
  have h1 : Blk (w.alloc (.cells (ivs .u8 p) 23)) w.heap.size 23 (ivs .u8 p) := Blk.newAt rfl rfl
  cases hq : inB n 0 699
  · have hv : ckV n p = 0 := by simp [ckV, hq]
    rw [hv]
    clear hv
    go_enter Try.func19, Try.ntmps19
    go_wp2_with (go_at_call 56; refine (l00In_any _ _ _ _).mono ?_; rintro e w' ⟨rfl, rfl⟩)
    go_ret2
    exact ⟨rfl, (Below.refl _ _).alloc (Nat.le_refl _) _⟩
  · have hv : ckV n p = chk n p := by simp [ckV, hq]
    rw [hv]
    clear hv
    go_enter Try.func19, Try.ntmps19
    go_wp2_with (first
      | (go_at_call 56; refine (l00In_any _ _ _ _).mono ?_; rintro e w' ⟨rfl, rfl⟩)
      | refine wpList_load_row rfl _ _ rfl w.heap.size rfl 23 (ivs .u8 p) (0, 0) _ h1 Try.underlying23 rfl (by rw [ivs_size, hp]; exact size23) ?_)
    refine (l09Check_any n p hp _).mono ?_
    rintro e w1 ⟨rfl, hb⟩
    go_wp2_with fail
    go_ret2
    exact ⟨rfl, ((Below.refl _ _).alloc (Nat.le_refl _) _).trans (hb.mono (by simp))⟩

set_option maxHeartbeats 400000 in
theorem iCheckOf_any (n : Int) (p : List Int) (hp : p.length = 12) (w : World) :
    Calls Try.prog 21 #[.int .i64 n, .agg (ivs .u8 p)] w fun e w' => e = .returned (.tuple #[.int .u32 (ckV n p), .int .i64 (codeB (inB n 0 699))]) ∧ Below w.heap.size w w' := by
  have h1 : Blk (w.alloc (.cells (ivs .u8 p) 23)) w.heap.size 23 (ivs .u8 p) := Blk.newAt rfl rfl
  cases hq : inB n 0 699
  · have hv : ckV n p = 0 := by simp [ckV, hq]
    rw [hv]
    clear hv
    go_enter Try.func21, Try.ntmps21
    go_wp2_with (go_at_call 58; refine (isFrameIndex_any _ _).mono ?_; rintro e w' ⟨rfl, rfl⟩)
    go_ret2
    exact ⟨rfl, (Below.refl _ _).alloc (Nat.le_refl _) _⟩
  · have hv : ckV n p = chk n p := by simp [ckV, hq]
    rw [hv]
    clear hv
    go_enter Try.func21, Try.ntmps21
    go_wp2_with (first
      | (go_at_call 58; refine (isFrameIndex_any _ _).mono ?_; rintro e w' ⟨rfl, rfl⟩)
      | refine wpList_load_row rfl _ _ rfl w.heap.size rfl 23 (ivs .u8 p) (0, 0) _ h1 Try.underlying23 rfl (by rw [ivs_size, hp]; exact size23) ?_)
    refine (checkOf_any n p hp _).mono ?_
    rintro e w1 ⟨rfl, hb⟩
    go_wp2_with fail
    go_ret2
    exact ⟨rfl, ((Below.refl _ _).alloc (Nat.le_refl _) _).trans (hb.mono (by simp))⟩

set_option maxHeartbeats 400000 in
theorem sMakeFrame_any (n : Int) (p : List Int) (hp : p.length = 12) (w : World) :
    Calls Try.prog 22 #[.int .i64 n, .agg (ivs .u8 p)] w fun e w' => e = .returned (.tuple #[.agg (ivs .u8 (if inB n 0 699 then mk n p else List.replicate 16 0)), .int .i64 (codeB (inB n 0 699))]) ∧ Below w.heap.size w w' := by
  have h1 : Blk ((w.alloc (.cells (ivs .u8 p) 23)).alloc (.cells #[.int .u8 0, .int .u8 0, .int .u8 0, .int .u8 0, .int .u8 0, .int .u8 0, .int .u8 0, .int .u8 0, .int .u8 0, .int .u8 0, .int .u8 0, .int .u8 0, .int .u8 0, .int .u8 0, .int .u8 0, .int .u8 0] 25)) w.heap.size 23 (ivs .u8 p) := (Blk.newAt rfl rfl).alloc _
  have h2 : Blk ((w.alloc (.cells (ivs .u8 p) 23)).alloc (.cells #[.int .u8 0, .int .u8 0, .int .u8 0, .int .u8 0, .int .u8 0, .int .u8 0, .int .u8 0, .int .u8 0, .int .u8 0, .int .u8 0, .int .u8 0, .int .u8 0, .int .u8 0, .int .u8 0, .int .u8 0, .int .u8 0] 25)) (w.heap.size + 1) 25 (ivs .u8 (List.replicate 16 0)) := Blk.newAt (by simp) rfl
  have hb0 : Below w.heap.size w ((w.alloc (.cells (ivs .u8 p) 23)).alloc (.cells #[.int .u8 0, .int .u8 0, .int .u8 0, .int .u8 0, .int .u8 0, .int .u8 0, .int .u8 0, .int .u8 0, .int .u8 0, .int .u8 0, .int .u8 0, .int .u8 0, .int .u8 0, .int .u8 0, .int .u8 0, .int .u8 0] 25)) := ((Below.refl _ _).alloc (Nat.le_refl _) _).alloc (by simp) _
  have hml := mk_length (n := n) hp
  have Hml := Lib.hid hml
  clear hml
  cases hq : inB n 0 699
  · go_enter Try.func22, Try.ntmps22
    go_wp2_with (first
      | (go_at_call 56; refine (l00In_any _ _ _ _).mono ?_; rintro e w' ⟨rfl, rfl⟩)
      | refine wpList_store_row rfl _ _ _ rfl (w.heap.size + 1) (ivs .u8 (List.replicate 16 0)) rfl rfl 25 _ h2 (by rw [ivs_size]; exact size25) (by simp [ivs_size]) ivs_one ?_)
    exact bodyPost_ret (results_row_tmp rfl _ _ (w.heap.size + 1) 25 (ivs .u8 (List.replicate 16 0)) (0, 0) _ rfl (h2.row _) Try.underlying25 rfl (by rw [ivs_size]; exact size25)) rfl ⟨rfl, below_setRow hb0 (by omega) _⟩
  · go_enter Try.func22, Try.ntmps22
    go_wp2_with (first
      | (go_at_call 56; refine (l00In_any _ _ _ _).mono ?_; rintro e w' ⟨rfl, rfl⟩)
      | refine wpList_load_row rfl _ _ rfl w.heap.size rfl 23 (ivs .u8 p) (0, 0) _ h1 Try.underlying23 rfl (by rw [ivs_size, hp]; exact size23) ?_)
    refine (l09Make_any n p hp _).mono ?_
    rintro e w1 ⟨rfl, hb⟩
    have k2 := h2.below hb (by simp)
    go_wp2_with (refine wpList_store_row rfl _ _ _ rfl (w.heap.size + 1) (ivs .u8 (mk n p)) rfl rfl 25 _ k2 (by rw [ivs_size, Hml.out]; exact size25) (by simp [ivs_size, Hml.out]) ivs_one ?_)
    exact bodyPost_ret (results_row_tmp rfl _ _ (w.heap.size + 1) 25 (ivs .u8 (mk n p)) (0, 0) _ rfl (k2.row _) Try.underlying25 rfl (by rw [ivs_size, Hml.out]; exact size25)) rfl ⟨rfl, below_setRow (hb0.trans (hb.mono (by simp; omega))) (by omega) _⟩

set_option maxHeartbeats 400000 in
theorem iMakeFrame_any (n : Int) (p : List Int) (hp : p.length = 12) (w : World) :
    Calls Try.prog 23 #[.int .i64 n, .agg (ivs .u8 p)] w fun e w' => e = .returned (.tuple #[.agg (ivs .u8 (if inB n 0 699 then mk n p else List.replicate 16 0)), .int .i64 (codeB (inB n 0 699))]) ∧ Below w.heap.size w w' := by
  have h1 : Blk ((w.alloc (.cells (ivs .u8 p) 23)).alloc (.cells #[.int .u8 0, .int .u8 0, .int .u8 0, .int .u8 0, .int .u8 0, .int .u8 0, .int .u8 0, .int .u8 0, .int .u8 0, .int .u8 0, .int .u8 0, .int .u8 0, .int .u8 0, .int .u8 0, .int .u8 0, .int .u8 0] 25)) w.heap.size 23 (ivs .u8 p) := (Blk.newAt rfl rfl).alloc _
  have h2 : Blk ((w.alloc (.cells (ivs .u8 p) 23)).alloc (.cells #[.int .u8 0, .int .u8 0, .int .u8 0, .int .u8 0, .int .u8 0, .int .u8 0, .int .u8 0, .int .u8 0, .int .u8 0, .int .u8 0, .int .u8 0, .int .u8 0, .int .u8 0, .int .u8 0, .int .u8 0, .int .u8 0] 25)) (w.heap.size + 1) 25 (ivs .u8 (List.replicate 16 0)) := Blk.newAt (by simp) rfl
  have hb0 : Below w.heap.size w ((w.alloc (.cells (ivs .u8 p) 23)).alloc (.cells #[.int .u8 0, .int .u8 0, .int .u8 0, .int .u8 0, .int .u8 0, .int .u8 0, .int .u8 0, .int .u8 0, .int .u8 0, .int .u8 0, .int .u8 0, .int .u8 0, .int .u8 0, .int .u8 0, .int .u8 0, .int .u8 0] 25)) := ((Below.refl _ _).alloc (Nat.le_refl _) _).alloc (by simp) _
  have hml := mk_length (n := n) hp
  have Hml := Lib.hid hml
  clear hml
  cases hq : inB n 0 699
  · go_enter Try.func23, Try.ntmps23
    go_wp2_with (first
      | (go_at_call 58; refine (isFrameIndex_any _ _).mono ?_; rintro e w' ⟨rfl, rfl⟩)
      | refine wpList_store_row rfl _ _ _ rfl (w.heap.size + 1) (ivs .u8 (List.replicate 16 0)) rfl rfl 25 _ h2 (by rw [ivs_size]; exact size25) (by simp [ivs_size]) ivs_one ?_)
    exact bodyPost_ret (results_row_tmp rfl _ _ (w.heap.size + 1) 25 (ivs .u8 (List.replicate 16 0)) (0, 0) _ rfl (h2.row _) Try.underlying25 rfl (by rw [ivs_size]; exact size25)) rfl ⟨rfl, below_setRow hb0 (by omega) _⟩
  · go_enter Try.func23, Try.ntmps23
    go_wp2_with (first
      | (go_at_call 58; refine (isFrameIndex_any _ _).mono ?_; rintro e w' ⟨rfl, rfl⟩)
      | refine wpList_load_row rfl _ _ rfl w.heap.size rfl 23 (ivs .u8 p) (0, 0) _ h1 Try.underlying23 rfl (by rw [ivs_size, hp]; exact size23) ?_)
    refine (makeFrame_any n p hp _).mono ?_
    rintro e w1 ⟨rfl, hb⟩
    have k2 := h2.below hb (by simp)
    go_wp2_with (refine wpList_store_row rfl _ _ _ rfl (w.heap.size + 1) (ivs .u8 (mk n p)) rfl rfl 25 _ k2 (by rw [ivs_size, Hml.out]; exact size25) (by simp [ivs_size, Hml.out]) ivs_one ?_)
    exact bodyPost_ret (results_row_tmp rfl _ _ (w.heap.size + 1) 25 (ivs .u8 (mk n p)) (0, 0) _ rfl (k2.row _) Try.underlying25 rfl (by rw [ivs_size, Hml.out]; exact size25)) rfl ⟨rfl, below_setRow (hb0.trans (hb.mono (by simp; omega))) (by omega) _⟩

set_option maxHeartbeats 400000 in
theorem sIsSound_any (p : List Int) (hp : p.length = 16) (n : Int) (w : World) :
    Calls Try.prog 25 #[.agg (ivs .u8 p), .int .i64 n] w fun e w' => e = .returned (.tuple #[.bool (inB n 0 699 && soundB n p), .int .i64 (codeB (inB n 0 699))]) ∧ Below w.heap.size w w' := by
  have h1 : Blk (w.alloc (.cells (ivs .u8 p) 25)) w.heap.size 25 (ivs .u8 p) := Blk.newAt rfl rfl
  cases hq : inB n 0 699
  · go_enter Try.func25, Try.ntmps25
    go_wp2_with (go_at_call 56; refine (l00In_any _ _ _ _).mono ?_; rintro e w' ⟨rfl, rfl⟩)
    go_ret2
    exact ⟨rfl, (Below.refl _ _).alloc (Nat.le_refl _) _⟩
  · go_enter Try.func25, Try.ntmps25
    go_wp2_with (first
      | (go_at_call 56; refine (l00In_any _ _ _ _).mono ?_; rintro e w' ⟨rfl, rfl⟩)
      | refine wpList_load_row rfl _ _ rfl w.heap.size rfl 25 (ivs .u8 p) (0, 0) _ h1 Try.underlying25 rfl (by rw [ivs_size, hp]; exact size25) ?_)
    refine (l09Sound_any p hp n _).mono ?_
    rintro e w1 ⟨rfl, hb⟩
    go_wp2_with fail
    go_ret2
    exact ⟨by rw [Bool.true_and]; rfl, ((Below.refl _ _).alloc (Nat.le_refl _) _).trans (hb.mono (by simp))⟩

set_option maxHeartbeats 400000 in
theorem iIsSound_any (p : List Int) (hp : p.length = 16) (n : Int) (w : World) :
    Calls Try.prog 26 #[.agg (ivs .u8 p), .int .i64 n] w fun e w' => e = .returned (.tuple #[.bool (inB n 0 699 && soundB n p), .int .i64 (codeB (inB n 0 699))]) ∧ Below w.heap.size w w' := by
  have h1 : Blk (w.alloc (.cells (ivs .u8 p) 25)) w.heap.size 25 (ivs .u8 p) := Blk.newAt rfl rfl
  cases hq : inB n 0 699
  · go_enter Try.func26, Try.ntmps26
    go_wp2_with (go_at_call 58; refine (isFrameIndex_any _ _).mono ?_; rintro e w' ⟨rfl, rfl⟩)
    go_ret2
    exact ⟨rfl, (Below.refl _ _).alloc (Nat.le_refl _) _⟩
  · go_enter Try.func26, Try.ntmps26
    go_wp2_with (first
      | (go_at_call 58; refine (isFrameIndex_any _ _).mono ?_; rintro e w' ⟨rfl, rfl⟩)
      | refine wpList_load_row rfl _ _ rfl w.heap.size rfl 25 (ivs .u8 p) (0, 0) _ h1 Try.underlying25 rfl (by rw [ivs_size, hp]; exact size25) ?_)
    refine (isSound_any p hp n _).mono ?_
    rintro e w1 ⟨rfl, hb⟩
    go_wp2_with fail
    go_ret2
    exact ⟨by rw [Bool.true_and]; rfl, ((Below.refl _ _).alloc (Nat.le_refl _) _).trans (hb.mono (by simp))⟩
end Go.Proofs.Ytjjmgonbhofipaa
