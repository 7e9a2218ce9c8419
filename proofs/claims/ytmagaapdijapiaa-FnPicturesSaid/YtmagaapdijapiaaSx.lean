/- Cells and blocks sorted: the closures, and the calls. -/
import Derived.Test.YtmagaapdijapiaaRows
import Derived.Test.YtmagaapdijapiaaTc
import Derived.Test.YtmagaapdijapiaaLf
import Derived.Test.YtmagaapdijapiaaTq
namespace Go.Proofs.Ytmagaapdijapiaa
open Go.ChangeShapes Go.WideShapes Go.ChangeAt Go.RowKit
open Go.Sort (SWO)
/-- a cell; a block -/
abbrev Ce := { f : List Int // f.length = 2 }
abbrev Bo := { b : Bl // b.1.length = 2 ∧ b.2.length = 16 }
instance : Inhabited Ce := ⟨⟨[0, 0], rfl⟩⟩
instance : Inhabited Bo := ⟨⟨([0, 0], zr16), rfl, rfl⟩⟩
def encC (f : Ce) : List Value := f.1.map (.int .i32)
def encB (b : Bo) : List Value := bvs b.1
theorem encC_len (f : Ce) : (encC f).length = 2 := by rw [encC, List.length_map, f.2]
theorem encB_len (b : Bo) : (encB b).length = 18 := bvs_length b.2
theorem encC_one (f : Ce) : ∀ v ∈ encC f, v.oneCell' = true := ints_one
theorem encB_one (b : Bo) : ∀ v ∈ encB b, v.oneCell' = true := bvs_one b.1
def cmpL (a b : List Int) : Int := cmpC (a.getD 0 0) (a.getD 1 0) (b.getD 0 0) (b.getD 1 0)
theorem cmpL_lt (a b : List Int) : decide (cmpL a b < 0) = true ↔ ltL a b := by
  rw [cmpL, cmpC_lt, ltL]
  split
  · exact ⟨fun _ => .inl (by assumption), fun _ => rfl⟩
  · split
    · rw [decide_eq_true_iff]
      omega
    · exact ⟨fun h => absurd h (by decide), fun h => by omega⟩
theorem cmpL_not (a b : List Int) : decide (cmpL a b < 0) = false ↔ ¬ ltL a b := by
  rw [← cmpL_lt, Bool.not_eq_true]
theorem swo_of {α : Type} [Inhabited α] (f : α → List Int) : SWO (ltOf fun a b : α => cmpL (f a) (f b)) :=
  ⟨fun x => (cmpL_not _ _).2 (by unfold ltL; omega), fun x y z h1 h2 => (cmpL_lt _ _).2 (by
    have h1 := (cmpL_lt _ _).1 h1
    have h2 := (cmpL_lt _ _).1 h2
    unfold ltL at *
    omega), fun x y z h1 h2 => (cmpL_not _ _).2 (by
    have h1 := (cmpL_not _ _).1 h1
    have h2 := (cmpL_not _ _).1 h2
    unfold ltL at *
    omega)⟩
theorem encC_two (f : Ce) : (encC f).toArray = #[.int .i32 (f.1.getD 0 0), .int .i32 (f.1.getD 1 0)] := by
  rw [encC, two_of f.2]
  rfl
theorem cmpCells_grew (a0 a1 b0 b1 : Int) (w : World) :
    Calls Try.prog 117 #[.agg #[.int .i32 a0, .int .i32 a1], .agg #[.int .i32 b0, .int .i32 b1]] w fun e w' => e = .returned (.int .i64 (cmpC a0 a1 b0 b1)) ∧ Grew w w' := by
  have HC := Lib.hid (fun W => compareCorners_grew a0 a1 b0 b1 W)
  have bW : Grew w ((w.alloc (.cells #[.int .i32 a0, .int .i32 a1] 60)).alloc (.cells #[.int .i32 b0, .int .i32 b1] 60)) := ((Grew.refl _).alloc _).alloc _
  have k0 : Blk ((w.alloc (.cells #[.int .i32 a0, .int .i32 a1] 60)).alloc (.cells #[.int .i32 b0, .int .i32 b1] 60)) w.heap.size 60 #[.int .i32 a0, .int .i32 a1] := (Blk.newAt rfl rfl).alloc _
  have k1 : Blk ((w.alloc (.cells #[.int .i32 a0, .int .i32 a1] 60)).alloc (.cells #[.int .i32 b0, .int .i32 b1] 60)) (w.heap.size + 1) 60 #[.int .i32 b0, .int .i32 b1] := Blk.newAt (by simp) rfl
  have BW := Lib.hid bW
  have K0 := Lib.hid k0
  have K1 := Lib.hid k1
  clear bW k0 k1
  generalize cmpC a0 a1 b0 b1 = r at *
  go_enter Try.func117, Try.ntmps117
  go_wp2_with (first
    | refine wpList_load_row rfl _ _ rfl w.heap.size rfl 60 #[.int .i32 a0, .int .i32 a1] (0, 0) _ K0.out Try.underlying60 rfl (by exact size60) ?_
    | refine wpList_load_row rfl _ _ rfl (w.heap.size + 1) rfl 60 #[.int .i32 b0, .int .i32 b1] (0, 0) _ K1.out Try.underlying60 rfl (by exact size60) ?_
    | (go_at_call 71; refine (HC.out _).mono ?_; rintro e w2 ⟨rfl, b2⟩; have B2 := Lib.hid (BW.out.trans b2); clear b2))
  go_ret
  exact ⟨rfl, B2.out⟩
theorem cmpBlocks_grew (b c : Bl) (hb : b.1.length = 2 ∧ b.2.length = 16) (hc : c.1.length = 2 ∧ c.2.length = 16) (w : World) :
    Calls Try.prog 124 #[.agg (bav b), .agg (bav c)] w fun e w' => e = .returned (.int .i64 (cmpL b.1 c.1)) ∧ Grew w w' := by
  have HC := Lib.hid (fun W => compareCorners_grew (b.1.getD 0 0) (b.1.getD 1 0) (c.1.getD 0 0) (c.1.getD 1 0) W)
  have bW : Grew w ((w.alloc (.cells (bav b) 78)).alloc (.cells (bav c) 78)) := ((Grew.refl _).alloc _).alloc _
  have k0 : Blk ((w.alloc (.cells (bav b) 78)).alloc (.cells (bav c) 78)) w.heap.size 78 (bav b) := (Blk.newAt rfl rfl).alloc _
  have k1 : Blk ((w.alloc (.cells (bav b) 78)).alloc (.cells (bav c) 78)) (w.heap.size + 1) 78 (bav c) := Blk.newAt (by simp) rfl
  have r0 := k0.rangeV (bav_at1 hb)
  have r1 := k1.rangeV (bav_at1 hc)
  rw [two_eq hb.1] at r0
  rw [two_eq hc.1] at r1
  have BW := Lib.hid bW
  have R0 := Lib.hid r0
  have R1 := Lib.hid r1
  clear bW k0 k1 r0 r1
  have he : cmpL b.1 c.1 = cmpC (b.1.getD 0 0) (b.1.getD 1 0) (c.1.getD 0 0) (c.1.getD 1 0) := rfl
  rw [he]
  clear he
  generalize cmpC (b.1.getD 0 0) (b.1.getD 1 0) (c.1.getD 0 0) (c.1.getD 1 0) = r at *
  generalize b.1.getD 0 0 = a0 at *
  generalize b.1.getD 1 0 = a1 at *
  generalize c.1.getD 0 0 = b0 at *
  generalize c.1.getD 1 0 = b1 at *
  go_enter Try.func124, Try.ntmps124
  go_wp2_with (first
    | refine wpList_load_mid rfl _ _ rfl w.heap.size 0 (by rfl) [.int .i32 a0, .int .i32 a1] _ R0.out Try.underlying63 rfl size63 ?_
    | refine wpList_load_mid rfl _ _ rfl (w.heap.size + 1) 0 (by rfl) [.int .i32 b0, .int .i32 b1] _ R1.out Try.underlying63 rfl size63 ?_
    | (go_at_call 71; refine (HC.out _).mono ?_; rintro e w2 ⟨rfl, b2⟩; have B2 := Lib.hid (BW.out.trans b2); clear b2))
  go_ret
  exact ⟨rfl, B2.out⟩
/-- lists of cells, of blocks, each of its length -/
theorem liftC {l : List (List Int)} (h : ∀ f ∈ l, f.length = 2) : ∃ k : List Ce, k.map (·.1) = l := ⟨l.pmap (fun f hf => ⟨f, hf⟩) h, by rw [List.map_pmap]; simp⟩
theorem liftB {l : List Bl} (h : ∀ b ∈ l, b.1.length = 2 ∧ b.2.length = 16) : ∃ k : List Bo, k.map (·.1) = l := ⟨l.pmap (fun f hf => ⟨f, hf⟩) h, by rw [List.map_pmap]; simp⟩
theorem catC (k : List Ce) : catV encC k = pvs (k.map (·.1)) := by
  rw [catV, pvs, List.map_flatten, List.map_map]
  rfl
theorem catB (k : List Bo) : catV encB k = bcs (k.map (·.1)) := by
  rw [catV, bcs, List.map_map]
  rfl
theorem sortCells_any (l : List (List Int)) (hl : Rows_ 2 l) {w : World} {lo hi g n c : Nat} (hn : l.length = n) (hn2 : n ≤ 1048576) (ho : Own w lo hi 60 2 (some ⟨g, 0, none⟩) n c (pvs l)) :
    Calls Try.prog 116 #[.slice (some ⟨g, 0, none⟩) n c, .func (.func 117) #[] #[]] w fun e w' => e = .returned (.tuple #[]) ∧ ∃ l', List.Perm l' l ∧ (l'.Pairwise fun x y => ¬ ltL y x) ∧ Own w' lo hi 60 2 (some ⟨g, 0, none⟩) n c (pvs l') ∧ Below lo w w' := by
  obtain ⟨k, rfl⟩ := liftC hl
  have hk : k.length = n := by rw [← hn, List.length_map]
  subst hk
  rw [← catC] at ho
  refine (sort_own (P := Try.prog) (enc := encC) (k := 2) Try.laysSlF06_f116 (by decide) (fun w => by kernel_rfl) (fun w => by kernel_rfl) encC_len encC_one (fun a b => cmpL a.1 b.1) (swo_of (fun a : Ce => a.1)) 117 (fun _ _ => by kernel_rfl) (fun W x y => by
    rw [encC_two, encC_two]
    exact cmpCells_grew _ _ _ _ W) k rfl ho (by omega)).mono ?_
  rintro e w' ⟨rfl, l', h1, h2, h3, h4⟩
  rw [catC] at h3
  refine ⟨rfl, l'.map (·.1), h1.map _, ?_, h3, h4⟩
  rw [List.pairwise_map]
  exact h2.imp fun {a b} h => (cmpL_not _ _).1 h
theorem sortBlocks_any (l : List Bl) (hl : Bls l) {w : World} {lo hi g n c : Nat} (hn : l.length = n) (hn2 : n ≤ 1048576) (ho : Own w lo hi 78 18 (some ⟨g, 0, none⟩) n c (bcs l)) :
    Calls Try.prog 123 #[.slice (some ⟨g, 0, none⟩) n c, .func (.func 124) #[] #[]] w fun e w' => e = .returned (.tuple #[]) ∧ ∃ l', List.Perm l' l ∧ (l'.Pairwise fun x y => ¬ ltC y x) ∧ Own w' lo hi 78 18 (some ⟨g, 0, none⟩) n c (bcs l') ∧ Below lo w w' := by
  obtain ⟨k, rfl⟩ := liftB hl
  have hk : k.length = n := by rw [← hn, List.length_map]
  subst hk
  rw [← catB] at ho
  refine (sort_own (P := Try.prog) (enc := encB) (k := 18) Try.laysSlF06_f123 (by decide) (fun w => by kernel_rfl) (fun w => by kernel_rfl) encB_len encB_one (fun a b => cmpL a.1.1 b.1.1) (swo_of (fun a : Bo => a.1.1)) 124 (fun _ _ => by kernel_rfl) (fun W x y => cmpBlocks_grew x.1 y.1 x.2 y.2 W) k rfl ho (by omega)).mono ?_
  rintro e w' ⟨rfl, l', h1, h2, h3, h4⟩
  rw [catB] at h3
  refine ⟨rfl, l'.map (·.1), h1.map _, ?_, h3, h4⟩
  rw [List.pairwise_map]
  exact h2.imp fun {a b} h => fun hlt => (cmpL_not _ _).1 h hlt
end Go.Proofs.Ytmagaapdijapiaa
