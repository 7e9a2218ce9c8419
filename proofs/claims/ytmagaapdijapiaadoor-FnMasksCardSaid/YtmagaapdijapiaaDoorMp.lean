/- Maps from corners to masks. -/
import Derived.Test.YtmagaapdijapiaaDoorRows
import Derived.Test.YtmagaapdijapiaaDoorCh
namespace Go.Proofs.YtmagaapdijapiaaDoor
open Go.ChangeShapes Go.WideShapes Go.ChangeAt Go.RowKit
/-- the entries of the blocks, in order -/
def ents : List Bl → Nat → List MapEntry
  | [], _ => []
  | b :: r, i => ⟨.agg (ivs .i32 b.1), .agg (ivs .u16 b.2), i⟩ :: ents r (i + 1)
theorem ents_snoc (b : Bl) : ∀ (l : List Bl) (i : Nat), ents (l ++ [b]) i = ents l i ++ [⟨.agg (ivs .i32 b.1), .agg (ivs .u16 b.2), i + l.length⟩]
  | [], i => rfl
  | a :: r, i => by
    rw [List.cons_append, ents, ents_snoc b r (i + 1), ents, List.cons_append, List.length_cons, show i + 1 + r.length = i + (r.length + 1) by omega]
/-- the first block with a corner -/
def findB (key : List Int) : List Bl → Nat → Option (Nat × Value)
  | [], _ => none
  | b :: r, i => if key == b.1 then some (i, .agg (ivs .u16 b.2)) else findB key r (i + 1)
theorem findB_none {key : List Int} : ∀ {l : List Bl} (i : Nat), (∀ b ∈ l, key ≠ b.1) → findB key l i = none
  | [], _, _ => rfl
  | b :: r, i, h => by
    rw [findB, if_neg (by rw [beq_iff_eq]; exact h b (List.mem_cons_self ..)), findB_none (i + 1) (fun c hc => h c (List.mem_cons_of_mem _ hc))]
theorem I32_info : (Tryd.prog.info? 21).map (fun i => (i.zero, i.size, i.bytes)) = some (some (.int .i32 0), 1, 4) := by kernel_rfl
theorem run_equal_corner (a b : List Int) (ha : a.length = 2) (hb : b.length = 2) (W : World) : (Op.equal 63 (.agg (ivs .i32 a)) (.agg (ivs .i32 b))).run Tryd.prog W = .ok (a == b) W := by
  obtain ⟨i0, hi0, -, -, -⟩ := info_parts I32_info
  exact run_eql_arr (a := a) (b := b) W Tryd.underlying63 Tryd.underlying21 hi0 (by kernel_rfl) ha hb
theorem run_findAsking (key : List Int) (hk : key.length = 2) : ∀ (l : List Bl) (i j : Nat) (_ : Bls l) (W : World), (Instr.findAsking 63 (.agg (ivs .i32 key)) (ents l j) i).run Tryd.prog W = .ok (findB key l i) W
  | [], i, j, _, W => rfl
  | b :: r, i, j, h, W => by
    have hb := (h b (List.mem_cons_self ..)).1
    have ih := run_findAsking key hk r (i + 1) (j + 1) (fun c hc => h c (List.mem_cons_of_mem _ hc)) W
    rw [ents, Instr.findAsking, Sem.run_bind, run_equal_corner key b.1 hk hb W]
    simp only [Result.andThen]
    rw [findB]
    cases hkb : key == b.1
    · simp only [Bool.false_eq_true, if_false]
      exact ih
    · simp only [if_true]
      rfl
theorem run_findKey (key : List Int) (hk : key.length = 2) (l : List Bl) (j : Nat) (hl : Bls l) (W : World) : (Instr.findKey 63 (.agg (ivs .i32 key)) (ents l j)).run Tryd.prog W = .ok (findB key l 0) W := by
  rw [Instr.findKey, Sem.run_bind, run_underlying Tryd.underlying63 W]
  simp only [Result.andThen]
  cases l with
  | nil => rfl
  | cons b r => exact run_findAsking key hk (b :: r) 0 j hl W
theorem run_checkCorner (e : Bool) (x y : Int) (W : World) : (Instr.checkKey e 10000 63 (.agg (ivs .i32 [x, y]))).run Tryd.prog W = .ok () W := by
  cases e <;> kernel_rfl
/-- the mask of the first block with a corner, or none of its cells -/
def maskAt (l : List Bl) (key : List Int) : List Int := match l.find? (fun b => key == b.1) with | some b => b.2 | none => zr16
theorem findB_mask (key : List Int) : ∀ (l : List Bl) (i : Nat), (findB key l i).map (·.2) = (l.find? (fun b => key == b.1)).map fun b => Value.agg (ivs .u16 b.2)
  | [], _ => rfl
  | b :: r, i => by
    rw [findB, List.find?_cons]
    cases h : key == b.1
    · simp only [Bool.false_eq_true, if_false]
      exact findB_mask key r (i + 1)
    · simp only [if_true]
      rfl
theorem run_lookupMask (g : Nat) (l : List Bl) (hl : Bls l) (x y : Int) (c : Nat) (W : World) (h : W.heap[g]? = some (.map (ents l 0).toArray c)) :
    (Instr.lookup 68 (.map (some g)) (.agg #[.int .i32 x, .int .i32 y]) false).run Tryd.prog W = .ok (.agg (ivs .u16 (maskAt l [x, y]))) W := by
  have hf := run_findKey [x, y] rfl l 0 hl W
  have hc : ∀ e, (Instr.checkKey e 10000 63 (.agg #[.int .i32 x, .int .i32 y])).run Tryd.prog W = .ok () W := fun e => run_checkCorner e x y W
  have hm := findB_mask [x, y] l 0
  have hf' : (Instr.findKey 63 (.agg #[.int .i32 x, .int .i32 y]) (ents l 0)).run Tryd.prog W = .ok (findB [x, y] l 0) W := hf
  rw [maskAt]
  cases hb : findB [x, y] l 0 with
  | none =>
    rw [hb] at hm hf'
    have hn : l.find? (fun b => [x, y] == b.1) = none := by
      cases he : l.find? (fun b => [x, y] == b.1) with
      | none => rfl
      | some b => rw [he] at hm; cases hm
    rw [hn]
    simp [Instr.lookup, run_underlying Tryd.underlying68 W, MapKept.run_getObj_map h, hc, hf', Result.andThen]
    rfl
  | some p =>
    obtain ⟨i, v⟩ := p
    rw [hb] at hm hf'
    cases he : l.find? (fun b => [x, y] == b.1) with
    | none => rw [he] at hm; cases hm
    | some b =>
      rw [he] at hm
      simp only [Option.map_some, Option.some.injEq] at hm
      subst hm
      simp [Instr.lookup, run_underlying Tryd.underlying68 W, MapKept.run_getObj_map h, hc, hf', Result.andThen]
theorem run_putMask (g : Nat) (l : List Bl) (hl : Bls l) (x y : Int) (M : List Int) (c : Nat) (W : World) (h : W.heap[g]? = some (.map (ents l 0).toArray c)) (hc : c = l.length) (hno : ∀ b ∈ l, [x, y] ≠ b.1) :
    (Instr.mapUpdate 68 (.map (some g)) (.agg #[.int .i32 x, .int .i32 y]) (.agg (ivs .u16 M))).run Tryd.prog W = .ok () (ChangeMaps.setBlock W g (.map (ents (l ++ [([x, y], M)]) 0).toArray (c + 1))) := by
  have hf : (Instr.findKey 63 (.agg #[.int .i32 x, .int .i32 y]) (ents l 0)).run Tryd.prog W = .ok none W := by
    have := run_findKey [x, y] rfl l 0 hl W
    rwa [findB_none 0 hno] at this
  have hck : (Instr.checkKey false 10000 63 (.agg #[.int .i32 x, .int .i32 y])).run Tryd.prog W = .ok () W := run_checkCorner false x y W
  have he : (ents (l ++ [([x, y], M)]) 0).toArray = (ents l 0).toArray.push ⟨.agg #[.int .i32 x, .int .i32 y], .agg (ivs .u16 M), c⟩ := by
    rw [ents_snoc, hc, Nat.zero_add]
    simp
    rfl
  rw [he]
  simp [Instr.mapUpdate, run_underlying Tryd.underlying68 W, MapKept.run_getObj_map h, hck, hf, MapKept.run_setObj_map _ h, Result.andThen, ChangeMaps.setBlock]
theorem setBlock_at (W : World) (g : Nat) (o : Obj) (h : g < W.heap.size) : (ChangeMaps.setBlock W g o).heap[g]? = some o := by
  simp [ChangeMaps.setBlock, h]
theorem setBlock_far (W : World) (g k : Nat) (o : Obj) (h : k ≠ g) : (ChangeMaps.setBlock W g o).heap[k]? = W.heap[k]? := by
  simp [ChangeMaps.setBlock, Ne.symm h]
theorem below_setBlock {B : Nat} {w w' : World} (h : Below B w w') {g : Nat} (hg : B ≤ g) (o : Obj) : Below B w (ChangeMaps.setBlock w' g o) :=
  ⟨h.os, h.tape, h.output, by simpa [ChangeMaps.setBlock] using h.size, fun i hi => (setBlock_far w' g i o (by omega)).trans (h.block i hi)⟩
end Go.Proofs.YtmagaapdijapiaaDoor
