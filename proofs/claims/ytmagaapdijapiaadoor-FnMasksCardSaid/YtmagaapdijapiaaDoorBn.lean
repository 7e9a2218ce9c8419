/- Slices of blocks in the laws: measured, copied, compared. -/
import Derived.Test.YtmagaapdijapiaaDoorRows
import Derived.Test.YtmagaapdijapiaaDoorBm
import Derived.Test.YtmagaapdijapiaaDoorLd
import Derived.Deep.RegionLaw
namespace Go.Proofs.YtmagaapdijapiaaDoor
open Go.ChangeShapes Go.WideShapes Go.ChangeAt Go.RowKit

theorem run_make_cells {P : Program} {t e : TypeId} {i : TypeInfo} {z : Value} {sz : Nat} (ht : P.underlying t = some (.slice e)) (hi : P.info? e = some i) (hz : i.zero = some z) (hsize : i.size = sz)
    (n : Nat) (hbytes : i.bytes * n ≤ 281474976710656) (hn : n ≤ 9223372036854775807) :
    ∃ Z : Array Value, Z.size = n * sz ∧ ∀ w : World, (Instr.makeSlice t (.int .i64 (n : Nat)) (.int .i64 (n : Nat))).run P w = .ok (.slice (some ⟨w.heap.size, 0, none⟩) n n) (w.alloc (.cells Z e)) := by
  have hb : (i.bytes : Int) * (n : Int) ≤ 281474976710656 := by
    have h : ((i.bytes * n : Nat) : Int) ≤ 281474976710656 := by omega
    rwa [Int.natCast_mul] at h
  refine ⟨madeCells z.cells (n * sz), size_madeCells _ _, fun w => ?_⟩
  have hr := run_make (P := P) w t e i z ht hi hz .i64 .i64 n n (by omega) (by omega) hb (by omega)
  simp only [Int.toNat_natCast] at hr
  rw [hsize] at hr
  exact hr
theorem Rd.block {w : World} {B n b o k : Nat} {l : List Bl} (h : Rd w B 18 (some ⟨b, o, none⟩) n (bcs l)) (hl : Bls l) (hn : 0 < n) (hk : k < l.length) : w.rangeAt b (o + k * 18) (bvs l[k]) := by
  obtain ⟨b', o', e, _, hc⟩ := h.2 hn
  cases e
  have := Rd.rangeAt (i := k * 18) (s := 18) hc
  rwa [bcs_row hl hk] at this
theorem Bls.take {l : List Bl} (h : Bls l) (k : Nat) : Bls (l.take k) := fun b hb => h b (List.mem_of_mem_take hb)
theorem bcs_succ {l : List Bl} {k : Nat} (hk : k < l.length) : bcs (l.take (k + 1)) = bcs (l.take k) ++ bvs l[k] := by
  rw [bcs, bcs, List.take_succ_eq_append_getElem hk, List.map_append, List.flatten_append]
  simp
theorem fill_blocks {l : List Bl} (h : Bls l) {Z : List Value} {k : Nat} (hk : k < l.length) (_hZ : Z.length = l.length * 18) :
    ((bcs (l.take k) ++ Z.drop (k * 18)).take (k * 18) ++ (bvs l[k] ++ (bcs (l.take k) ++ Z.drop (k * 18)).drop (k * 18 + (bvs l[k]).length))) = bcs (l.take (k + 1)) ++ Z.drop ((k + 1) * 18) := by
  have e : (bcs (l.take k)).length = k * 18 := by rw [bcs_length (h.take k), List.length_take, Nat.min_eq_left (by omega)]
  rw [bvs_length (h.at_ hk), List.take_left' e, ← List.append_assoc, bcs_succ hk, List.drop_append, List.drop_of_length_le (by omega), List.nil_append, e, Nat.add_sub_cancel_left, List.drop_drop, show k * 18 + 18 = (k + 1) * 18 by omega]
theorem Block_info : (Tryd.prog.info? 95).map (fun i => (i.zero, i.size, i.bytes)) = some (some (.agg #[.int .i32 0, .int .i32 0, .int .u16 0, .int .u16 0, .int .u16 0, .int .u16 0, .int .u16 0, .int .u16 0, .int .u16 0, .int .u16 0, .int .u16 0, .int .u16 0, .int .u16 0, .int .u16 0, .int .u16 0, .int .u16 0, .int .u16 0, .int .u16 0]), 18, 40) := by kernel_rfl
theorem Blk.ownV {w : World} {g lo hi : Nat} {e : TypeId} {xs : List Value} {n size : Nat} (h : Blk w g e xs.toArray) (hl : xs.length = n * size) (h1 : lo ≤ g) (h2 : g < hi) (hm : n ≤ maxLen) :
    Own w lo hi e size (some ⟨g, 0, none⟩) n n xs :=
  ⟨hl, .inr ⟨g, _, rfl, h1, h2, h, Nat.le_refl _, hm, by rw [List.size_toArray, hl], by rw [← hl]; exact List.take_of_length_le (Nat.le_refl _)⟩⟩
theorem rowAt_vals {W : World} {g o : Nat} {vs : List Value} (h : W.rangeAt g o vs) : rowAt W g o vs.length = vs.toArray ∧ hasRow W g o vs.length = true := by
  have hc : ∀ i (hi : i < vs.length), W.cell? ⟨g, o + i, none⟩ = some vs[i] := fun i hi => h i _ (List.getElem?_eq_getElem hi)
  constructor
  · unfold rowAt
    congr 1
    apply List.ext_getElem (by simp)
    intro i h1 h2
    simp only [List.getElem_map, List.getElem_range]
    rw [hc i h2]
    rfl
  · unfold hasRow
    rw [List.all_eq_true]
    intro i hi
    rw [hc i (List.mem_range.1 hi)]
    rfl
theorem exec_loadBlock (ρ : Operand → Value) (dst : Option Tmp) (x : Operand) (t : TypeId) (pos : String) (after : Array Edge) (guard : Option (Nat × Bool)) :
    execOp ρ { dst := dst, op := .load 95 x, type := t, pos := pos, after := after, guard := guard } = ldRow 95 (ρ x) := rfl
theorem run_ldBlock : ∀ (W : World) (g o : Nat), hasRow W g o 18 = true → (ldRow 95 (.pointer (some ⟨g, o, none⟩))).run Tryd.prog W = .ok (.value (.agg (rowAt W g o 18))) W := run_ldRow Tryd.underlying95 rfl size95
section
attribute [local go_sem ↓] exec_loadBlock
attribute [local go_sem] run_ldBlock
end
end Go.Proofs.YtmagaapdijapiaaDoor
