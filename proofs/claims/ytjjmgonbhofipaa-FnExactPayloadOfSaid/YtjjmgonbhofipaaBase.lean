/- Plain words for memory and lists: blocks that are known whole, rows of integers, what was there stays. No program in sight. -/
import Derived.WalkKit
import Derived.ProofKit
import Derived.OwnWalk
import Derived.Below
import Derived.Laws.Rows
import Derived.Laws.Tables
import Derived.Laws.OwnMore
import Derived.Deep.MidRow
import Derived.Deep.AppendLies
import Derived.Deep.Draws
import Derived.ChangeSame
import Derived.Lib.Hide
import Derived.Deep.QuietTactic
import Derived.BigQuiet
import Derived.Laws.Cover3
namespace Go.Proofs.Ytjjmgonbhofipaa
open Go.ChangeShapes Go.WideShapes Go.ChangeAt Go.RowKit

/-- integers as cells -/
def ivs (k : IntKind) (l : List Int) : Array Value := (l.map (Value.int k)).toArray
section
variable {k : IntKind} {l : List Int}
theorem ivs_size : (ivs k l).size = l.length := by simp [ivs]
theorem ivs_get (i : Nat) : (ivs k l)[i]? = (l[i]?).map (Value.int k) := by simp [ivs]
theorem ivs_at {i : Nat} (h : i < l.length) : (ivs k l)[i]? = some (.int k (l[i]'h)) := by rw [ivs_get, List.getElem?_eq_getElem h]; rfl
theorem ivs_set (i : Nat) (x : Int) : (ivs k l).setIfInBounds i (.int k x) = ivs k (l.set i x) := by
  simp [ivs, List.map_set]
theorem ivs_one : (ivs k l).all (·.oneCell') = true := Array.all_eq_true_iff_forall_mem.2 fun v hv => by
  simp only [ivs, List.mem_toArray, List.mem_map] at hv
  obtain ⟨x, _, rfl⟩ := hv
  rfl
theorem ivs_toList : (ivs k l).toList = l.map (Value.int k) := by simp [ivs]
end
theorem fill_step {L : List Int} {n k : Nat} (hn : L.length = n) (hk : k < n) (z : Int) :
    (L.take k ++ List.replicate (n - k) z).set k (L[k]'(by omega)) = L.take (k + 1) ++ List.replicate (n - (k + 1)) z := by
  subst hn
  apply List.ext_getElem?
  intro i
  rw [List.getElem?_set]
  by_cases h1 : k = i
  · subst h1
    rw [if_pos rfl, if_pos (by simp; omega), List.getElem?_append_left (by simp; omega), List.getElem?_take_of_lt (by omega), List.getElem?_eq_getElem hk]
  · rw [if_neg h1]
    by_cases h2 : i < k
    · rw [List.getElem?_append_left (by simp; omega), List.getElem?_append_left (by simp; omega), List.getElem?_take_of_lt h2, List.getElem?_take_of_lt (by omega)]
    · rw [List.getElem?_append_right (by simp; omega), List.getElem?_append_right (by simp; omega), List.getElem?_replicate, List.getElem?_replicate]
      simp only [List.length_take]
      congr 1
      apply propext
      constructor <;> intro <;> omega
theorem fill_at {L : List Int} {n k : Nat} {x : Int} (hn : L.length = n) (hk : k < n) (z : Int) (hx : L[k]? = some x) :
    (L.take k ++ List.replicate (n - k) z).set k x = L.take (k + 1) ++ List.replicate (n - (k + 1)) z := by
  rw [← fill_step hn hk z]
  rw [List.getElem?_eq_getElem (by omega)] at hx
  injection hx with hx
  rw [hx]
theorem fill_end {L : List Int} {n : Nat} (hn : L.length = n) (z : Int) : L.take n ++ List.replicate (n - n) z = L := by simp [← hn]

def Blk (w : World) (g : Nat) (t : TypeId) (cs : Array Value) : Prop := w.heap[g]? = some (.cells cs t (0, 0))
section
variable {w w' : World} {g : Nat} {t : TypeId} {cs : Array Value}
theorem Blk.lt (h : Blk w g t cs) : g < w.heap.size := by
  rcases Nat.lt_or_ge g w.heap.size with hlt | hge
  · exact hlt
  · unfold Blk at h; rw [Array.getElem?_eq_none hge] at h; cases h
theorem Blk.cell (h : Blk w g t cs) (i : Nat) : w.cell? ⟨g, i, none⟩ = cs[i]? := cell_of_row w g i cs t (0, 0) h
theorem Blk.frozen (h : Blk w g t cs) (i : Nat) : w.frozen? ⟨g, i, none⟩ = false := by
  unfold Blk at h
  simp [World.frozen?, h]
theorem Blk.cellI {k : IntKind} {l : List Int} (h : Blk w g t (ivs k l)) {i : Nat} (hi : i < l.length) : w.cell? ⟨g, i, none⟩ = some (.int k (l[i]'hi)) := (h.cell i).trans (ivs_at hi)
theorem Blk.range {k : IntKind} {l : List Int} (h : Blk w g t (ivs k l)) (o n : Nat) : w.rangeAt g o (((l.drop o).take n).map (Value.int k)) := fun j v hv => by
  rw [h.cell, ivs_get]
  simp only [List.getElem?_map, List.getElem?_take, List.getElem?_drop] at hv
  split at hv
  · exact hv
  · simp at hv
theorem Blk.new (w : World) (t : TypeId) (cs : Array Value) : Blk (w.alloc (.cells cs t)) w.heap.size t cs := heap_alloc_new w _
theorem Blk.newAt {w : World} {g : Nat} {t : TypeId} {cs cs' : Array Value} (hg : w.heap.size = g) (hc : cs' = cs) : Blk (w.alloc (.cells cs' t)) g t cs := by
  subst hg; subst hc; exact Blk.new _ _ _
theorem Blk.drew (h : Blk w g t cs) : Blk w.drew g t cs := h
theorem Blk.drewN (h : Blk w g t cs) (n : Nat) : Blk (w.drewN n) g t cs := h
theorem Blk.alloc (h : Blk w g t cs) (o : Obj) : Blk (w.alloc o) g t cs := (Below.heap_alloc w o g h.lt).trans h
theorem Blk.set_ (h : Blk w g t cs) (i : Nat) (u : Value) : Blk (w.setCell ⟨g, i, none⟩ u) g t (cs.setIfInBounds i u) := by
  unfold Blk at h ⊢
  simp [World.setCell, Array.getElem?_modify, h]
theorem Blk.setI {k : IntKind} {l : List Int} (h : Blk w g t (ivs k l)) (i : Nat) (x : Int) : Blk (w.setCell ⟨g, i, none⟩ (.int k x)) g t (ivs k (l.set i x)) := by
  rw [← ivs_set]; exact h.set_ i _
theorem Blk.far (h : Blk w g t cs) {p : Addr} (hp : g ≠ p.block) (u : Value) : Blk (w.setCell p u) g t cs := (Below.heap_setCell w p u g hp).trans h
theorem Blk.below {B : Nat} (h : Blk w g t cs) (hb : Below B w w') (hg : g < B) : Blk w' g t cs := (hb.block g hg).trans h
theorem Blk.row (h : Blk w g t cs) (cs' : Array Value) : Blk (w.setRow g cs') g t cs' := setRow_heap w g cs cs' t (0, 0) h
theorem Blk.rowFar (h : Blk w g t cs) {g' : Nat} (hg : g ≠ g') (cs' : Array Value) : Blk (w.setRow g' cs') g t cs := (setRow_other w g' g cs' hg).trans h
end
theorem size_setCell (w : World) (p : Addr) (v : Value) : (w.setCell p v).heap.size = w.heap.size := by simp [World.setCell]
theorem size_alloc (w : World) (o : Obj) : (w.alloc o).heap.size = w.heap.size + 1 := by show (w.heap.push o).size = _; simp
theorem below_setRow {B : Nat} {w w' : World} (h : Below B w w') {g : Nat} (hg : B ≤ g) (cs : Array Value) : Below B w (w'.setRow g cs) :=
  ⟨h.os, h.tape, h.output, by simpa using h.size, fun i hi => (setRow_other w' g i cs (by omega)).trans (h.block i hi)⟩
theorem below_drewN {B : Nat} {a w : World} (h : Below B a w) (n : Nat) : Below B a (w.drewN n) := ⟨h.os, h.tape, h.output, h.size, h.block⟩
theorem below_drew {B : Nat} {a w : World} (h : Below B a w) : Below B a w.drew := ⟨h.os, h.tape, h.output, h.size, h.block⟩
theorem bcell {W w1 : World} (hb : Below W.heap.size W w1) : (∀ b o, b < W.heap.size → w1.cell? ⟨b, o, none⟩ = W.cell? ⟨b, o, none⟩) ∧ (∀ b o, b < W.heap.size → w1.frozen? ⟨b, o, none⟩ = W.frozen? ⟨b, o, none⟩) :=
  ⟨fun b o h => hb.cell (p := ⟨b, o, none⟩) h, fun b o h => hb.frozen (p := ⟨b, o, none⟩) h⟩
end Go.Proofs.Ytjjmgonbhofipaa
