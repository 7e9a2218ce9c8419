/- A row that is read out of memory whole, said in one word; for regions that leave their order open. -/
import Derived.Test.YtfjfiljgbkhblaaDoorRows
import Derived.Test.YtfjfiljgbkhblaaDoorBase
import Derived.Test.YtfjfiljgbkhblaaDoorSl
namespace Go.Proofs.YtfjfiljgbkhblaaDoor
open Go.ChangeShapes Go.WideShapes Go.ChangeAt Go.RowKit

def rowAt (W : World) (g o n : Nat) : Array Value := ((List.range n).map fun j => (W.cell? ⟨g, o + j, none⟩).getD undef).toArray
def hasRow (W : World) (g o n : Nat) : Bool := (List.range n).all fun j => (W.cell? ⟨g, o + j, none⟩).isSome
theorem Blk.rowAt_eq {w : World} {g : Nat} {t : TypeId} {k : IntKind} {l : List Int} (h : Blk w g t (ivs k l)) {n : Nat} (hn : l.length = n) : rowAt w g 0 n = ivs k l := by
  subst hn
  unfold rowAt ivs
  congr 1
  apply List.ext_getElem (by simp)
  intro i h1 h2
  have hi : i < l.length := by simpa using h2
  simp only [List.getElem_map, List.getElem_range, Nat.zero_add, h.cellI hi, Option.getD_some]
theorem Blk.hasRow_eq {w : World} {g : Nat} {t : TypeId} {k : IntKind} {l : List Int} (h : Blk w g t (ivs k l)) {n : Nat} (hn : l.length = n) : hasRow w g 0 n = true := by
  subst hn
  unfold hasRow
  rw [List.all_eq_true]
  intro i hi
  rw [Nat.zero_add, h.cellI (List.mem_range.1 hi)]
  rfl
theorem range_of_has {W : World} {g o n : Nat} (h : hasRow W g o n = true) : W.rangeAt g o (rowAt W g o n).toList := fun j v hv => by
  unfold hasRow at h
  rw [List.all_eq_true] at h
  simp only [rowAt] at hv
  have hj : j < n := by
    have := (List.getElem?_eq_some_iff.1 hv).1
    simpa using this
  have h1 := h j (List.mem_range.2 hj)
  obtain ⟨u, hu⟩ := Option.isSome_iff_exists.1 h1
  rw [List.getElem?_map, List.getElem?_range hj] at hv
  simp only [Option.map_some, hu, Option.getD_some] at hv
  rw [hu, hv]

theorem rowAt_drew (W : World) (g o n : Nat) : rowAt W.drew g o n = rowAt W g o n := rfl
theorem hasRow_drew (W : World) (g o n : Nat) : hasRow W.drew g o n = hasRow W g o n := rfl
theorem rowAt_range {W : World} {g o : Nat} {k : IntKind} {l : List Int} (h : W.rangeAt g o (l.map (Value.int k))) : rowAt W g o l.length = ivs k l ∧ hasRow W g o l.length = true := by
  have hc : ∀ i (hi : i < l.length), W.cell? ⟨g, o + i, none⟩ = some (.int k l[i]) := fun i hi => h i _ (by rw [List.getElem?_map, List.getElem?_eq_getElem hi]; rfl)
  constructor
  · unfold rowAt ivs
    congr 1
    apply List.ext_getElem (by simp)
    intro i h1 h2
    have hi : i < l.length := by simpa using h2
    simp only [List.getElem_map, List.getElem_range, hc i hi, Option.getD_some]
  · unfold hasRow
    rw [List.all_eq_true]
    intro i hi
    rw [hc i (List.mem_range.1 hi)]
    rfl
theorem rowAt_rd {W : World} {b o sz : Nat} {k0 : IntKind} {fl : List (List Int)} (hc : ∀ (j : Nat) (u : Value), (fl.flatten.map (Value.int k0))[j]? = some u → W.cell? ⟨b, o + j, none⟩ = some u) (hrow : Rows_ sz fl) {k : Nat} (hk : k < fl.length) :
    rowAt W b (o + k * sz) sz = ivs k0 fl[k] ∧ hasRow W b (o + k * sz) sz = true := by
  have := Rd.rangeAt (i := k * sz) (s := sz) hc
  rw [← List.map_drop, ← List.map_take, flat_row hrow hk] at this
  have h := rowAt_range this
  rw [hrow.at_ hk] at h
  exact h

/-- a load, under a word that simp does not open -/
def ldRow (ty : TypeId) (v : Value) : Sem Next := do pure (.value (← Instr.loadAt ty v))
theorem exec_load (ty : TypeId) (ρ : Operand → Value) (dst : Option Tmp) (x : Operand) (t : TypeId) (pos : String) (after : Array Edge) (guard : Option (Nat × Bool)) :
    execOp ρ { dst := dst, op := .load ty x, type := t, pos := pos, after := after, guard := guard } = ldRow ty (ρ x) := rfl
theorem run_ldRow {P : Program} {ty : TypeId} {n : Nat} {d : TypeDesc} (hu : P.underlying ty = some d) (hd : d.isRow = true) (hi : (P.info? ty).map (·.size) = some n) (W : World) (g o : Nat) (h : hasRow W g o n = true) :
    (ldRow ty (.pointer (some ⟨g, o, none⟩))).run P W = .ok (.value (.agg (rowAt W g o n))) W := by
  have hl : (rowAt W g o n).toList.length = n := by simp [rowAt]
  have := run_loadAt_mid (P := P) W g o ty (rowAt W g o n).toList d (range_of_has h) hu hd (by rw [hl]; exact hi)
  unfold ldRow
  rw [Sem.run_bind, this]
  simp
end Go.Proofs.YtfjfiljgbkhblaaDoor
