/- Slices of texts in laws: sized, copied, compared, marked. -/
import Derived.Test.YtmagaapdijapiaaRows
import Derived.Test.YtmagaapdijapiaaSl
import Derived.Test.YtmagaapdijapiaaCl
import Derived.Laws.BytesArg
import Derived.Laws.Concat
import Derived.Lib.ItoaNum
import Derived.SliceStrings
import Derived.Deep.RegionHeld3
namespace Go.Proofs.Ytmagaapdijapiaa
open Go.ChangeShapes Go.WideShapes Go.ChangeAt Go.RowKit

theorem Str_info : (Try.prog.info? 9).map (fun i => (i.zero, i.size, i.bytes)) = some (some (.string ⟨#[]⟩), 1, 16) := by kernel_rfl
theorem Byt_info : (Try.prog.info? 5).map (fun i => (i.zero, i.size, i.bytes)) = some (some (.int .u8 0), 1, 1) := by kernel_rfl
def strs (l : List ByteArray) : List Value := l.map Value.string
theorem strs_length (l : List ByteArray) : (strs l).length = l.length := List.length_map _
theorem strs_one {l : List ByteArray} : ∀ v ∈ strs l, v.cells = #[v] := fun v hv => by
  simp only [strs, List.mem_map] at hv
  obtain ⟨s, _, rfl⟩ := hv
  rfl
theorem strs_at {l : List ByteArray} {k : Nat} (h : k < l.length) : (strs l)[k]? = some (.string l[k]) := by rw [strs, List.getElem?_map, List.getElem?_eq_getElem h]; rfl
theorem run_make_strs (n : Nat) (hn : n ≤ 1048576) (w : World) : (Instr.makeSlice 43 (.int .i64 (n : Nat)) (.int .i64 (n : Nat))).run Try.prog w = .ok (.slice (some ⟨w.heap.size, 0, none⟩) n n) (w.alloc (.cells (List.replicate n (.string ⟨#[]⟩)).toArray 9)) := by
  obtain ⟨i0, hi, hz0, hz1, hz2⟩ := info_parts Str_info
  have hr := run_make (P := Try.prog) w 43 9 i0 (.string ⟨#[]⟩) Try.underlying43 hi hz0 .i64 .i64 n n (by omega) (by omega) (by rw [hz2]; omega) (by omega)
  simp only [Int.toNat_natCast] at hr
  rw [hz1, Nat.mul_one, show (Value.string ⟨#[]⟩).cells = #[Value.string ⟨#[]⟩] from rfl, madeZero] at hr
  exact hr
theorem Own.cell_ {w : World} {lo hi g : Nat} {e : TypeId} {n c : Nat} {xs : List Value} (h : Own w lo hi e 1 (some ⟨g, 0, none⟩) n c xs) {j : Nat} (hj : j < n) : (∃ u, w.cell? ⟨g, j, none⟩ = some u) ∧ w.frozen? ⟨g, j, none⟩ = false := by
  obtain ⟨g', cur, e1, _, _, hb, hnc, _, hs, hx⟩ := h.at_ (by omega)
  cases e1
  refine ⟨⟨cur[j]'(by omega), ?_⟩, hb.frozen j⟩
  rw [hb.cell]
  exact Array.getElem?_eq_getElem _

/-! ### their size -/
theorem open_strs_rd {H : Type} {enc : TypeId × Value → H} {P : Program} {w : World} {t e : TypeId} {A : Option Addr} {n c : Nat} {d : DataW H} {p : List MemPlace} (ht : P.underlying t = some (.slice e)) (he : P.underlying e = some .string) (hce : P.cellsOf e = 1)
    (h : DataW.Trod enc P w 0 (fun _ => true) true t (.slice A n c) d p) :
    ∃ l : List ByteArray, l.length = n ∧ n ≤ c ∧ c ≤ 9223372036854775807 ∧ Rd w w.heap.size 1 A n (strs l) ∧ ∀ s ∈ l, s.size ≤ maxLen := by
  obtain ⟨fuel, hf⟩ := h
  rcases open_strings ht he hce hf with ⟨hcs, hx⟩ | ⟨a, len, cap, ss, hcs, _, hl, hm, hz, hx, hcell, hwz⟩
  · simp only [Value.cells, List.cons.injEq, Value.slice.injEq, and_true] at hcs
    obtain ⟨rfl, rfl, rfl⟩ := hcs
    exact ⟨[], rfl, Nat.le_refl _, by omega, Rd.nil_, fun x hx => by cases hx⟩
  · simp only [Value.cells, List.cons.injEq, Value.slice.injEq, and_true] at hcs
    obtain ⟨rfl, rfl, rfl⟩ := hcs
    simp only [if_true] at hz
    refine ⟨ss.take n, by simp; omega, hl, by unfold maxLen at hm; exact hm, ⟨by simp [strs]; omega, fun hn => ?_⟩, fun x hx => hwz x (List.mem_of_mem_take hx)⟩
    obtain ⟨b, o, s⟩ := a
    have h0 := hcell 0 (by omega)
    have hs : s = none := by
      have := World.cell?_spot h0
      simpa [Addr.add] using this
    subst hs
    refine ⟨b, o, rfl, World.block_lt_of_cell? _ _ h0, fun j u hu => ?_⟩
    rw [strs, List.getElem?_map, List.getElem?_take] at hu
    split at hu
    · rename_i hj
      have := hcell j (by omega)
      rw [List.getElem?_eq_getElem (by omega)] at hu
      simp only [Option.map_some, Option.some.injEq] at hu
      rw [← hu]
      rw [List.getD_eq_getElem?_getD, List.getElem?_eq_getElem (by omega), show (({ block := b, off := o } : Addr).add j) = ⟨b, o + j, none⟩ from by unfold Addr.add; split <;> simp_all] at this
      exact this
    · cases hu
end Go.Proofs.Ytmagaapdijapiaa
