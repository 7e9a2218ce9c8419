/- What a file's head tells: the kind, the count and the number of bytes, and whether it is one. -/
import Derived.Test.YtfjfiljgbkhblaaDoorRows
import Derived.Test.YtfjfiljgbkhblaaDoorUa
import Derived.Test.YtfjfiljgbkhblaaDoorFrB
import Derived.Deep.RegionLaw
import Derived.Lib.SlBytesConst
import Derived.ArgAppend
import Derived.Deep.RegionHeld3
namespace Go.Proofs.YtfjfiljgbkhblaaDoor
open Go.ChangeShapes Go.WideShapes Go.ChangeAt Go.RowKit

def is255 (l : List Int) : Prop := ∀ x ∈ l, 0 ≤ x ∧ x ≤ 255
theorem is255_of_wfs {l : List Int} (h : ∀ x ∈ l, (Lit.int .u8 x).wf = true) : is255 l := fun x hx => by
  have := h x hx
  simp [Lit.wf, IntKind.min, IntKind.max, IntKind.signed, IntKind.bits] at this
  omega
theorem is255.getD {l : List Int} (h : is255 l) (i : Nat) : 0 ≤ l.getD i 0 ∧ l.getD i 0 ≤ 255 := by
  by_cases hi : i < l.length
  · rw [List.getD_eq_getElem?_getD, List.getElem?_eq_getElem hi]
    exact h _ (List.getElem_mem hi)
  · rw [List.getD_eq_getElem?_getD, List.getElem?_eq_none (by omega)]
    exact ⟨by decide, by decide⟩
def numAt (F : List Int) (o : Nat) : Int := num4 (F.getD o 0) (F.getD (o + 1) 0) (F.getD (o + 2) 0) (F.getD (o + 3) 0)
theorem numAt_range {F : List Int} (h : is255 F) (o : Nat) : 0 ≤ numAt F o ∧ numAt F o ≤ 4294967295 := by
  have h0 := h.getD o
  have h1 := h.getD (o + 1)
  have h2 := h.getD (o + 2)
  have h3 := h.getD (o + 3)
  unfold numAt num4
  omega
def hdKind (F : List Int) : Int := F.getD 3 0
def hdOk (F : List Int) : Bool := F.take 3 == [77, 80, 78]
theorem Blk.getAt {w : World} {g : Nat} {t : TypeId} {k : IntKind} {l : List Int} (h : Blk w g t (ivs k l)) {i : Nat} (hi : i < l.length) : w.cell? ⟨g, i, none⟩ = some (.int k (l.getD i 0)) := by
  have := h.getD i hi
  rwa [Nat.zero_add] at this
theorem strOfNums_inj {a b : List Int} (ha : is255 a) (hb : is255 b) : ((strOfNums a).toList == (strOfNums b).toList) = (a == b) := by
  rw [ByteArray.toList_eq, ByteArray.toList_eq, strOfNums_data, strOfNums_data]
  induction a generalizing b with
  | nil => cases b <;> rfl
  | cons x a ih =>
    cases b with
    | nil => rfl
    | cons y b =>
      have h1 := ha x (List.mem_cons_self ..)
      have h2 := hb y (List.mem_cons_self ..)
      rw [List.map_cons, List.map_cons, List.cons_beq_cons, List.cons_beq_cons, ih (fun z hz => ha z (List.mem_cons_of_mem _ hz)) (fun z hz => hb z (List.mem_cons_of_mem _ hz))]
      congr 1
      rw [Bool.eq_iff_iff, beq_iff_eq, beq_iff_eq]
      constructor
      · intro h
        have := congrArg UInt8.toNat h
        simp only [UInt8.toNat_ofNat'] at this
        omega
      · rintro rfl; rfl

theorem hdOk_eq {F : List Int} (h : is255 F) : ((strOfNums (F.take 3)).toList == (strOfNums [77, 80, 78]).toList) = hdOk F :=
  strOfNums_inj (fun x hx => h x (List.mem_of_mem_take hx)) (fun x hx => by simp at hx; omega)

theorem results_tmp4 {fn : Func} {t u v x : Tmp} (h : fn.results = #[.tmp t, .tmp u, .tmp v, .tmp x]) (tmps : Array Value) (P : Program) (w : World) :
    (results fn tmps).run P w = .ok (.tuple #[tmps.getD t undef, tmps.getD u undef, tmps.getD v undef, tmps.getD x undef]) w := by simp [results, h]

end Go.Proofs.YtfjfiljgbkhblaaDoor
