/- A slice of frames is copied; rows and cells are written into it. -/
import Derived.Test.YtmagaapdijapiaaRows
import Derived.Test.YtmagaapdijapiaaSf
import Derived.Test.YtmagaapdijapiaaHa
import Derived.Lib.SliceRun
namespace Go.Proofs.Ytmagaapdijapiaa
open Go.ChangeShapes Go.WideShapes Go.ChangeAt Go.RowKit

section
variable {w w' : World} {lo hi g : Nat} {e : TypeId} {size : Nat} {n c : Nat} {xs : List Value}
theorem Own.setCell (h : Own w lo hi e size (some ⟨g, 0, none⟩) n c xs) (j : Nat) (v : Value) : Own (w.setCell ⟨g, j, none⟩ v) lo hi e size (some ⟨g, 0, none⟩) n c (xs.set j v) := by
  obtain ⟨hl, h⟩ := h
  refine ⟨by simp [hl], ?_⟩
  rcases h with ⟨h, _⟩ | ⟨g', cur, h1, h2, h3, h4, h5, h6, h7, h8⟩
  · cases h
  · cases h1
    refine .inr ⟨g, _, rfl, h2, h3, h4.set_ j v, h5, h6, by simp [h7], ?_⟩
    rw [← h8, Array.toList_setIfInBounds, List.take_set]
theorem Own.setCells : ∀ (vs : List Value) (o : Nat) {w : World} {xs : List Value}, Own w lo hi e size (some ⟨g, 0, none⟩) n c xs → o + vs.length ≤ xs.length →
    Own (w.setCells g o vs) lo hi e size (some ⟨g, 0, none⟩) n c (xs.take o ++ (vs ++ xs.drop (o + vs.length)))
  | [], o, w, xs, h, _ => by simpa [World.setCells] using h
  | x :: m, o, w, l, h, hl => by
    have h1 := Own.setCells m (o + 1) (h.setCell o x) (by simp at hl ⊢; omega)
    have e : (l.set o x).take (o + 1) ++ (m ++ (l.set o x).drop (o + 1 + m.length)) = l.take o ++ (x :: m ++ l.drop (o + (x :: m).length)) := by
      have ho : o < l.length := by simp at hl; omega
      rw [List.take_succ_eq_append_getElem (by simpa using ho), List.getElem_set_self, List.take_set_of_le (Nat.le_refl _), List.drop_set_of_lt (by omega)]
      rw [List.append_assoc, List.cons_append, List.nil_append, List.length_cons, show o + 1 + m.length = o + (m.length + 1) by omega, List.cons_append]
    rw [e] at h1
    exact h1
theorem Own.there (h : Own w lo hi e size (some ⟨g, 0, none⟩) n c xs) (o m : Nat) (hm : o + m ≤ n * size) : w.there g o m := by
  obtain ⟨hl, h⟩ := h
  rcases h with ⟨h, _⟩ | ⟨g', cur, h1, h2, h3, h4, h5, h6, h7, h8⟩
  · cases h
  · cases h1
    have : n * size ≤ c * size := Nat.mul_le_mul_right _ h5
    exact h4.there o m (by omega)
end
theorem flat_set {sz : Nat} {l : List (List Int)} {k : Nat} {f : List Int} (h : Rows_ sz l) (hk : k < l.length) (hf : f.length = sz) :
    (l.set k f).flatten = l.flatten.take (k * sz) ++ (f ++ l.flatten.drop (k * sz + f.length)) := by
  rw [flat_take k h, show k * sz + f.length = (k + 1) * sz by rw [hf, Nat.add_mul, Nat.one_mul], flat_drop (k + 1) h, List.set_eq_take_append_cons_drop, if_pos hk, List.flatten_append, List.flatten_cons]
theorem Rows_.set {sz : Nat} {l : List (List Int)} {k : Nat} {f : List Int} (h : Rows_ sz l) (hf : f.length = sz) : Rows_ sz (l.set k f) := fun x hx => by
  rcases List.mem_or_eq_of_mem_set hx with hx | rfl
  · exact h x hx
  · exact hf
theorem Own.setRow_ {w : World} {lo hi g : Nat} {e : TypeId} {n c : Nat} {l : List (List Int)} {kd : IntKind} {sz k : Nat} (h : Own w lo hi e sz (some ⟨g, 0, none⟩) n c (l.flatten.map (Value.int kd))) (hrow : Rows_ sz l) (hk : k < l.length) {f : List Int} (hf : f.length = sz) :
    Own (w.setCells g (k * sz) (f.map (Value.int kd))) lo hi e sz (some ⟨g, 0, none⟩) n c ((l.set k f).flatten.map (Value.int kd)) := by
  have h1 := Own.setCells (f.map (Value.int kd)) (k * sz) h (by
    rw [List.length_map, List.length_map, flat_length hrow, hf]
    have : (k + 1) * sz ≤ l.length * sz := Nat.mul_le_mul_right _ hk
    rw [Nat.add_mul, Nat.one_mul] at this
    exact this)
  rw [flat_set hrow hk hf, List.map_append, List.map_append, List.map_take, List.map_drop]
  rw [List.length_map] at h1
  exact h1
theorem Rd.row_at {w : World} {B sz b o n k : Nat} {kd : IntKind} {l : List (List Int)} (h : Rd w B sz (some ⟨b, o, none⟩) n (l.flatten.map (Value.int kd))) (hrow : Rows_ sz l) (hn : 0 < n) (hk : k < l.length) : w.rangeAt b (o + k * sz) ((l[k]).map (Value.int kd)) := by
  obtain ⟨b', o', hA, hB, hc⟩ := h.at_ hn
  cases hA
  have := Rd.rangeAt (i := k * sz) (s := sz) hc
  rw [← List.map_drop, ← List.map_take, flat_row hrow hk] at this
  exact this
theorem Rd.news {w : World} {B sz b o n : Nat} {xs : List Value} (h : Rd w B sz (some ⟨b, o, none⟩) n xs) : ∀ j u, xs[j]? = some u → w.cell? ((⟨b, o, none⟩ : Addr).add j) = some u := fun j u hu => by
  rcases Nat.eq_zero_or_pos n with hn | hn
  · subst hn
    have h1 := h.1
    rw [Nat.zero_mul] at h1
    rw [List.length_eq_zero_iff.1 h1] at hu
    cases hu
  · obtain ⟨b', o', hA, hB, hc⟩ := h.at_ hn
    cases hA
    rw [show (⟨b, o, none⟩ : Addr).add j = ⟨b, o + j, none⟩ from by unfold Addr.add; split <;> simp_all]
    exact hc j u hu
theorem wpList_load_ivs_g {P : Program} {w : World} {ops : Array Oper} {rest : List Oper} {op : Oper} {a : Act} {Q : Exit → Act → World → Prop} (hw : Region.wanted op (yielded ops a.tmps) = true) (ty : TypeId) (x : Operand) (ho : op.op = .load ty x)
    (b o : Nat) (hx : a.eval x = .pointer (some ⟨b, o, none⟩)) (k : IntKind) (l : List Int) (d : TypeDesc) (hc : w.rangeAt b o (l.map (Value.int k)))
    (hu : P.underlying ty = some d) (hd : d.isRow = true) (hi : (P.info? ty).map (·.size) = some l.length)
    (h : wpList P ops Q rest (a.put op.dst (.agg (ivs k l))) w) : wpList P ops Q (op :: rest) a w :=
  wpList_step fun _ hK => by
    rw [if_pos hw]
    exact wp_load_mid ty x ho b o hx (l.map (Value.int k)) d hc hu hd (by rw [List.length_map]; exact hi) (hK _ _ h)

end Go.Proofs.Ytmagaapdijapiaa
