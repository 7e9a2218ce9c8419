/- Own rows of blocks: read and written. -/
import Derived.Test.YtmagaapdijapiaaRows
import Derived.Test.YtmagaapdijapiaaMk
import Derived.Test.YtmagaapdijapiaaCv
namespace Go.Proofs.Ytmagaapdijapiaa
open Go.ChangeShapes Go.WideShapes Go.ChangeAt Go.RowKit
def setAll : List Value → Nat → List Value → List Value
  | xs, _, [] => xs
  | xs, o, v :: vs => setAll (xs.set o v) (o + 1) vs
theorem setAll_length : ∀ (vs xs : List Value) (o : Nat), (setAll xs o vs).length = xs.length
  | [], _, _ => rfl
  | v :: vs, xs, o => by rw [setAll, setAll_length vs, List.length_set]
theorem setAll_get : ∀ (vs xs : List Value) (o i : Nat), o + vs.length ≤ xs.length → (setAll xs o vs)[i]? = if o ≤ i ∧ i < o + vs.length then vs[i - o]? else xs[i]?
  | [], xs, o, i, _ => by rw [setAll, if_neg (by rw [List.length_nil]; omega)]
  | v :: vs, xs, o, i, h => by
    simp only [List.length_cons] at h
    rw [setAll, setAll_get vs (xs.set o v) (o + 1) i (by rw [List.length_set]; omega), List.length_cons]
    by_cases h1 : i = o
    · subst h1
      rw [if_neg (by omega), if_pos (by omega), Nat.sub_self, List.getElem?_set_self (by omega)]
      rfl
    · by_cases h2 : o + 1 ≤ i ∧ i < o + 1 + vs.length
      · rw [if_pos h2, if_pos (by omega), show i - o = (i - (o + 1)) + 1 by omega, List.getElem?_cons_succ]
      · rw [if_neg h2, if_neg (by omega), List.getElem?_set_ne (fun e => h1 e.symm)]
section
variable {lo hi g : Nat} {e : TypeId} {size n c : Nat}
theorem Own.setAllC : ∀ (vs : List Value) {xs : List Value} (o : Nat) {w : World}, Own w lo hi e size (some ⟨g, 0, none⟩) n c xs → Own (w.setCells g o vs) lo hi e size (some ⟨g, 0, none⟩) n c (setAll xs o vs)
  | [], _, _, _, h => h
  | v :: vs, _xs, o, _w, h => Own.setAllC vs (o + 1) (h.setV o v)
theorem Own.thereC {w : World} {xs : List Value} (h : Own w lo hi e size (some ⟨g, 0, none⟩) n c xs) (o m : Nat) (hm : o + m ≤ n * size) : w.there g o m := fun j hj => by
  have hl := h.1
  obtain ⟨h1, h2⟩ := h.cellV (j := o + j) (u := xs[o + j]'(by omega)) (List.getElem?_eq_getElem (by omega))
  exact ⟨by rw [h1]; rfl, h2⟩
end
theorem bcs_set {l : List Bl} (hl : Bls l) {k : Nat} (hk : k < l.length) {b : Bl} (hb : b.1.length = 2 ∧ b.2.length = 16) {off : Nat} {vs : List Value} (ho : off + vs.length ≤ 18) (he : bvs b = setAll (bvs l[k]) off vs) : setAll (bcs l) (k * 18 + off) vs = bcs (l.set k b) := by
  have hs : Bls (l.set k b) := fun c hc => by
    rcases List.mem_or_eq_of_mem_set hc with h | rfl
    · exact hl c h
    · exact hb
  have hlen := bcs_length hl
  have hle : k * 18 + off + vs.length ≤ (bcs l).length := by omega
  have hkl := bvs_length (hl.at_ hk)
  apply List.ext_getElem?
  intro i
  rw [setAll_get vs (bcs l) _ i hle]
  by_cases hi : i < l.length * 18
  · have e : i = i / 18 * 18 + i % 18 := by omega
    have hq : i / 18 < l.length := by omega
    have hr : i % 18 < 18 := by omega
    have g1 := bcs_get hs (i := i / 18) (j := i % 18) (by rw [List.length_set]; exact hq) hr
    have g2 := bcs_get hl hq hr
    rw [← e] at g1 g2
    rw [g1]
    by_cases hqk : i / 18 = k
    · subst hqk
      simp only [List.getElem_set_self]
      rw [he, setAll_get vs _ _ _ (by omega), g2]
      by_cases hin : off ≤ i % 18 ∧ i % 18 < off + vs.length
      · rw [if_pos hin, if_pos (by omega)]
        congr 1
        omega
      · rw [if_neg hin, if_neg (by omega)]
    · rw [if_neg (by omega), g2]
      congr 2
      rw [List.getElem_set_ne (fun e => hqk e.symm)]
  · rw [if_neg (by omega), List.getElem?_eq_none (by omega), List.getElem?_eq_none (by rw [bcs_length hs, List.length_set]; omega)]
theorem setAll_whole {xs vs : List Value} (h : vs.length = xs.length) : setAll xs 0 vs = vs := by
  apply List.ext_getElem?
  intro i
  rw [setAll_get vs xs 0 i (by omega)]
  by_cases hi : i < vs.length
  · rw [if_pos (by omega)]; rfl
  · rw [if_neg (by omega), List.getElem?_eq_none (by omega), List.getElem?_eq_none (by omega)]
theorem bcs_set_whole {l : List Bl} (hl : Bls l) {k : Nat} (hk : k < l.length) {b : Bl} (hb : b.1.length = 2 ∧ b.2.length = 16) : setAll (bcs l) (k * 18) (bvs b) = bcs (l.set k b) :=
  bcs_set hl hk hb (off := 0) (by rw [bvs_length hb]; omega) (setAll_whole (by rw [bvs_length hb, bvs_length (hl.at_ hk)])).symm
theorem bcs_set_mask {l : List Bl} (hl : Bls l) {k : Nat} (hk : k < l.length) {M : List Int} (hM : M.length = 16) : setAll (bcs l) (k * 18 + 2) (M.map (.int .u16)) = bcs (l.set k ((l[k]).1, M)) := by
  have hb := hl.at_ hk
  refine bcs_set (b := ((l[k]).1, M)) (off := 2) hl hk ⟨hb.1, hM⟩ (by rw [List.length_map, hM]; omega) ?_
  apply List.ext_getElem?
  intro i
  have hb1 := hb.1
  rw [setAll_get _ _ _ _ (by rw [List.length_map, bvs_length hb]; omega), bvs, bvs, List.length_map]
  dsimp only
  by_cases h1 : i < 2
  · rw [if_neg (by omega), List.getElem?_append_left (by rw [List.length_map]; omega), List.getElem?_append_left (by rw [List.length_map]; omega)]
  · rw [List.getElem?_append_right (by rw [List.length_map]; omega), List.length_map]
    by_cases h2 : i < 18
    · rw [if_pos (by omega), hb.1]
    · rw [if_neg (by omega), List.getElem?_eq_none (by rw [List.length_map]; omega), List.getElem?_eq_none (by rw [List.length_append, List.length_map, List.length_map]; omega)]
section
variable {w : World} {lo hi g n c : Nat} {e : TypeId} {l : List Bl}
theorem own_block (h : Own w lo hi e 18 (some ⟨g, 0, none⟩) n c (bcs l)) (hl : Bls l) {k : Nat} (hk : k < l.length) : w.rangeAt g (k * 18) (bvs l[k]) := fun j v hv => by
  have hj : j < 18 := by rw [← bvs_length (hl.at_ hk)]; exact (List.getElem?_eq_some_iff.1 hv).1
  exact (h.cellV (j := k * 18 + j) (u := v) (by rw [bcs_get hl hk hj]; exact hv)).1
theorem own_corner (h : Own w lo hi e 18 (some ⟨g, 0, none⟩) n c (bcs l)) (hl : Bls l) {k : Nat} (hk : k < l.length) : w.rangeAt g (k * 18) ((l[k]).1.map (.int .i32)) := fun q v hq => own_block h hl hk q v (by
  rw [bvs, List.getElem?_append_left (by exact (List.getElem?_eq_some_iff.1 hq).1)]
  exact hq)
theorem own_mask (h : Own w lo hi e 18 (some ⟨g, 0, none⟩) n c (bcs l)) (hl : Bls l) {k : Nat} (hk : k < l.length) : w.rangeAt g (k * 18 + 2) ((l[k]).2.map (.int .u16)) := fun j v hv => by
  rw [Nat.add_assoc]
  exact own_block h hl hk (2 + j) v (by rw [bvs, List.getElem?_append_right (by rw [List.length_map, (hl.at_ hk).1]; omega), List.length_map, (hl.at_ hk).1, Nat.add_sub_cancel_left]; exact hv)
end
theorem bvs_pair (X Y : Int) (M : List Int) : bvs ([X, Y], M) = .int .i32 X :: .int .i32 Y :: M.map (.int .u16) := rfl
end Go.Proofs.Ytmagaapdijapiaa
