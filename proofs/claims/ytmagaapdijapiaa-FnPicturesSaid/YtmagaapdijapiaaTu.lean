/- Pieces: what is found from a cell on. No program in sight. -/
import Derived.Test.YtmagaapdijapiaaRows
import Derived.Test.YtmagaapdijapiaaTr
namespace Go.Proofs.Ytmagaapdijapiaa
open Go.ChangeShapes Go.WideShapes Go.ChangeAt Go.RowKit
/-- whether a step leads to a cell beside -/
def adjB (cn : Bool) (dx dy : Int) : Bool := (decide (-1 ≤ dx) && decide (dx ≤ 1) && decide (-1 ≤ dy) && decide (dy ≤ 1)) && (if cn then decide (dx ≠ 0 ∨ dy ≠ 0) else decide (dx * dx + dy * dy = 1))
theorem adj_in {cn : Bool} {dx dy : Int} (h : adjB cn dx dy = true) : -1 ≤ dx ∧ dx ≤ 1 ∧ -1 ≤ dy ∧ dy ≤ 1 := by
  simp only [adjB, Bool.and_eq_true, decide_eq_true_iff] at h
  omega
theorem adj_neg {cn : Bool} {dx dy : Int} (h : adjB cn dx dy = true) : adjB cn (-dx) (-dy) = true := by
  have h1 := adj_in h
  simp only [adjB, Bool.and_eq_true, decide_eq_true_iff] at h ⊢
  refine ⟨by omega, ?_⟩
  have h2 := h.2
  cases cn
  · simp only [Bool.false_eq_true, if_false, decide_eq_true_iff] at h2 ⊢
    rw [Int.neg_mul_neg, Int.neg_mul_neg]
    exact h2
  · simp only [if_true, decide_eq_true_iff] at h2 ⊢
    omega
theorem adj_wide {dx dy : Int} (h : adjB false dx dy = true) : adjB true dx dy = true := by
  have h1 := adj_in h
  simp only [adjB, Bool.and_eq_true, decide_eq_true_iff, Bool.false_eq_true, if_false, if_true] at h ⊢
  refine ⟨by omega, ?_⟩
  have h2 := h.2
  by_cases e : dx = 0 ∧ dy = 0
  · rw [e.1, e.2] at h2
    omega
  · omega
/-- the cells that are reached from a cell -/
inductive Reach (H : Int → Int → Bool) (cn : Bool) (x y : Int) : Int → Int → Prop
  | start : H x y = true → Reach H cn x y x y
  | step {u v : Int} (du dv : Int) : Reach H cn x y u v → adjB cn du dv = true → H (u + du) (v + dv) = true → Reach H cn x y (u + du) (v + dv)
theorem Reach.has {H : Int → Int → Bool} {cn : Bool} {x y u v : Int} (h : Reach H cn x y u v) : H u v = true := by
  cases h <;> assumption
theorem Reach.has0 {H : Int → Int → Bool} {cn : Bool} {x y u v : Int} (h : Reach H cn x y u v) : H x y = true := by
  induction h with
  | start h => exact h
  | step _ _ _ _ _ ih => exact ih
theorem Reach.trans {H : Int → Int → Bool} {cn : Bool} {x y u v a b : Int} (h : Reach H cn x y u v) (h2 : Reach H cn u v a b) : Reach H cn x y a b := by
  induction h2 with
  | start _ => exact h
  | step du dv _ ha hh ih => exact .step du dv ih ha hh
theorem Reach.symm {H : Int → Int → Bool} {cn : Bool} {x y u v : Int} (h : Reach H cn x y u v) : Reach H cn u v x y := by
  induction h with
  | start h => exact .start h
  | step du dv h1 ha hh ih =>
    rename_i u v
    have hb : Reach H cn (u + du) (v + dv) (u + du + -du) (v + dv + -dv) := .step (-du) (-dv) (.start hh) (adj_neg ha) (by
      rw [Int.add_neg_cancel_right, Int.add_neg_cancel_right]
      exact h1.has)
    rw [Int.add_neg_cancel_right, Int.add_neg_cancel_right] at hb
    exact hb.trans ih
theorem Reach.congr {H K : Int → Int → Bool} (h : ∀ u v, H u v = K u v) {cn : Bool} {x y u v : Int} (hr : Reach H cn x y u v) : Reach K cn x y u v := by
  induction hr with
  | start h1 => exact .start (h _ _ ▸ h1)
  | step du dv _ ha hh ih => exact .step du dv ih ha (h _ _ ▸ hh)
/-- a list that has been gathered: up to number i the neighbours are on it, and of number i those that are done -/
structure Part (H : Int → Int → Bool) (cn : Bool) (x y : Int) (L : List (List Int)) (i : Nat) (done : Int → Int → Prop) : Prop where
  two : ∀ c ∈ L, c.length = 2
  nodup : L.Nodup
  sound : ∀ c ∈ L, Reach H cn x y (c.getD 0 0) (c.getD 1 0)
  first : H x y = true → [x, y] ∈ L
  closed : ∀ j (h : j < L.length), j < i → ∀ du dv, adjB cn du dv = true → H ((L[j]).getD 0 0 + du) ((L[j]).getD 1 0 + dv) = true → [(L[j]).getD 0 0 + du, (L[j]).getD 1 0 + dv] ∈ L
  now : ∀ (h : i < L.length) du dv, done du dv → adjB cn du dv = true → H ((L[i]).getD 0 0 + du) ((L[i]).getD 1 0 + dv) = true → [(L[i]).getD 0 0 + du, (L[i]).getD 1 0 + dv] ∈ L
section
variable {H : Int → Int → Bool} {cn : Bool} {x y : Int} {L : List (List Int)} {i : Nat} {done : Int → Int → Prop}
theorem Part.none (h : H x y = false) : Part H cn x y [] 0 (fun _ _ => False) := ⟨fun c hc => (by cases hc), List.nodup_nil, fun c hc => (by cases hc), fun h1 => (by rw [h] at h1; cases h1), fun j h => (by simp at h), fun h => (by simp at h)⟩
theorem Part.one (h : H x y = true) : Part H cn x y [[x, y]] 0 (fun _ _ => False) :=
  ⟨fun c hc => by rw [List.mem_singleton] at hc; subst hc; rfl, List.nodup_cons.2 ⟨by simp, List.nodup_nil⟩, fun c hc => by rw [List.mem_singleton] at hc; subst hc; exact .start h, fun _ => List.mem_singleton.2 rfl, fun j _ hj => by omega, fun _ _ _ h => h.elim⟩
theorem Part.weak {done' : Int → Int → Prop} (h : Part H cn x y L i done) (hd : ∀ a b, done' a b → adjB cn a b = true → done a b) : Part H cn x y L i done' :=
  ⟨h.two, h.nodup, h.sound, h.first, h.closed, fun hi a b h1 h2 => h.now hi a b (hd a b h1 h2) h2⟩
theorem Part.same (h : Part H cn x y L i done) {du dv : Int} (hs : ∀ (hi : i < L.length), adjB cn du dv = true → H ((L[i]).getD 0 0 + du) ((L[i]).getD 1 0 + dv) = true → [(L[i]).getD 0 0 + du, (L[i]).getD 1 0 + dv] ∈ L) : Part H cn x y L i (fun a b => done a b ∨ (a = du ∧ b = dv)) :=
  ⟨h.two, h.nodup, h.sound, h.first, h.closed, fun hi a b hd ha hh => by
    rcases hd with hd | ⟨rfl, rfl⟩
    · exact h.now hi a b hd ha hh
    · exact hs hi ha hh⟩
theorem Part.add (h : Part H cn x y L i done) (hi : i < L.length) {du dv : Int} (ha : adjB cn du dv = true) (hh : H ((L[i]).getD 0 0 + du) ((L[i]).getD 1 0 + dv) = true) (hn : [(L[i]).getD 0 0 + du, (L[i]).getD 1 0 + dv] ∉ L) :
    Part H cn x y (L ++ [[(L[i]).getD 0 0 + du, (L[i]).getD 1 0 + dv]]) i (fun a b => done a b ∨ (a = du ∧ b = dv)) := by
  have hr : Reach H cn x y ((L[i]).getD 0 0 + du) ((L[i]).getD 1 0 + dv) := .step du dv (h.sound _ (List.getElem_mem hi)) ha hh
  have hg : (L ++ [[(L[i]).getD 0 0 + du, (L[i]).getD 1 0 + dv]])[i]'(by rw [List.length_append]; omega) = L[i] := List.getElem_append_left hi
  generalize hc : [(L[i]).getD 0 0 + du, (L[i]).getD 1 0 + dv] = c at *
  have c2 : c.length = 2 := by rw [← hc]; rfl
  have c0 : c.getD 0 0 = (L[i]).getD 0 0 + du := by rw [← hc]; rfl
  have c1 : c.getD 1 0 = (L[i]).getD 1 0 + dv := by rw [← hc]; rfl
  refine ⟨fun d hd => ?_, ?_, fun d hd => ?_, fun h1 => List.mem_append_left _ (h.first h1), fun j hj hji a b h1 h2 => ?_, fun hi' a b hd h1 h2 => ?_⟩
  · rcases List.mem_append.1 hd with hd | hd
    · exact h.two d hd
    · rw [List.mem_singleton] at hd; rw [hd]; exact c2
  · rw [List.nodup_append]
    refine ⟨h.nodup, List.nodup_cons.2 ⟨by simp, List.nodup_nil⟩, fun a ha b hb => ?_⟩
    rw [List.mem_singleton] at hb
    subst hb
    exact fun e => hn (e ▸ ha)
  · rcases List.mem_append.1 hd with hd | hd
    · exact h.sound d hd
    · rw [List.mem_singleton] at hd; rw [hd, c0, c1]; exact hr
  · have hjl : j < L.length := by omega
    have e : (L ++ [c])[j] = L[j] := List.getElem_append_left hjl
    rw [e] at h2 ⊢
    exact List.mem_append_left _ (h.closed j hjl hji a b h1 h2)
  · rw [hg] at h2 ⊢
    rcases hd with hd | ⟨rfl, rfl⟩
    · exact List.mem_append_left _ (h.now hi a b hd h1 h2)
    · rw [hc]; exact List.mem_append_right _ (List.mem_singleton.2 rfl)
theorem Part.next (h : Part H cn x y L i done) (hd : ∀ a b, adjB cn a b = true → done a b) : Part H cn x y L (i + 1) (fun _ _ => False) :=
  ⟨h.two, h.nodup, h.sound, h.first, fun j hj hji a b h1 h2 => by
    by_cases e : j = i
    · subst e
      exact h.now hj a b (hd a b h1) h1 h2
    · exact h.closed j hj (by omega) a b h1 h2, fun _ _ _ h => h.elim⟩
/-- the cells of a piece, each once -/
structure PieceL (H : Int → Int → Bool) (cn : Bool) (x y : Int) (L : List (List Int)) : Prop where
  two : ∀ c ∈ L, c.length = 2
  nodup : L.Nodup
  iff : ∀ u v, [u, v] ∈ L ↔ Reach H cn x y u v
theorem Part.piece (h : Part H cn x y L i done) (hi : L.length ≤ i) : PieceL H cn x y L :=
  ⟨h.two, h.nodup, fun u v => ⟨fun hm => h.sound _ hm, fun hr => by
    induction hr with
    | start h1 => exact h.first h1
    | step du dv _ ha hh ih =>
      obtain ⟨j, hj, he⟩ := List.getElem_of_mem ih
      have := h.closed j hj (by omega) du dv ha (by rw [he]; exact hh)
      rw [he] at this
      exact this⟩⟩
theorem Part.length (h : Part H cn x y L i done) {C : List (List Int)} (hC : ∀ u v, H u v = true → [u, v] ∈ C) : L.length ≤ C.length :=
  List.Nodup.length_le_of_subset h.nodup fun c hc => by
    rw [two_of (h.two c hc)]
    exact hC _ _ (h.sound c hc).has
end
theorem PieceL.mem {H : Int → Int → Bool} {cn : Bool} {x y : Int} {L : List (List Int)} (h : PieceL H cn x y L) (c : List Int) : c ∈ L ↔ c.length = 2 ∧ Reach H cn x y (c.getD 0 0) (c.getD 1 0) :=
  ⟨fun hc => ⟨h.two c hc, (h.iff _ _).1 (by rw [← two_of (h.two c hc)]; exact hc)⟩, fun ⟨h2, hr⟩ => by rw [two_of h2]; exact (h.iff _ _).2 hr⟩
theorem PieceL.perm {H : Int → Int → Bool} {cn : Bool} {x y : Int} {L M : List (List Int)} (h : PieceL H cn x y L) (h2 : PieceL H cn x y M) : L.Perm M :=
  (List.perm_ext_iff_of_nodup h.nodup h2.nodup).2 fun c => by rw [h.mem, h2.mem]
theorem PieceL.congr {H K : Int → Int → Bool} {cn : Bool} {x y : Int} {L : List (List Int)} (h : PieceL H cn x y L) (he : ∀ u v, Reach H cn x y u v ↔ Reach K cn x y u v) : PieceL K cn x y L :=
  ⟨h.two, h.nodup, fun u v => (h.iff u v).trans (he u v)⟩
/-! ### all pieces -/
/-- how many cells a piece has -/
noncomputable def pieceN (H : Int → Int → Bool) (cn : Bool) (x y : Int) : Nat := by
  classical exact if h : ∃ L, PieceL H cn x y L then h.choose.length else 0
theorem pieceN_eq {H : Int → Int → Bool} {cn : Bool} {x y : Int} {L : List (List Int)} (h : PieceL H cn x y L) : pieceN H cn x y = L.length := by
  have hx : ∃ L, PieceL H cn x y L := ⟨L, h⟩
  rw [pieceN, dif_pos hx]
  exact (hx.choose_spec.perm h).length_eq
/-- whether one of the first cells reaches a cell -/
def Old (H : Int → Int → Bool) (cn : Bool) (C : List (List Int)) (u v : Int) : Prop := ∃ c ∈ C, Reach H cn (c.getD 0 0) (c.getD 1 0) u v
noncomputable def sizesTo (H : Int → Int → Bool) (cn : Bool) (C : List (List Int)) : Nat → List Int
  | 0 => []
  | k + 1 => by
    classical exact if Old H cn (C.take k) ((C.getD k []).getD 0 0) ((C.getD k []).getD 1 0) then sizesTo H cn C k else sizesTo H cn C k ++ [(pieceN H cn ((C.getD k []).getD 0 0) ((C.getD k []).getD 1 0) : Int)]
theorem getD_nil {α : Type} {C : List (List α)} {k : Nat} (hk : k < C.length) : C.getD k [] = C[k] := by rw [List.getD_eq_getElem?_getD, List.getElem?_eq_getElem hk]; rfl
theorem sizes_old {H : Int → Int → Bool} {cn : Bool} {C : List (List Int)} {k : Nat} (hk : k < C.length) (h : Old H cn (C.take k) ((C[k]).getD 0 0) ((C[k]).getD 1 0)) : sizesTo H cn C (k + 1) = sizesTo H cn C k := by
  rw [sizesTo, getD_nil hk, if_pos h]
theorem sizes_new {H : Int → Int → Bool} {cn : Bool} {C : List (List Int)} {k : Nat} (hk : k < C.length) (h : ¬ Old H cn (C.take k) ((C[k]).getD 0 0) ((C[k]).getD 1 0)) {L : List (List Int)} (hL : PieceL H cn ((C[k]).getD 0 0) ((C[k]).getD 1 0) L) : sizesTo H cn C (k + 1) = sizesTo H cn C k ++ [(L.length : Int)] := by
  rw [sizesTo, getD_nil hk, if_neg h, pieceN_eq hL]
theorem sizes_length (H : Int → Int → Bool) (cn : Bool) (C : List (List Int)) : ∀ k, (sizesTo H cn C k).length ≤ k
  | 0 => Nat.le_refl _
  | k + 1 => by
    have := sizes_length H cn C k
    rw [sizesTo]
    split
    · omega
    · rw [List.length_append, List.length_singleton]; omega
theorem old_zero (H : Int → Int → Bool) (cn : Bool) (C : List (List Int)) (u v : Int) : ¬ Old H cn (C.take 0) u v := by
  rintro ⟨c, hc, _⟩
  simp at hc
theorem old_succ {H : Int → Int → Bool} {cn : Bool} {C : List (List Int)} {k : Nat} (hk : k < C.length) (u v : Int) : Old H cn (C.take (k + 1)) u v ↔ Old H cn (C.take k) u v ∨ Reach H cn ((C[k]).getD 0 0) ((C[k]).getD 1 0) u v := by
  rw [List.take_succ_eq_append_getElem hk]
  constructor
  · rintro ⟨c, hc, h⟩
    rcases List.mem_append.1 hc with hc | hc
    · exact .inl ⟨c, hc, h⟩
    · rw [List.mem_singleton] at hc
      subst hc
      exact .inr h
  · rintro (⟨c, hc, h⟩ | h)
    · exact ⟨c, List.mem_append_left _ hc, h⟩
    · exact ⟨_, List.mem_append_right _ (List.mem_singleton.2 rfl), h⟩
theorem old_same {H : Int → Int → Bool} {cn : Bool} {C : List (List Int)} {k : Nat} (hk : k < C.length) (h : Old H cn (C.take k) ((C[k]).getD 0 0) ((C[k]).getD 1 0)) (u v : Int) : Old H cn (C.take (k + 1)) u v ↔ Old H cn (C.take k) u v := by
  rw [old_succ hk]
  refine ⟨fun h2 => ?_, .inl⟩
  rcases h2 with h2 | h2
  · exact h2
  · obtain ⟨c, hc, h1⟩ := h
    exact ⟨c, hc, h1.trans h2⟩
/-- what has not been taken: whole pieces -/
theorem reach_rest {H R : Int → Int → Bool} {cn : Bool} {C : List (List Int)} (hR : ∀ u v, R u v = true ↔ (H u v = true ∧ ¬ Old H cn C u v)) {x y : Int} (hxy : R x y = true) (u v : Int) : Reach R cn x y u v ↔ Reach H cn x y u v := by
  constructor
  · intro h
    induction h with
    | start h => exact .start ((hR _ _).1 h).1
    | step du dv _ ha hh ih => exact .step du dv ih ha ((hR _ _).1 hh).1
  · intro h
    have hno := ((hR _ _).1 hxy).2
    induction h with
    | start h => exact .start hxy
    | step du dv h1 ha hh ih =>
      refine .step du dv ih ha ((hR _ _).2 ⟨hh, fun ⟨c, hc, ho⟩ => hno ⟨c, hc, ?_⟩⟩)
      exact ho.trans (Reach.step du dv h1 ha hh).symm
theorem rest_succ {H R R' : Int → Int → Bool} {cn : Bool} {C : List (List Int)} {k : Nat} (hk : k < C.length) (hR : ∀ u v, R u v = true ↔ (H u v = true ∧ ¬ Old H cn (C.take k) u v)) {L : List (List Int)} (hL : PieceL R cn ((C[k]).getD 0 0) ((C[k]).getD 1 0) L) (hh : R ((C[k]).getD 0 0) ((C[k]).getD 1 0) = true)
    (hR' : ∀ u v, R' u v = (R u v && !decide ([u, v] ∈ L))) : ∀ u v, R' u v = true ↔ (H u v = true ∧ ¬ Old H cn (C.take (k + 1)) u v) := fun u v => by
  rw [hR', Bool.and_eq_true, hR, old_succ hk]
  simp only [Bool.not_eq_true', decide_eq_false_iff_not, hL.iff, reach_rest hR hh]
  constructor
  · rintro ⟨⟨h1, h2⟩, h3⟩
    exact ⟨h1, fun h => h.elim h2 h3⟩
  · rintro ⟨h1, h2⟩
    exact ⟨⟨h1, fun h => h2 (.inl h)⟩, fun h => h2 (.inr h)⟩
end Go.Proofs.Ytmagaapdijapiaa
