/- Tu, Tv, Pw, Co, Yp, Tw, Ad, Pu, Cz, Es, Ei in one text. -/
import Derived.Test.YtmagaapdijapiaaRows
import Derived.Test.YtmagaapdijapiaaKc1
import Derived.Test.YtmagaapdijapiaaKc2
import Derived.Deep.RegionLaw
import Derived.StillTailTactics
namespace Go.Proofs.Ytmagaapdijapiaa
open Go.ChangeShapes Go.WideShapes Go.ChangeAt Go.RowKit
/-- whether a step leads to a cell beside -/
def adjB (cn : Bool) (dx dy : Int) : Bool := (decide (-1 ≤ dx) && decide (dx ≤ 1) && decide (-1 ≤ dy) && decide (dy ≤ 1)) && (if cn then decide (dx ≠ 0 ∨ dy ≠ 0) else decide (dx * dx + dy * dy = 1))
theorem adj_in {cn : Bool} {dx dy : Int} (h : adjB cn dx dy = true) : -1 ≤ dx ∧ dx ≤ 1 ∧ -1 ≤ dy ∧ dy ≤ 1 := by
  simp only [adjB, Bool.and_eq_true, decide_eq_true_iff] at h
  omega
theorem adj_neg {cn : Bool} {dx dy : Int} (h : adjB cn dx dy = true) : adjB cn (-dx) (-dy) = true := by
  have h1 := adj_in h
  simp only [adjB, Bool.and_eq_true, decide_eq_true_iff] at h ⊢
  refine ⟨by omega, ?_⟩
  have h2 := h.2
  cases cn
  · simp only [Bool.false_eq_true, if_false, decide_eq_true_iff] at h2 ⊢
    rw [Int.neg_mul_neg, Int.neg_mul_neg]
    exact h2
  · simp only [if_true, decide_eq_true_iff] at h2 ⊢
    omega
theorem adj_wide {dx dy : Int} (h : adjB false dx dy = true) : adjB true dx dy = true := by
  have h1 := adj_in h
  simp only [adjB, Bool.and_eq_true, decide_eq_true_iff, Bool.false_eq_true, if_false, if_true] at h ⊢
  refine ⟨by omega, ?_⟩
  have h2 := h.2
  by_cases e : dx = 0 ∧ dy = 0
  · rw [e.1, e.2] at h2
    omega
  · omega
/-- the cells that are reached from a cell -/
inductive Reach (H : Int → Int → Bool) (cn : Bool) (x y : Int) : Int → Int → Prop
  | start : H x y = true → Reach H cn x y x y
  | step {u v : Int} (du dv : Int) : Reach H cn x y u v → adjB cn du dv = true → H (u + du) (v + dv) = true → Reach H cn x y (u + du) (v + dv)
theorem Reach.has {H : Int → Int → Bool} {cn : Bool} {x y u v : Int} (h : Reach H cn x y u v) : H u v = true := by
  cases h <;> assumption
theorem Reach.has0 {H : Int → Int → Bool} {cn : Bool} {x y u v : Int} (h : Reach H cn x y u v) : H x y = true := by
  induction h with
  | start h => exact h
  | step _ _ _ _ _ ih => exact ih
theorem Reach.trans {H : Int → Int → Bool} {cn : Bool} {x y u v a b : Int} (h : Reach H cn x y u v) (h2 : Reach H cn u v a b) : Reach H cn x y a b := by
  induction h2 with
  | start _ => exact h
  | step du dv _ ha hh ih => exact .step du dv ih ha hh
theorem Reach.symm {H : Int → Int → Bool} {cn : Bool} {x y u v : Int} (h : Reach H cn x y u v) : Reach H cn u v x y := by
  induction h with
  | start h => exact .start h
  | step du dv h1 ha hh ih =>
    rename_i u v
    have hb : Reach H cn (u + du) (v + dv) (u + du + -du) (v + dv + -dv) := .step (-du) (-dv) (.start hh) (adj_neg ha) (by
      rw [Int.add_neg_cancel_right, Int.add_neg_cancel_right]
      exact h1.has)
    rw [Int.add_neg_cancel_right, Int.add_neg_cancel_right] at hb
    exact hb.trans ih
theorem Reach.congr {H K : Int → Int → Bool} (h : ∀ u v, H u v = K u v) {cn : Bool} {x y u v : Int} (hr : Reach H cn x y u v) : Reach K cn x y u v := by
  induction hr with
  | start h1 => exact .start (h _ _ ▸ h1)
  | step du dv _ ha hh ih => exact .step du dv ih ha (h _ _ ▸ hh)
/-- a list that has been gathered: up to number i the neighbours are on it, and of number i those that are done -/
structure Part (H : Int → Int → Bool) (cn : Bool) (x y : Int) (L : List (List Int)) (i : Nat) (done : Int → Int → Prop) : Prop where
  two : ∀ c ∈ L, c.length = 2
  nodup : L.Nodup
  sound : ∀ c ∈ L, Reach H cn x y (c.getD 0 0) (c.getD 1 0)
  first : H x y = true → [x, y] ∈ L
  closed : ∀ j (h : j < L.length), j < i → ∀ du dv, adjB cn du dv = true → H ((L[j]).getD 0 0 + du) ((L[j]).getD 1 0 + dv) = true → [(L[j]).getD 0 0 + du, (L[j]).getD 1 0 + dv] ∈ L
  now : ∀ (h : i < L.length) du dv, done du dv → adjB cn du dv = true → H ((L[i]).getD 0 0 + du) ((L[i]).getD 1 0 + dv) = true → [(L[i]).getD 0 0 + du, (L[i]).getD 1 0 + dv] ∈ L
section
variable {H : Int → Int → Bool} {cn : Bool} {x y : Int} {L : List (List Int)} {i : Nat} {done : Int → Int → Prop}
theorem Part.none (h : H x y = false) : Part H cn x y [] 0 (fun _ _ => False) := ⟨fun c hc => (by cases hc), List.nodup_nil, fun c hc => (by cases hc), fun h1 => (by rw [h] at h1; cases h1), fun j h => (by simp at h), fun h => (by simp at h)⟩
theorem Part.one (h : H x y = true) : Part H cn x y [[x, y]] 0 (fun _ _ => False) :=
  ⟨fun c hc => by rw [List.mem_singleton] at hc; subst hc; rfl, List.nodup_cons.2 ⟨by simp, List.nodup_nil⟩, fun c hc => by rw [List.mem_singleton] at hc; subst hc; exact .start h, fun _ => List.mem_singleton.2 rfl, fun j _ hj => by omega, fun _ _ _ h => h.elim⟩
theorem Part.weak {done' : Int → Int → Prop} (h : Part H cn x y L i done) (hd : ∀ a b, done' a b → adjB cn a b = true → done a b) : Part H cn x y L i done' :=
  ⟨h.two, h.nodup, h.sound, h.first, h.closed, fun hi a b h1 h2 => h.now hi a b (hd a b h1 h2) h2⟩
theorem Part.same (h : Part H cn x y L i done) {du dv : Int} (hs : ∀ (hi : i < L.length), adjB cn du dv = true → H ((L[i]).getD 0 0 + du) ((L[i]).getD 1 0 + dv) = true → [(L[i]).getD 0 0 + du, (L[i]).getD 1 0 + dv] ∈ L) : Part H cn x y L i (fun a b => done a b ∨ (a = du ∧ b = dv)) :=
  ⟨h.two, h.nodup, h.sound, h.first, h.closed, fun hi a b hd ha hh => by
    rcases hd with hd | ⟨rfl, rfl⟩
    · exact h.now hi a b hd ha hh
    · exact hs hi ha hh⟩
theorem Part.add (h : Part H cn x y L i done) (hi : i < L.length) {du dv : Int} (ha : adjB cn du dv = true) (hh : H ((L[i]).getD 0 0 + du) ((L[i]).getD 1 0 + dv) = true) (hn : [(L[i]).getD 0 0 + du, (L[i]).getD 1 0 + dv] ∉ L) :
    Part H cn x y (L ++ [[(L[i]).getD 0 0 + du, (L[i]).getD 1 0 + dv]]) i (fun a b => done a b ∨ (a = du ∧ b = dv)) := by
  have hr : Reach H cn x y ((L[i]).getD 0 0 + du) ((L[i]).getD 1 0 + dv) := .step du dv (h.sound _ (List.getElem_mem hi)) ha hh
  have hg : (L ++ [[(L[i]).getD 0 0 + du, (L[i]).getD 1 0 + dv]])[i]'(by rw [List.length_append]; omega) = L[i] := List.getElem_append_left hi
  generalize hc : [(L[i]).getD 0 0 + du, (L[i]).getD 1 0 + dv] = c at *
  have c2 : c.length = 2 := by rw [← hc]; rfl
  have c0 : c.getD 0 0 = (L[i]).getD 0 0 + du := by rw [← hc]; rfl
  have c1 : c.getD 1 0 = (L[i]).getD 1 0 + dv := by rw [← hc]; rfl
  refine ⟨fun d hd => ?_, ?_, fun d hd => ?_, fun h1 => List.mem_append_left _ (h.first h1), fun j hj hji a b h1 h2 => ?_, fun hi' a b hd h1 h2 => ?_⟩
  · rcases List.mem_append.1 hd with hd | hd
    · exact h.two d hd
    · rw [List.mem_singleton] at hd; rw [hd]; exact c2
  · rw [List.nodup_append]
    refine ⟨h.nodup, List.nodup_cons.2 ⟨by simp, List.nodup_nil⟩, fun a ha b hb => ?_⟩
    rw [List.mem_singleton] at hb
    subst hb
    exact fun e => hn (e ▸ ha)
  · rcases List.mem_append.1 hd with hd | hd
    · exact h.sound d hd
    · rw [List.mem_singleton] at hd; rw [hd, c0, c1]; exact hr
  · have hjl : j < L.length := by omega
    have e : (L ++ [c])[j] = L[j] := List.getElem_append_left hjl
    rw [e] at h2 ⊢
    exact List.mem_append_left _ (h.closed j hjl hji a b h1 h2)
  · rw [hg] at h2 ⊢
    rcases hd with hd | ⟨rfl, rfl⟩
    · exact List.mem_append_left _ (h.now hi a b hd h1 h2)
    · rw [hc]; exact List.mem_append_right _ (List.mem_singleton.2 rfl)
theorem Part.next (h : Part H cn x y L i done) (hd : ∀ a b, adjB cn a b = true → done a b) : Part H cn x y L (i + 1) (fun _ _ => False) :=
  ⟨h.two, h.nodup, h.sound, h.first, fun j hj hji a b h1 h2 => by
    by_cases e : j = i
    · subst e
      exact h.now hj a b (hd a b h1) h1 h2
    · exact h.closed j hj (by omega) a b h1 h2, fun _ _ _ h => h.elim⟩
/-- the cells of a piece, each once -/
structure PieceL (H : Int → Int → Bool) (cn : Bool) (x y : Int) (L : List (List Int)) : Prop where
  two : ∀ c ∈ L, c.length = 2
  nodup : L.Nodup
  iff : ∀ u v, [u, v] ∈ L ↔ Reach H cn x y u v
theorem Part.piece (h : Part H cn x y L i done) (hi : L.length ≤ i) : PieceL H cn x y L :=
  ⟨h.two, h.nodup, fun u v => ⟨fun hm => h.sound _ hm, fun hr => by
    induction hr with
    | start h1 => exact h.first h1
    | step du dv _ ha hh ih =>
      obtain ⟨j, hj, he⟩ := List.getElem_of_mem ih
      have := h.closed j hj (by omega) du dv ha (by rw [he]; exact hh)
      rw [he] at this
      exact this⟩⟩
theorem Part.length (h : Part H cn x y L i done) {C : List (List Int)} (hC : ∀ u v, H u v = true → [u, v] ∈ C) : L.length ≤ C.length :=
  List.Nodup.length_le_of_subset h.nodup fun c hc => by
    rw [two_of (h.two c hc)]
    exact hC _ _ (h.sound c hc).has
end
theorem PieceL.mem {H : Int → Int → Bool} {cn : Bool} {x y : Int} {L : List (List Int)} (h : PieceL H cn x y L) (c : List Int) : c ∈ L ↔ c.length = 2 ∧ Reach H cn x y (c.getD 0 0) (c.getD 1 0) :=
  ⟨fun hc => ⟨h.two c hc, (h.iff _ _).1 (by rw [← two_of (h.two c hc)]; exact hc)⟩, fun ⟨h2, hr⟩ => by rw [two_of h2]; exact (h.iff _ _).2 hr⟩
theorem PieceL.perm {H : Int → Int → Bool} {cn : Bool} {x y : Int} {L M : List (List Int)} (h : PieceL H cn x y L) (h2 : PieceL H cn x y M) : L.Perm M :=
  (List.perm_ext_iff_of_nodup h.nodup h2.nodup).2 fun c => by rw [h.mem, h2.mem]
theorem PieceL.congr {H K : Int → Int → Bool} {cn : Bool} {x y : Int} {L : List (List Int)} (h : PieceL H cn x y L) (he : ∀ u v, Reach H cn x y u v ↔ Reach K cn x y u v) : PieceL K cn x y L :=
  ⟨h.two, h.nodup, fun u v => (h.iff u v).trans (he u v)⟩
/-! ### all pieces -/
/-- how many cells a piece has -/
noncomputable def pieceN (H : Int → Int → Bool) (cn : Bool) (x y : Int) : Nat := by
  classical exact if h : ∃ L, PieceL H cn x y L then h.choose.length else 0
theorem pieceN_eq {H : Int → Int → Bool} {cn : Bool} {x y : Int} {L : List (List Int)} (h : PieceL H cn x y L) : pieceN H cn x y = L.length := by
  have hx : ∃ L, PieceL H cn x y L := ⟨L, h⟩
  rw [pieceN, dif_pos hx]
  exact (hx.choose_spec.perm h).length_eq
/-- whether one of the first cells reaches a cell -/
def Old (H : Int → Int → Bool) (cn : Bool) (C : List (List Int)) (u v : Int) : Prop := ∃ c ∈ C, Reach H cn (c.getD 0 0) (c.getD 1 0) u v
noncomputable def sizesTo (H : Int → Int → Bool) (cn : Bool) (C : List (List Int)) : Nat → List Int
  | 0 => []
  | k + 1 => by
    classical exact if Old H cn (C.take k) ((C.getD k []).getD 0 0) ((C.getD k []).getD 1 0) then sizesTo H cn C k else sizesTo H cn C k ++ [(pieceN H cn ((C.getD k []).getD 0 0) ((C.getD k []).getD 1 0) : Int)]
theorem getD_nil {α : Type} {C : List (List α)} {k : Nat} (hk : k < C.length) : C.getD k [] = C[k] := by rw [List.getD_eq_getElem?_getD, List.getElem?_eq_getElem hk]; rfl
theorem sizes_old {H : Int → Int → Bool} {cn : Bool} {C : List (List Int)} {k : Nat} (hk : k < C.length) (h : Old H cn (C.take k) ((C[k]).getD 0 0) ((C[k]).getD 1 0)) : sizesTo H cn C (k + 1) = sizesTo H cn C k := by
  rw [sizesTo, getD_nil hk, if_pos h]
theorem sizes_new {H : Int → Int → Bool} {cn : Bool} {C : List (List Int)} {k : Nat} (hk : k < C.length) (h : ¬ Old H cn (C.take k) ((C[k]).getD 0 0) ((C[k]).getD 1 0)) {L : List (List Int)} (hL : PieceL H cn ((C[k]).getD 0 0) ((C[k]).getD 1 0) L) : sizesTo H cn C (k + 1) = sizesTo H cn C k ++ [(L.length : Int)] := by
  rw [sizesTo, getD_nil hk, if_neg h, pieceN_eq hL]
theorem sizes_length (H : Int → Int → Bool) (cn : Bool) (C : List (List Int)) : ∀ k, (sizesTo H cn C k).length ≤ k
  | 0 => Nat.le_refl _
  | k + 1 => by
    have := sizes_length H cn C k
    rw [sizesTo]
    split
    · omega
    · rw [List.length_append, List.length_singleton]; omega
theorem old_zero (H : Int → Int → Bool) (cn : Bool) (C : List (List Int)) (u v : Int) : ¬ Old H cn (C.take 0) u v := by
  rintro ⟨c, hc, _⟩
  simp at hc
theorem old_succ {H : Int → Int → Bool} {cn : Bool} {C : List (List Int)} {k : Nat} (hk : k < C.length) (u v : Int) : Old H cn (C.take (k + 1)) u v ↔ Old H cn (C.take k) u v ∨ Reach H cn ((C[k]).getD 0 0) ((C[k]).getD 1 0) u v := by
  rw [List.take_succ_eq_append_getElem hk]
  constructor
  · rintro ⟨c, hc, h⟩
    rcases List.mem_append.1 hc with hc | hc
    · exact .inl ⟨c, hc, h⟩
    · rw [List.mem_singleton] at hc
      subst hc
      exact .inr h
  · rintro (⟨c, hc, h⟩ | h)
    · exact ⟨c, List.mem_append_left _ hc, h⟩
    · exact ⟨_, List.mem_append_right _ (List.mem_singleton.2 rfl), h⟩
theorem old_same {H : Int → Int → Bool} {cn : Bool} {C : List (List Int)} {k : Nat} (hk : k < C.length) (h : Old H cn (C.take k) ((C[k]).getD 0 0) ((C[k]).getD 1 0)) (u v : Int) : Old H cn (C.take (k + 1)) u v ↔ Old H cn (C.take k) u v := by
  rw [old_succ hk]
  refine ⟨fun h2 => ?_, .inl⟩
  rcases h2 with h2 | h2
  · exact h2
  · obtain ⟨c, hc, h1⟩ := h
    exact ⟨c, hc, h1.trans h2⟩
/-- what has not been taken: whole pieces -/
theorem reach_rest {H R : Int → Int → Bool} {cn : Bool} {C : List (List Int)} (hR : ∀ u v, R u v = true ↔ (H u v = true ∧ ¬ Old H cn C u v)) {x y : Int} (hxy : R x y = true) (u v : Int) : Reach R cn x y u v ↔ Reach H cn x y u v := by
  constructor
  · intro h
    induction h with
    | start h => exact .start ((hR _ _).1 h).1
    | step du dv _ ha hh ih => exact .step du dv ih ha ((hR _ _).1 hh).1
  · intro h
    have hno := ((hR _ _).1 hxy).2
    induction h with
    | start h => exact .start hxy
    | step du dv h1 ha hh ih =>
      refine .step du dv ih ha ((hR _ _).2 ⟨hh, fun ⟨c, hc, ho⟩ => hno ⟨c, hc, ?_⟩⟩)
      exact ho.trans (Reach.step du dv h1 ha hh).symm
theorem rest_succ {H R R' : Int → Int → Bool} {cn : Bool} {C : List (List Int)} {k : Nat} (hk : k < C.length) (hR : ∀ u v, R u v = true ↔ (H u v = true ∧ ¬ Old H cn (C.take k) u v)) {L : List (List Int)} (hL : PieceL R cn ((C[k]).getD 0 0) ((C[k]).getD 1 0) L) (hh : R ((C[k]).getD 0 0) ((C[k]).getD 1 0) = true)
    (hR' : ∀ u v, R' u v = (R u v && !decide ([u, v] ∈ L))) : ∀ u v, R' u v = true ↔ (H u v = true ∧ ¬ Old H cn (C.take (k + 1)) u v) := fun u v => by
  rw [hR', Bool.and_eq_true, hR, old_succ hk]
  simp only [Bool.not_eq_true', decide_eq_false_iff_not, hL.iff, reach_rest hR hh]
  constructor
  · rintro ⟨⟨h1, h2⟩, h3⟩
    exact ⟨h1, fun h => h.elim h2 h3⟩
  · rintro ⟨h1, h2⟩
    exact ⟨⟨h1, fun h => h2 (.inl h)⟩, fun h => h2 (.inr h)⟩
end Go.Proofs.Ytmagaapdijapiaa
namespace Go.Proofs.Ytmagaapdijapiaa
open Go.ChangeShapes Go.WideShapes Go.ChangeAt Go.RowKit
open Classical in
/-- the picture that has just some cells -/
noncomputable def picHas (E : Int → Int → Bool) : List Bl := if h : ∃ P, Pic P ∧ ∀ U V, hasB P U V = E U V then h.choose else []
theorem picHas_eq {E : Int → Int → Bool} {P : List Bl} (hP : Pic P) (h : ∀ U V, hasB P U V = E U V) : picHas E = P := by
  have hx : ∃ P, Pic P ∧ ∀ U V, hasB P U V = E U V := ⟨P, hP, h⟩
  rw [picHas, dif_pos hx]
  have hc := hx.choose_spec
  exact pic_has hc.1 hP fun U V => (hc.2 U V).trans (h U V).symm
theorem picHas_bls (E : Int → Int → Bool) : Bls (picHas E) := by
  rw [picHas]
  split
  · rename_i h
    exact h.choose_spec.1.bls
  · exact fun b hb => by cases hb
/-- of a table that has the cells of a picture the same comes -/
theorem picOf_has {E : Int → Int → Bool} {P lo : List Bl} (hP : Pic P) (h : ∀ U V, hasB P U V = E U V) (ht : Bls lo) (h16 : ∀ b ∈ lo, is16 b.2) (h2 : ∀ U V, hasB lo U V = E U V) : picOf (maskAt lo) = P :=
  picOf_eq hP (masks_of_has hP.bls ht hP.m16 h16 fun U V => (h U V).trans (h2 U V).symm)
theorem some_bit {M : List Int} (hM : M.length = 16) (h16 : is16 M) (hne : M ≠ zr16) : ∃ x y, x < 16 ∧ y < 16 ∧ bitB M x y = true := by
  by_cases h : ∃ x y, x < 16 ∧ y < 16 ∧ bitB M x y = true
  · exact h
  · refine absurd (mask_ext hM rfl h16 zr16_16 fun x y hx hy => ?_) hne
    rw [zr16_bit]
    cases hb : bitB M x y
    · rfl
    · exact absurd ⟨x, y, hx, hy, hb⟩ h
theorem keys_nodup {l : List Bl} (h : Apart l) : (l.map (·.1)).Nodup := by
  rw [List.Nodup, List.pairwise_map]
  exact h
/-- a picture within another has no more blocks -/
theorem pic_sub_length {P l : List Bl} (hP : Pic P) (_hl : Pic l) (h : ∀ U V, hasB P U V = true → hasB l U V = true) : P.length ≤ l.length := by
  have hsub : P.map (·.1) ⊆ l.map (·.1) := fun k hk => by
    obtain ⟨b, hb, rfl⟩ := List.mem_map.1 hk
    obtain ⟨x, y, hx, hy, hbit⟩ := some_bit (hP.bls b hb).2 (hP.m16 b hb) (hP.noVoid b hb)
    have h1 := has_of_mem hP.apart hb (hP.bls b hb).1 hx hy
    rw [hbit] at h1
    obtain ⟨b', hb', hk', _⟩ := has_mem (h _ _ h1)
    refine List.mem_map.2 ⟨b', hb', ?_⟩
    rw [hk', two_of (hP.bls b hb).1]
    simp only [List.getD_cons_zero, List.getD_cons_succ]
    congr 1
    · omega
    · congr 1
      omega
  have := List.Nodup.length_le_of_subset (keys_nodup hP.apart) hsub
  simpa using this
/-! ### edges -/
def insideB (H : Int → Int → Bool) (x y : Int) : Bool := H (x + 1) y && (H (x + -1) y && (H x (y + 1) && H x (y + -1)))
def edgeB (H : Int → Int → Bool) (x y : Int) : Bool := H x y && !insideB H x y
/-- what is told of the edge -/
noncomputable def edgL (l : List Bl) : List Bl := if vpB l then picHas (edgeB (hasB l)) else []
def edgK (l : List Bl) : Int := if vpB l then 0 else 1
theorem edgL_bls (l : List Bl) : Bls (edgL l) := by
  rw [edgL]
  split
  · exact picHas_bls _
  · exact fun b hb => by cases hb
/-- as the reference gathers it -/
def EdgeS (l : List Bl) (k : Nat) (L : List Bl) : Prop := Pic L ∧ L.length ≤ k ∧ ∀ U V, hasB L U V = (decide ([U, V] ∈ (specC l).take k) && !insideB (hasB l) U V)
theorem edgeS_zero (l : List Bl) : EdgeS l 0 [] := ⟨Pic.nil, Nat.le_refl _, fun U V => by rw [has_nil, List.take_zero]; simp⟩
theorem take_mem_succ {cs : List (List Int)} {k : Nat} (hk : k < cs.length) (c : List Int) : c ∈ cs.take (k + 1) ↔ c ∈ cs.take k ∨ c = cs[k] := by
  rw [List.take_succ_eq_append_getElem hk, List.mem_append, List.mem_singleton]
theorem edgeS_no {l : List Bl} {k : Nat} {L : List Bl} (hk : k < (specC l).length) (h : EdgeS l k L) {x y : Int} (hc : (specC l)[k] = [x, y]) (hi : insideB (hasB l) x y = true) : EdgeS l (k + 1) L :=
  ⟨h.1, by have := h.2.1; omega, fun U V => by
    rw [h.2.2]
    by_cases e : [U, V] = [x, y]
    · have e0 : U = x := by injection e
      have e1 : V = y := by injection e with _ e; injection e
      subst e0 e1
      rw [hi]
      simp
    · congr 1
      refine decide_eq_decide.2 ?_
      rw [take_mem_succ hk, hc]
      exact ⟨.inl, fun h => h.elim id (fun h => absurd h e)⟩⟩
theorem edgeS_yes {l : List Bl} {k : Nat} {L L' : List Bl} (hk : k < (specC l).length) (h : EdgeS l k L) {x y : Int} (hc : (specC l)[k] = [x, y]) (hi : insideB (hasB l) x y = false) (h2 : Pic L' ∧ L'.length ≤ L.length + 1 ∧ ∀ U V, hasB L' U V = (hasB L U V || (decide (U = x) && decide (V = y)))) : EdgeS l (k + 1) L' :=
  ⟨h2.1, by have := h2.2.1; have := h.2.1; omega, fun U V => by
    rw [h2.2.2, h.2.2]
    by_cases e : [U, V] = [x, y]
    · have e0 : U = x := by injection e
      have e1 : V = y := by injection e with _ e; injection e
      subst e0 e1
      rw [hi]
      have : [U, V] ∈ (specC l).take (k + 1) := (take_mem_succ hk _).2 (.inr hc.symm)
      simp [this]
    · have h1 : (decide (U = x) && decide (V = y)) = false := by
        rw [Bool.and_eq_false_iff, decide_eq_false_iff_not, decide_eq_false_iff_not]
        by_cases e1 : U = x
        · exact .inr fun e2 => e (by rw [e1, e2])
        · exact .inl e1
      rw [h1, Bool.or_false]
      congr 1
      refine decide_eq_decide.2 ?_
      rw [take_mem_succ hk, hc]
      exact ⟨.inl, fun h => h.elim id (fun h => absurd h e)⟩⟩
theorem edgeS_all {l L : List Bl} (hl : Pic l) (h : EdgeS l (specC l).length L) : picHas (edgeB (hasB l)) = L :=
  picHas_eq h.1 fun U V => by
    rw [h.2.2, List.take_length, edgeB]
    congr 1
    rw [Bool.eq_iff_iff, decide_eq_true_iff, spec_mem hl.apart hl.bls]
    exact ⟨fun h => h.2, fun h => ⟨rfl, h⟩⟩
end Go.Proofs.Ytmagaapdijapiaa
namespace Go.Proofs.Ytmagaapdijapiaa
open Go.ChangeShapes Go.WideShapes Go.ChangeAt Go.RowKit
theorem size_setBlock (w : World) (r : Nat) (o : Obj) : (ChangeMaps.setBlock w r o).heap.size = w.heap.size := by simp [ChangeMaps.setBlock]
theorem setBlock_grown (w : World) (r : Nat) (o : Obj) : w.grownBy (ChangeMaps.setBlock w r o) (some r) :=
  ⟨rfl, rfl, rfl, by simp [ChangeMaps.setBlock], fun i _ hne => setBlock_far w r i o (fun e => hne (by rw [e]))⟩
theorem next_step (l : List Bl) (W : World) (ty : TypeId) (r g : Nat) (seen : List Nat) (hm : W.heap[g]? = some (.map (ents l 0).toArray l.length)) (hi : ItAt W r g l.length seen) :
    (seen.Perm (List.range l.length) ∧ (Instr.next (.pointer (some ⟨r, 0, none⟩)) false ty).run Try.prog W = .ok (.tuple #[.bool false]) W) ∨
    ∃ i, ∃ h : i < l.length, i ∉ seen ∧ ∃ W2, (Instr.next (.pointer (some ⟨r, 0, none⟩)) false ty).run Try.prog W = .ok (.tuple #[.bool true, .agg (ivs .i32 l[i].1), .agg (ivs .u16 l[i].2)]) W2 ∧ (Instr.entry (.pointer (some ⟨r, 0, none⟩))).run Try.prog W2 = .ok (.tuple #[.agg (ivs .i32 l[i].1), .agg (ivs .u16 l[i].2)]) W2 ∧ ItAt W2 r g l.length (seen ++ [i]) ∧ W2.heap.size = W.heap.size ∧ W.grownBy W2 (some r) := by
  have hr := hi.lt
  have hne : g ≠ r := fun e => by
    subst e
    obtain ⟨c0, _, h2, _⟩ := hi
    rw [hm] at h2
    cases h2
  rcases next_blocks l W ty r g seen hm hi with h | ⟨i, hil, hs, w1, hw, hn⟩
  · exact .inl h
  · refine .inr ⟨i, hil, hs, _, hn, ?_, ?_, ?_, ?_⟩
    · refine entry_blocks l _ r g seen hil ?_ (setBlock_at _ _ _ ?_)
      · rw [setBlock_far _ _ _ _ hne]
        rcases hw with rfl | rfl <;> exact hm
      · rcases hw with rfl | rfl <;> exact hr
    · refine hi.step hil hs (setBlock_at _ _ _ ?_)
      rcases hw with rfl | rfl <;> exact hr
    · rcases hw with rfl | rfl
      · exact size_setBlock _ _ _
      · exact size_setBlock W.drew _ _
    · rcases hw with rfl | rfl
      · exact setBlock_grown _ _ _
      · exact ⟨rfl, rfl, rfl, Nat.le_of_eq (size_setBlock W.drew _ _).symm, fun i _ hne => setBlock_far W.drew r i _ (fun e => hne (by rw [e]))⟩
theorem own_iter {W W' : World} {base : Nat} {e : TypeId} {s k : Nat} {v : Value} {xs : List Value} {r g n : Nat} {seen : List Nat} (h : W.ownsRow base e s v k xs) (hi : ItAt W r g n seen) (hg : W.grownBy W' (some r)) : W'.ownsRow base e s v k xs := by
  refine h.kept hg ?_
  rcases h.2 with ⟨rfl, _⟩ | ⟨g2, cap2, cur2, rfl, _, hb2, _⟩
  · exact .inl rfl
  · refine .inr fun e' => ?_
    have : g2 = r := by simpa [Value.ownBlock] using e'
    subst this
    obtain ⟨c0, _, h2, _⟩ := hi
    rw [hb2] at h2
    cases h2
theorem it_own {W W' : World} {base : Nat} {e : TypeId} {s k : Nat} {v : Value} {xs : List Value} {r g n : Nat} {seen : List Nat} (h : W.ownsRow base e s v k xs) (hi : ItAt W r g n seen) (hg : W.grownBy W' v.ownBlock) : ItAt W' r g n seen := by
  refine hi.keep (hg.block r hi.lt ?_)
  intro e'
  rcases h.2 with ⟨rfl, _⟩ | ⟨g2, cap2, cur2, rfl, _, hb2, _⟩
  · simp [Value.ownBlock] at e'
  · have : r = g2 := by simpa [Value.ownBlock] using e'
    subst this
    obtain ⟨c0, _, h2, _⟩ := hi
    rw [hb2] at h2
    cases h2
theorem solid_snoc (l : List Bl) (b : Bl) : solid (l ++ [b]) = if emptyM b.2 then solid l else solid l ++ [b] := by
  rw [solid, List.filter_append, ← solid]
  by_cases h : b.2 = zr16
  · rw [emptyM_iff.2 h, if_pos rfl]
    simp [h]
  · have : emptyM b.2 = false := by
      rw [← Bool.not_eq_true, emptyM_iff]
      exact h
    rw [this]
    simp [h]
theorem solid_length (l : List Bl) : (solid l).length ≤ l.length := List.length_filter_le _ _
theorem sorted_exists (D : List Bl) : ∃ m : List Bl, m.Perm D ∧ m.Pairwise fun x y => ¬ ltC y x := by
  classical
  refine ⟨D.mergeSort fun a b => decide (¬ ltC b a), List.mergeSort_perm _ _, ?_⟩
  have h := List.pairwise_mergeSort (le := fun a b : Bl => decide (¬ ltC b a)) (fun a b c h1 h2 => by
    rw [decide_eq_true_iff] at *
    unfold ltC at *
    omega) (fun a b => by
    rw [Bool.or_eq_true, decide_eq_true_iff, decide_eq_true_iff]
    unfold ltC
    omega) D
  exact h.imp fun {a b} hab => by rwa [decide_eq_true_iff] at hab
set_option maxRecDepth 20000 in
set_option maxHeartbeats 6400000 in
theorem pictureOf_any (g : Nat) (l : List Bl) (hl : Tab l) (hn : l.length ≤ 1000000) (w : World) (hm : w.heap[g]? = some (.map (ents l 0).toArray l.length)) (hg : g < w.heap.size) :
    Calls Try.prog 80 #[.map (some g)] w (GivesToldB (picR (picOf (maskAt l))) (picK (picOf (maskAt l))) w) := by
  obtain ⟨i0, hi, hz0, hz1, hz2⟩ := info_parts Block_info
  obtain ⟨iu, hiu, hu0, hu1, hu2⟩ := info_parts U16_info
  have b0 : Below w.heap.size w (w.alloc (.cells #[] 78)) := (Below.refl _ _).alloc (Nat.le_refl _) _
  have hrange : (Instr.range 124 (.map (some g))).run Try.prog (w.alloc (.cells #[] 78)) = .ok (.pointer (some ⟨w.heap.size + 1, 0, none⟩)) ((w.alloc (.cells #[] 78)).alloc (.mapIter (some g) l.length #[] l.length)) := by
    have := run_range_map (P := Try.prog) (w.alloc (.cells #[] 78)) 124 _ _ g (ents l 0).toArray l.length Try.underlying124 ((b0.block g hg).trans hm)
    rwa [size_alloc] at this
  have hit : ItAt ((w.alloc (.cells #[] 78)).alloc (.mapIter (some g) l.length #[] l.length)) (w.heap.size + 1) g l.length [] := ItAt.start (by
    have := heap_alloc_new (w.alloc (.cells #[] 78)) (.mapIter (some g) l.length #[] l.length)
    rwa [size_alloc] at this)
  have h0 : ((w.alloc (.cells #[] 78)).alloc (.mapIter (some g) l.length #[] l.length)).ownsRow w.heap.size 78 18 (.slice (some ⟨w.heap.size, 0, none⟩) 0 0) 0 (bcs []) := (World.ownsRow_lit (e := 78) (base := w.heap.size) (size := 18) w #[] 0 (Nat.le_refl _) (by unfold maxLen; omega) rfl).alloc _
  have B0 := Lib.hid (b0.alloc (by simp) (.mapIter (some g) l.length #[] l.length))
  have HIT := Lib.hid hit
  have H0 := Lib.hid h0
  have HM := Lib.hid hm
  have HL := Lib.hid hl
  clear b0 hit h0 hm hl
  go_enter Try.func80, Try.ntmps80
  go_wp2
  go_loopw [4] (fun v wr => ∃ seen : List Nat, Hid (ItAt wr (w.heap.size + 1) g l.length seen) ∧ (∃ gg cc, v = .slice (some ⟨gg, 0, none⟩) (solid (seenL l seen)).length cc) ∧ Hid (wr.ownsRow w.heap.size 78 18 v (solid (seenL l seen)).length (bcs (solid (seenL l seen)))) ∧ Hid (Below w.heap.size w wr)) (fun _ wr => l.length - (wr.iterSeen (w.heap.size + 1)).size)
  case atStart => exact ⟨[], HIT, ⟨_, _, rfl⟩, H0, B0⟩
  case round =>
    clear HIT H0 B0 hrange
    obtain ⟨seen, HIT, ⟨gg, cc, rfl⟩, HO, HB⟩ := hrel
    have HM2 : Hid (wr.heap[g]? = some (.map (ents l 0).toArray l.length)) := Lib.hid ((HB.out.block g hg).trans HM.out)
    rcases next_step l wr 0 (w.heap.size + 1) g seen HM2.out HIT.out with ⟨hperm, hnext⟩ | ⟨i, hil, hns, w2, hnext, hentry, hit2, hsz2, hgr2⟩
    · have hD : (solid (seenL l seen)).Perm (solid l) := (seenL_all hperm).filter _
      have hDb : Bls (solid (seenL l seen)) := fun b hb => solid_bls HL.out.bls b (hD.mem_iff.1 hb)
      have hDl : (solid (seenL l seen)).length ≤ l.length := by rw [hD.length_eq]; exact solid_length l
      have hps : ∀ m : List Bl, m.Perm (solid (seenL l seen)) → (m.Pairwise fun x y => ¬ ltC y x) → picOf (maskAt l) = m := fun m hm hs => by
        obtain ⟨h1, h2⟩ := pic_sorted HL.out (hm.trans hD) hs
        exact picOf_eq h1 h2
      obtain ⟨m0, hm0, hs0⟩ := sorted_exists (solid (seenL l seen))
      have hlen : (picOf (maskAt l)).length = (solid (seenL l seen)).length := by rw [hps m0 hm0 hs0, hm0.length_eq]
      obtain ⟨A1, c1, hve, hOO⟩ := Own.of_row HO.out
      cases hve
      have hdn : (solid (seenL l seen)).length ≤ 1048576 := by omega
      have HS := Lib.hid (sortBlocks_any (solid (seenL l seen)) hDb rfl hdn hOO)
      have HPS := Lib.hid hps
      have HLEN := Lib.hid hlen
      clear hD hDb hps hlen hOO hm0 hs0 HO hperm
      generalize picOf (maskAt l) = P at *
      generalize solid (seenL l seen) = D at *
      by_cases h64 : D.length ≤ 64
      · have h64I : (D.length : Int) ≤ 64 := by omega
        have HPR : Hid (picR P = P ∧ picK P = 0) := Lib.hid (by rw [picR, picK, HLEN.out, if_pos h64, if_pos h64]; exact ⟨rfl, rfl⟩)
        go_wp2_with (go_at_call 123; refine HS.out.mono ?_; rintro e w2 ⟨rfl, s, hp, hs, ho2, hb2⟩; obtain rfl := HPS.out s hp hs; have HO2 := Lib.hid ho2; have HB2 := Lib.hid (HB.out.trans hb2); have HZ := Lib.hid hb2.size; clear ho2 hb2 hp hs)
        go_ret2
        rw [HPR.out.1, HPR.out.2]
        exact ⟨some ⟨gg, 0, none⟩, cc, by rw [HLEN.out]; rfl, by rw [HLEN.out]; exact HO2.out.more HZ.out, HB2.out⟩
      · have h64I : 64 < (D.length : Int) := by omega
        have HPR : Hid (picR P = [] ∧ picK P = 3) := Lib.hid (by rw [picR, picK, HLEN.out, if_neg h64, if_neg h64]; exact ⟨rfl, rfl⟩)
        go_wp2_with fail
        go_ret2
        rw [HPR.out.1, HPR.out.2]
        exact GivesToldB.nil HB.out
    · have hFl := HL.out.bls.at_ hil
      have hF16 := HL.out.m16 _ (List.getElem_mem hil)
      have hsn := solid_snoc (seenL l seen) l[i]
      rw [← seenL_snoc l seen hil] at hsn
      have hDl : (solid (seenL l seen)).length ≤ l.length := Nat.le_trans (solid_length _) (by rw [seenL, List.length_map]; exact HIT.out.bound)
      have hDb : Bls (solid (seenL l seen)) := solid_bls fun b hb => HL.out.bls b (seenL_mem (fun j hj => by obtain ⟨_, _, _, _, h⟩ := HIT.out; exact h j hj) hb)
      obtain ⟨⟨C, Mm⟩, hF⟩ : ∃ F, F = l[i] := ⟨_, rfl⟩
      rw [← hF] at hFl hF16 hsn hnext hentry
      obtain ⟨X, Y, rfl⟩ : ∃ X Y, C = [X, Y] := ⟨_, _, two_of hFl.1⟩
      have hM16 : Mm.length = 16 := hFl.2
      have hme : (w.heap.size + 1 : Nat) < w2.heap.size := by have := hit2.lt; exact this
      have hmeas : (w2.iterSeen (w.heap.size + 1)).size = seen.length + 1 ∧ (wr.iterSeen (w.heap.size + 1)).size = seen.length ∧ seen.length < l.length := by
        refine ⟨by rw [hit2.seen_eq, List.length_append]; rfl, HIT.out.seen_eq, ?_⟩
        have := hit2.bound
        rw [List.length_append] at this
        exact this
      have HO2 := Lib.hid (own_iter HO.out HIT.out hgr2)
      have HB2 : Hid (Below w.heap.size w w2) := Lib.hid (HB.out.grown hgr2 HB.out.size (fun j e => by cases e; omega))
      have HIT2 := Lib.hid hit2
      have HME := Lib.hid hmeas
      have HSN := Lib.hid hsn
      have HDB := Lib.hid hDb
      have hbld := fun W => run_buildBlock X Y Mm hM16 W
      have heq : ∀ W : World, (Op.equalIn 10000 76 (.agg (ivs .u16 Mm)) (.agg #[.int .u16 0, .int .u16 0, .int .u16 0, .int .u16 0, .int .u16 0, .int .u16 0, .int .u16 0, .int .u16 0, .int .u16 0, .int .u16 0, .int .u16 0, .int .u16 0, .int .u16 0, .int .u16 0, .int .u16 0, .int .u16 0])).run Try.prog W = .ok (emptyM Mm) W := fun W => run_eql_arr (a := Mm) (b := zr16) W Try.underlying76 Try.underlying74 hiu (by kernel_rfl) hM16 rfl
      clear hFl hsn hDb hit2 hgr2 hmeas HO HB HIT hns hF hF16 hsz2
      have HM3 := Lib.hid hM16
      have HBS : Hid ((bav ([X, Y], Mm)).size = 18) := Lib.hid (bav_size (b := ([X, Y], Mm)) ⟨rfl, hM16⟩)
      have HBB : Hid (([X, Y] : List Int).length = 2 ∧ Mm.length = 16) := Lib.hid ⟨rfl, hM16⟩
      generalize hD : solid (seenL l seen) = D at *
      generalize hD2 : solid (seenL l (seen ++ [i])) = D2 at *
      have HD2 := Lib.hid hD2
      clear hD hD2 hM16 hbld
      cases hem : emptyM Mm
      · have hsn2 := HSN.out
        have heq2 := heq
        simp only [hem] at hsn2 heq2
        have HSN2 := Lib.hid hsn2
        clear heq hsn2 hem HSN
        have hcl : (bcs [(([X, Y], Mm) : Bl)]).length = 1 * 18 := by rw [bcs_length (bls_one HBB.out)]; rfl
        go_wp2_with (first
          | (refine wpList_store_row rfl _ _ _ rfl w2.heap.size (ivs .i32 [X, Y]) rfl rfl 63 #[.int .i32 0, .int .i32 0] ((Blk.newAt rfl rfl).alloc _) (by exact size63) rfl ivs_one ?_; generalize hw5 : World.setRow _ _ _ = w5; have G5 : Hid (Blk w5 w2.heap.size 63 (ivs .i32 [X, Y])) := Lib.hid (by rw [← hw5]; exact ((Blk.newAt rfl rfl).alloc _).row _); have G5m : Hid (Blk w5 (w2.heap.size + 1) 76 (ivs .u16 zr16)) := Lib.hid (by rw [← hw5]; exact (Blk.newAt (by simp) rfl).rowFar (by omega) _); have B5 : Hid (Below w2.heap.size w2 w5) := Lib.hid (by rw [← hw5]; exact below_setRow (((Below.refl _ _).alloc (Nat.le_refl _) _).alloc (by simp) _) (Nat.le_refl _) _); clear hw5)
          | (refine wpList_store_row rfl _ _ _ rfl (w2.heap.size + 1) (ivs .u16 Mm) rfl rfl 76 (ivs .u16 zr16) G5m.out (by rw [ivs_size, HM3.out]; exact size76) (by rw [ivs_size, ivs_size, HM3.out]; rfl) ivs_one ?_; generalize hw6 : World.setRow _ _ _ = w6; have G6 : Hid (Blk w6 w2.heap.size 63 (ivs .i32 [X, Y])) := Lib.hid (by rw [← hw6]; exact G5.out.rowFar (by omega) _); have G6m : Hid (Blk w6 (w2.heap.size + 1) 76 (ivs .u16 Mm)) := Lib.hid (by rw [← hw6]; exact G5m.out.row _); have B6 : Hid (Below w2.heap.size w2 w6) := Lib.hid (by rw [← hw6]; exact below_setRow B5.out (by omega) _); clear hw6)
          | refine wpList_load_row rfl _ _ rfl w2.heap.size rfl 63 (ivs .i32 [X, Y]) (0, 0) _ G6.out Try.underlying63 rfl (by exact size63) ?_
          | refine wpList_load_row rfl _ _ rfl (w2.heap.size + 1) rfl 76 (ivs .u16 Mm) (0, 0) _ G6m.out Try.underlying76 rfl (by rw [ivs_size, HM3.out]; exact size76) ?_
          | refine wpList_build_block rfl _ _ rfl X Y Mm HM3.out rfl rfl ?_
          | (refine wpList_buildSlice_block rfl 27 78 _ rfl Try.underlying27 hi hz0 hz1 ([X, Y], Mm) HBB.out rfl ?_; have HNW := Lib.hid (block_news w6 ([X, Y], Mm)); have HOA := Lib.hid ((own_below HO2.out B6.out (Nat.le_refl _)).alloc (.cells (bav ([X, Y], Mm)) 78)); have BA := Lib.hid (B6.out.alloc B6.out.size (.cells (bav ([X, Y], Mm)) 78)))
          | (at_builtin; refine wpList_append_own _ rfl _ _ 27 rfl w.heap.size 78 i0 _ 18 40 Try.underlying27 hi hz0 hz1 hz2 rfl (by decide) (.slice (some ⟨gg, 0, none⟩) D.length cc) D.length _ rfl HOA.out ⟨w6.heap.size, 0, none⟩ 1 1 (bcs [([X, Y], Mm)]) rfl hcl HNW.out (bcs_one _) (by unfold maxLen; omega) (by omega) (by have := BA.out.size; have := HB2.out.size; omega) ?_; intro v8 w8 hown8 hgrow8 hnil8; rw [← bcs_append] at hown8; obtain ⟨g8, c8, rfl⟩ := own_some hown8 (by omega); have HO8 := Lib.hid hown8; have HG8 := Lib.hid hgrow8; clear hown8 hgrow8 hnil8))
        have hD2e : D2 = D ++ [([X, Y], Mm)] := by simpa using HSN2.out
        have hle : D2.length = D.length + 1 := by rw [hD2e, List.length_append]; rfl
        have hitA : ItAt (w6.alloc (.cells (bav ([X, Y], Mm)) 78)) (w.heap.size + 1) g l.length (seen ++ [i]) := HIT2.out.keep (BA.out.block _ hme)
        refine ⟨⟨seen ++ [i], Lib.hid (it_own HOA.out hitA HG8.out), ⟨g8, c8, by rw [HD2.out, hle]⟩, Lib.hid (by rw [HD2.out, hle, hD2e]; exact HO8.out), Lib.hid ((HB2.out.trans (BA.out.mono HB2.out.size)).grown HG8.out (by have := BA.out.size; have := HB2.out.size; omega) (fun j e => (HOA.out.lt _ e).1))⟩, ?_⟩
        have h1 := HME.out
        have h2 := (it_own HOA.out hitA HG8.out).seen_eq
        rw [List.length_append, List.length_singleton] at h2
        rw [h2]
        omega
      · have hsn2 := HSN.out
        have heq2 := heq
        simp only [hem] at hsn2 heq2
        have HSN2 := Lib.hid hsn2
        clear heq hsn2 hem HSN HBS HBB
        go_wp2_with (first
          | (refine wpList_store_row rfl _ _ _ rfl w2.heap.size (ivs .i32 [X, Y]) rfl rfl 63 #[.int .i32 0, .int .i32 0] ((Blk.newAt rfl rfl).alloc _) (by exact size63) rfl ivs_one ?_; generalize hw5 : World.setRow _ _ _ = w5; have G5 : Hid (Blk w5 w2.heap.size 63 (ivs .i32 [X, Y])) := Lib.hid (by rw [← hw5]; exact ((Blk.newAt rfl rfl).alloc _).row _); have G5m : Hid (Blk w5 (w2.heap.size + 1) 76 (ivs .u16 zr16)) := Lib.hid (by rw [← hw5]; exact (Blk.newAt (by simp) rfl).rowFar (by omega) _); have B5 : Hid (Below w2.heap.size w2 w5) := Lib.hid (by rw [← hw5]; exact below_setRow (((Below.refl _ _).alloc (Nat.le_refl _) _).alloc (by simp) _) (Nat.le_refl _) _); clear hw5)
          | (refine wpList_store_row rfl _ _ _ rfl (w2.heap.size + 1) (ivs .u16 Mm) rfl rfl 76 (ivs .u16 zr16) G5m.out (by rw [ivs_size, HM3.out]; exact size76) (by rw [ivs_size, ivs_size, HM3.out]; rfl) ivs_one ?_; generalize hw6 : World.setRow _ _ _ = w6; have G6 : Hid (Blk w6 w2.heap.size 63 (ivs .i32 [X, Y])) := Lib.hid (by rw [← hw6]; exact G5.out.rowFar (by omega) _); have G6m : Hid (Blk w6 (w2.heap.size + 1) 76 (ivs .u16 Mm)) := Lib.hid (by rw [← hw6]; exact G5m.out.row _); have B6 : Hid (Below w2.heap.size w2 w6) := Lib.hid (by rw [← hw6]; exact below_setRow B5.out (by omega) _); clear hw6)
          | refine wpList_load_row rfl _ _ rfl w2.heap.size rfl 63 (ivs .i32 [X, Y]) (0, 0) _ G6.out Try.underlying63 rfl (by exact size63) ?_
          | refine wpList_load_row rfl _ _ rfl (w2.heap.size + 1) rfl 76 (ivs .u16 Mm) (0, 0) _ G6m.out Try.underlying76 rfl (by rw [ivs_size, HM3.out]; exact size76) ?_)
        have hD2e : D2 = D := by simpa using HSN2.out
        have hitA : ItAt w6 (w.heap.size + 1) g l.length (seen ++ [i]) := HIT2.out.keep (B6.out.block _ hme)
        refine ⟨⟨seen ++ [i], Lib.hid hitA, ⟨gg, cc, by rw [HD2.out, hD2e]⟩, Lib.hid (by rw [HD2.out, hD2e]; exact own_below HO2.out B6.out (Nat.le_refl _)), Lib.hid (HB2.out.trans (B6.out.mono HB2.out.size))⟩, ?_⟩
        have h1 := HME.out
        have h2 := hitA.seen_eq
        rw [List.length_append, List.length_singleton] at h2
        rw [h2]
        omega
end Go.Proofs.Ytmagaapdijapiaa
namespace Go.Proofs.Ytmagaapdijapiaa
open Go.ChangeShapes Go.WideShapes Go.ChangeAt Go.RowKit
/-- masks made of those of two pictures -/
def mixF (f : Int → Int → Int) (a b : List Bl) (key : List Int) : List Int := opM f (maskAt a key) (maskAt b key)
noncomputable def cmbL (f : Int → Int → Int) (a b : List Bl) : List Bl := if vpB a && vpB b then picR (picOf (mixF f a b)) else []
noncomputable def cmbK (f : Int → Int → Int) (a b : List Bl) : Int := if vpB a && vpB b then picK (picOf (mixF f a b)) else 1
theorem cmbL_length (f : Int → Int → Int) (a b : List Bl) : (cmbL f a b).length ≤ 64 := by
  rw [cmbL]
  split
  · exact picR_length _
  · exact Nat.zero_le _
/-- the table, as far as it has been made -/
def mixT (f : Int → Int → Int) (a b : List Bl) (ks : List (List Int)) (key : List Int) : List Int := if key ∈ ks then mixF f a b key else zr16
theorem mixT_succ {f : Int → Int → Int} {a b lo : List Bl} {ks : List (List Int)} {k M : List Int} (h : ∀ key, maskAt lo key = mixT f a b ks key) (hM : M = mixF f a b k) (key : List Int) : maskAt (putB lo k M) key = mixT f a b (ks ++ [k]) key := by
  rw [putB_mask, mixT, h, mixT]
  by_cases e : key = k
  · rw [if_pos e, if_pos (by simp [e]), hM, e]
  · rw [if_neg e]
    by_cases e2 : key ∈ ks
    · rw [if_pos e2, if_pos (by simp [e2])]
    · rw [if_neg e2, if_neg (by simp [e, e2])]
theorem mixT_all {f : Int → Int → Int} (hf : Way f) {a b lo : List Bl} {ks : List (List Int)} (h : ∀ key, maskAt lo key = mixT f a b ks key) (ha : ∀ c ∈ a, c.1 ∈ ks) (hb : ∀ c ∈ b, c.1 ∈ ks) (key : List Int) : maskAt lo key = mixF f a b key := by
  rw [h, mixT]
  by_cases e : key ∈ ks
  · rw [if_pos e]
  · rw [if_neg e, mixF, maskAt_no (fun c hc (e2 : key = c.1) => e (by rw [e2]; exact ha c hc)), maskAt_no (fun c hc (e2 : key = c.1) => e (by rw [e2]; exact hb c hc)), opM_zero hf]
def keysL (l : List Bl) (seen : List Nat) : List (List Int) := (seenL l seen).map (·.1)
theorem keysL_snoc (l : List Bl) (seen : List Nat) {i : Nat} (hi : i < l.length) : keysL l (seen ++ [i]) = keysL l seen ++ [(l[i]).1] := by rw [keysL, seenL_snoc l seen hi, List.map_append]; rfl
theorem keysL_all {l : List Bl} {seen : List Nat} (h : seen.Perm (List.range l.length)) : ∀ c ∈ l, c.1 ∈ keysL l seen := fun c hc => List.mem_map.2 ⟨c, (seenL_all h).mem_iff.2 hc, rfl⟩
theorem heap_grown {w w' : World} {row : Option Nat} (h : w.grownBy w' row) {g : Nat} {o : Obj} (ho : w.heap[g]? = some o) (hne : some g ≠ row) : w'.heap[g]? = some o := by
  have hlt : g < w.heap.size := by
    rcases Nat.lt_or_ge g w.heap.size with h | h
    · exact h
    · rw [Array.getElem?_eq_none h] at ho; cases ho
  exact (h.block g hlt hne).trans ho
theorem heap_lt {w : World} {g : Nat} {o : Obj} (ho : w.heap[g]? = some o) : g < w.heap.size := by
  rcases Nat.lt_or_ge g w.heap.size with h | h
  · exact h
  · rw [Array.getElem?_eq_none h] at ho; cases ho
theorem heap_below {w w' : World} (h : Below w.heap.size w w') {g : Nat} {o : Obj} (ho : w.heap[g]? = some o) : w'.heap[g]? = some o := (h.block g (heap_lt ho)).trans ho
/-- what the loops hold: the three tables, the iterator -/
structure Three (w wr : World) (g1 g2 go r ri : Nat) (a b it : List Bl) (seen : List Nat) (f : Int → Int → Int) (ks : List (List Int)) : Prop where
  one : wr.heap[g1]? = some (.map (ents a 0).toArray a.length)
  two : wr.heap[g2]? = some (.map (ents b 0).toArray b.length)
  out : ∃ lo, Tab lo ∧ lo.length ≤ ks.length ∧ wr.heap[go]? = some (.map (ents lo 0).toArray lo.length) ∧ ∀ key, maskAt lo key = mixT f a b ks key
  iter : ItAt wr r ri it.length seen
  below : Below w.heap.size w wr
theorem Three.step {w wr w2 w7 : World} {g1 g2 go r ri : Nat} {a b it : List Bl} {seen : List Nat} {f : Int → Int → Int} {ks : List (List Int)} {lo : List Bl} {i : Nat} (h : Three w wr g1 g2 go r ri a b it seen f ks) (h1r : g1 ≠ r) (h2r : g2 ≠ r) (hor : go ≠ r) (h1o : g1 ≠ go) (h2o : g2 ≠ go) (hwr : w.heap.size ≤ r) (hwo : w.heap.size ≤ go)
    (ht : Tab lo) (hlen : lo.length ≤ ks.length) (hout : wr.heap[go]? = some (.map (ents lo 0).toArray lo.length)) (hm : ∀ key, maskAt lo key = mixT f a b ks key)
    (hg : wr.grownBy w2 (some r)) (hit : ItAt w2 r ri it.length (seen ++ [i])) (hb : Below w2.heap.size w2 w7) (_hri : ri ≠ go) {k M : List Int} (hk : k.length = 2) (hM : M.length = 16) (h16 : is16 M) (hMe : M = mixF f a b k) :
    Three w (ChangeMaps.setBlock w7 go (.map (ents (putB lo k M) 0).toArray (putB lo k M).length)) g1 g2 go r ri a b it (seen ++ [i]) f (ks ++ [k]) := by
  have far : ∀ {g : Nat} {o : Obj}, wr.heap[g]? = some o → g ≠ r → g ≠ go → (ChangeMaps.setBlock w7 go (.map (ents (putB lo k M) 0).toArray (putB lo k M).length)).heap[g]? = some o := fun {g o} ho h1 h2 => by
    rw [setBlock_far _ _ _ _ h2]
    exact heap_below hb (heap_grown hg ho (fun e => h1 (by injection e)))
  have hgo : go < w7.heap.size := by
    have h1 := heap_lt hout
    have h2 := hg.size
    have h3 := hb.size
    omega
  refine ⟨far h.one h1r h1o, far h.two h2r h2o, ⟨putB lo k M, ht.put hk hM h16, ?_, setBlock_at _ _ _ hgo, mixT_succ hm hMe⟩, ?_, ?_⟩
  · have := putB_length k M lo
    rw [List.length_append, List.length_singleton]
    omega
  · refine hit.keep ?_
    rw [setBlock_far _ _ _ _ hor.symm]
    exact hb.block r hit.lt
  · have hb2 : Below w.heap.size w w2 := h.below.grown hg h.below.size (fun j e => by cases e; exact hwr)
    exact below_setBlock (hb2.trans (hb.mono hb2.size)) hwo _
theorem range_at {w : World} {g : Nat} {l : List Bl} (h : w.heap[g]? = some (.map (ents l 0).toArray l.length)) : (Instr.range 124 (.map (some g))).run Try.prog w = .ok (.pointer (some ⟨w.heap.size, 0, none⟩)) (w.alloc (.mapIter (some g) l.length #[] l.length)) :=
  run_range_map (P := Try.prog) w 124 _ _ g (ents l 0).toArray l.length Try.underlying124 h
theorem Three.start {w W : World} {g1 g2 go : Nat} {a b it : List Bl} {gi : Nat} {f : Int → Int → Int} {ks : List (List Int)} (h1 : W.heap[g1]? = some (.map (ents a 0).toArray a.length)) (h2 : W.heap[g2]? = some (.map (ents b 0).toArray b.length)) (ho : ∃ lo, Tab lo ∧ lo.length ≤ ks.length ∧ W.heap[go]? = some (.map (ents lo 0).toArray lo.length) ∧ ∀ key, maskAt lo key = mixT f a b ks key) (hb : Below w.heap.size w W) :
    Three w (W.alloc (.mapIter (some gi) it.length #[] it.length)) g1 g2 go W.heap.size gi a b it [] f ks := by
  obtain ⟨lo, t, l1, ho, hm⟩ := ho
  have k : ∀ {g : Nat} {o : Obj}, W.heap[g]? = some o → (W.alloc (.mapIter (some gi) it.length #[] it.length)).heap[g]? = some o := fun {g o} h => (Below.heap_alloc W _ g (heap_lt h)).trans h
  exact ⟨k h1, k h2, ⟨lo, t, l1, k ho, hm⟩, ItAt.start (heap_alloc_new W _), hb.alloc hb.size _⟩
end Go.Proofs.Ytmagaapdijapiaa
namespace Go.Proofs.Ytmagaapdijapiaa
open Go.ChangeShapes Go.WideShapes Go.ChangeAt Go.RowKit
/-- a table of what two pictures become -/
theorem mix_tab (f : Int → Int → Int) (hf : Way f) {P Q : List Bl} (hP : Pic P) (hQ : Pic Q) : ∀ ks : List (List Int), (∀ k ∈ ks, k.length = 2) → ∃ lo, Tab lo ∧ lo.length ≤ ks.length ∧ ∀ key, maskAt lo key = mixT f P Q ks key := fun ks hks => by
  obtain ⟨r, hr⟩ : ∃ r, r = ks.reverse := ⟨_, rfl⟩
  have e : ks = r.reverse := by rw [hr, List.reverse_reverse]
  subst e
  clear hr
  induction r with
  | nil => exact ⟨[], Tab.nil, Nat.le_refl _, fun key => by rw [mixT, if_neg (by simp)]; rfl⟩
  | cons k r ih =>
    rw [List.reverse_cons] at hks ⊢
    obtain ⟨lo, t1, t2, t3⟩ := ih (fun k hk => hks k (List.mem_append_left _ hk))
    have h2 := hks k (List.mem_append_right _ (List.mem_singleton.2 rfl))
    obtain ⟨a1, a2⟩ := maskAt_ok hP.bls hP.m16 k
    obtain ⟨b1, b2⟩ := maskAt_ok hQ.bls hQ.m16 k
    refine ⟨putB lo k (mixF f P Q k), t1.put h2 (opM_length a1 b1) (opM_16 hf _ _), ?_, mixT_succ t3 rfl⟩
    have := putB_length k (mixF f P Q k) lo
    rw [List.length_append, List.length_singleton]
    omega
theorem mix_pic (f : Int → Int → Int) (hf : Way f) {P Q : List Bl} (hP : Pic P) (hQ : Pic Q) : ∃ J, Pic J ∧ J.length ≤ P.length + Q.length ∧ (∀ key, maskAt J key = mixF f P Q key) ∧ picOf (mixF f P Q) = J := by
  obtain ⟨lo, t1, t2, t3⟩ := mix_tab f hf hP hQ (P.map (·.1) ++ Q.map (·.1)) (fun k hk => by
    rcases List.mem_append.1 hk with hk | hk
    · obtain ⟨b, hb, rfl⟩ := List.mem_map.1 hk
      exact (hP.bls b hb).1
    · obtain ⟨b, hb, rfl⟩ := List.mem_map.1 hk
      exact (hQ.bls b hb).1)
  have h3 := mixT_all hf t3 (fun c hc => List.mem_append_left _ (List.mem_map.2 ⟨c, hc, rfl⟩)) (fun c hc => List.mem_append_right _ (List.mem_map.2 ⟨c, hc, rfl⟩))
  obtain ⟨m, hm1, hm2⟩ := sorted_exists (solid lo)
  obtain ⟨hm3, hm4⟩ := pic_sorted t1 hm1 hm2
  have hm5 : ∀ key, maskAt m key = mixF f P Q key := fun key => (hm4 key).trans (h3 key)
  refine ⟨m, hm3, ?_, hm5, picOf_eq hm3 hm5⟩
  have h1 := solid_length lo
  rw [hm1.length_eq]
  rw [List.length_append, List.length_map, List.length_map] at t2
  omega
theorem opM_get {f : Int → Int → Int} {a b : List Int} (ha : a.length = 16) (hb : b.length = 16) {y : Nat} (hy : y < 16) : (opM f a b).getD y 0 = f (a.getD y 0) (b.getD y 0) := by
  rw [opM, List.getD_eq_getElem?_getD, List.getElem?_eq_getElem (by rw [List.length_zipWith]; omega), List.getElem_zipWith]
  rw [List.getD_eq_getElem?_getD, List.getElem?_eq_getElem (by omega), List.getD_eq_getElem?_getD, List.getElem?_eq_getElem (by omega)]
  rfl
section
variable {P Q J : List Bl}
theorem hasOr (hP : Pic P) (hQ : Pic Q) (h : ∀ key, maskAt J key = mixF orF P Q key) (U V : Int) : hasB J U V = (hasB P U V || hasB Q U V) := by
  obtain ⟨a1, a2⟩ := maskAt_ok hP.bls hP.m16 [U / 16, V / 16]
  obtain ⟨b1, b2⟩ := maskAt_ok hQ.bls hQ.m16 [U / 16, V / 16]
  rw [hasB, h, mixF, bitB_row, opM_get a1 b1 (by omega), orF_bit (a2.getD _) (b2.getD _)]
  rfl
theorem hasAnd (hP : Pic P) (hQ : Pic Q) (h : ∀ key, maskAt J key = mixF andF P Q key) (U V : Int) : hasB J U V = (hasB P U V && hasB Q U V) := by
  obtain ⟨a1, a2⟩ := maskAt_ok hP.bls hP.m16 [U / 16, V / 16]
  obtain ⟨b1, b2⟩ := maskAt_ok hQ.bls hQ.m16 [U / 16, V / 16]
  rw [hasB, h, mixF, bitB_row, opM_get a1 b1 (by omega), andF_bit (a2.getD _) (b2.getD _)]
  rfl
theorem hasNot (hP : Pic P) (hQ : Pic Q) (h : ∀ key, maskAt J key = mixF notF P Q key) (U V : Int) : hasB J U V = (hasB P U V && !hasB Q U V) := by
  obtain ⟨a1, a2⟩ := maskAt_ok hP.bls hP.m16 [U / 16, V / 16]
  obtain ⟨b1, b2⟩ := maskAt_ok hQ.bls hQ.m16 [U / 16, V / 16]
  rw [hasB, h, mixF, bitB_row, opM_get a1 b1 (by omega), notF_bit (a2.getD _) (b2.getD _) (by omega)]
  rfl
end
/-! ### counts -/
theorem spec_perm {P : List Bl} (hP : Pic P) {L : List (List Int)} (hn : L.Nodup) (h : ∀ c, c ∈ L ↔ c.length = 2 ∧ hasB P (c.getD 0 0) (c.getD 1 0) = true) : (specC P).length = L.length :=
  List.Perm.length_eq ((List.perm_ext_iff_of_nodup (spec_nodup hP.rising) hn).2 fun c => by rw [spec_mem hP.apart hP.bls, h])
theorem filter_both {A B : List (List Int)} (hA : A.Nodup) (hB : B.Nodup) : (A.filter fun c => decide (c ∈ B)).length = (B.filter fun c => decide (c ∈ A)).length :=
  List.Perm.length_eq ((List.perm_ext_iff_of_nodup (hA.filter _) (hB.filter _)).2 fun c => by
    rw [List.mem_filter, List.mem_filter, decide_eq_true_iff, decide_eq_true_iff]
    exact ⟨fun h => ⟨h.2, h.1⟩, fun h => ⟨h.2, h.1⟩⟩)
theorem filter_split (A : List (List Int)) (p : List Int → Bool) : (A.filter p).length + (A.filter fun c => !p c).length = A.length := by
  induction A with
  | nil => rfl
  | cons a A ih =>
    rw [List.filter_cons, List.filter_cons]
    cases p a
    · simp only [Bool.not_false, if_true, List.length_cons]
      simp only [Bool.false_eq_true, if_false]
      omega
    · simp only [Bool.not_true, if_true, List.length_cons]
      simp only [Bool.false_eq_true, if_false]
      omega
theorem counts {P Q J M D : List Bl} (hP : Pic P) (hQ : Pic Q) (hJ : Pic J) (hM : Pic M) (hD : Pic D) (h1 : ∀ U V, hasB J U V = (hasB P U V || hasB Q U V)) (h2 : ∀ U V, hasB M U V = (hasB P U V && hasB Q U V)) (h3 : ∀ U V, hasB D U V = (hasB P U V && !hasB Q U V)) :
    (specC J).length + (specC M).length = (specC P).length + (specC Q).length ∧ (specC D).length + (specC M).length = (specC P).length := by
  have nP := spec_nodup hP.rising
  have nQ := spec_nodup hQ.rising
  have mP := fun c => spec_mem hP.apart hP.bls c
  have mQ := fun c => spec_mem hQ.apart hQ.bls c
  have eM : (specC M).length = ((specC P).filter fun c => decide (c ∈ specC Q)).length := spec_perm hM (nP.filter _) fun c => by
    rw [List.mem_filter, decide_eq_true_iff, mP, mQ, h2, Bool.and_eq_true]
    exact ⟨fun h => ⟨h.1.1, h.1.2, h.2.2⟩, fun h => ⟨⟨h.1, h.2.1⟩, h.1, h.2.2⟩⟩
  have eD : (specC D).length = ((specC P).filter fun c => !decide (c ∈ specC Q)).length := spec_perm hD (nP.filter _) fun c => by
    rw [List.mem_filter, Bool.not_eq_true', decide_eq_false_iff_not, mP, mQ, h3, Bool.and_eq_true, Bool.not_eq_true']
    exact ⟨fun h => ⟨h.1.1, h.1.2, by
      cases hq : hasB Q (c.getD 0 0) (c.getD 1 0)
      · rfl
      · exact absurd ⟨h.1.1, hq⟩ h.2⟩, fun h => ⟨⟨h.1, h.2.1⟩, fun h5 => by rw [h.2.2] at h5; cases h5.2⟩⟩
  have eJ : (specC J).length = (specC P ++ (specC Q).filter fun c => !decide (c ∈ specC P)).length := spec_perm hJ (by
    rw [List.nodup_append]
    refine ⟨nP, nQ.filter _, fun a ha b hb e => ?_⟩
    rw [List.mem_filter, Bool.not_eq_true', decide_eq_false_iff_not] at hb
    exact hb.2 (e ▸ ha)) fun c => by
    rw [List.mem_append, List.mem_filter, Bool.not_eq_true', decide_eq_false_iff_not, mP, mQ, h1, Bool.or_eq_true]
    constructor
    · rintro (h | h)
      · exact ⟨h.1, .inl h.2⟩
      · exact ⟨h.1.1, .inr h.1.2⟩
    · rintro ⟨h, h2⟩
      cases hp : hasB P (c.getD 0 0) (c.getD 1 0)
      · rw [hp] at h2
        refine .inr ⟨⟨h, h2.resolve_left (by decide)⟩, fun h5 => by cases h5.2⟩
      · exact .inl ⟨h, rfl⟩
  have s1 := filter_split (specC Q) (fun c => decide (c ∈ specC P))
  have s2 := filter_split (specC P) (fun c => decide (c ∈ specC Q))
  have s3 := filter_both nP nQ
  rw [List.length_append] at eJ
  omega
/-! ### a picture out of its cells -/
theorem told_bit {cs : List (List Int)} (h2 : ∀ c ∈ cs, c.length = 2) (a b : Int) {x y : Nat} (hx : x < 16) (hy : y < 16) : ∀ k, k ≤ cs.length → bitB (toldM (cs.take k) [a, b]) x y = decide ([16 * a + x, 16 * b + y] ∈ cs.take k)
  | 0, _ => by
    rw [List.take_zero]
    show bitB zr16 x y = _
    rw [zr16_bit]
    simp
  | k + 1, hk => by
    have hkl : k < cs.length := hk
    have ih := told_bit h2 a b hx hy k (by omega)
    obtain ⟨m1, m2⟩ := toldM_ok (cs.take k) [a, b]
    have hc2 := h2 _ (List.getElem_mem hkl)
    rw [toldM_succ cs hkl, List.take_succ_eq_append_getElem hkl]
    generalize cs[k] = c at *
    obtain ⟨u, v, rfl⟩ : ∃ u v, c = [u, v] := ⟨_, _, two_of hc2⟩
    have hmem : decide ([16 * a + (x : Int), 16 * b + (y : Int)] ∈ cs.take k ++ [[u, v]]) = (decide ([16 * a + (x : Int), 16 * b + (y : Int)] ∈ cs.take k) || (decide (16 * a + (x : Int) = u) && decide (16 * b + (y : Int) = v))) := by
      rw [Bool.eq_iff_iff, Bool.or_eq_true, Bool.and_eq_true, decide_eq_true_iff, decide_eq_true_iff, decide_eq_true_iff, decide_eq_true_iff, List.mem_append, List.mem_singleton]
      constructor
      · rintro (h | h)
        · exact .inl h
        · injection h with h1 h2
          injection h2 with h2
          exact .inr ⟨h1, h2⟩
      · rintro (h | ⟨h1, h2⟩)
        · exact .inl h
        · exact .inr (by rw [h1, h2])
    rw [hmem, ← ih]
    have hcor : cornerL [u, v] = [u / 16, v / 16] := rfl
    rw [hcor]
    by_cases e : [a, b] = [u / 16, v / 16]
    · rw [if_pos e]
      have e0 : a = u / 16 := by injection e
      have e1 : b = v / 16 := by injection e with _ h; injection h
      show bitB (setOr (toldM (cs.take k) [a, b]) (v % 16).toNat (u % 16).toNat) x y = _
      rw [setOr_bit m1 m2 (by omega) (by omega)]
      congr 1
      congr 1
      · exact decide_eq_decide.2 (by omega)
      · exact decide_eq_decide.2 (by omega)
    · rw [if_neg e]
      have : (decide (16 * a + (x : Int) = u) && decide (16 * b + (y : Int) = v)) = false := by
        rw [Bool.and_eq_false_iff, decide_eq_false_iff_not, decide_eq_false_iff_not]
        by_cases h1 : 16 * a + (x : Int) = u
        · refine .inr fun h2 => e ?_
          rw [show a = u / 16 by omega, show b = v / 16 by omega]
        · exact .inl h1
      rw [this, Bool.or_false]
theorem toldM_odd {cs : List (List Int)} {key : List Int} (hk : key.length ≠ 2) : toldM cs key = zr16 := by
  have h : ∀ (cs : List (List Int)) (M : List Int), (cs.foldl (fun M c => if key = cornerL c then putC M c else M) M) = M := by
    intro cs
    induction cs with
    | nil => intro M; rfl
    | cons c cs ih =>
      intro M
      rw [List.foldl_cons, if_neg (fun e => hk (by rw [e]; rfl)), ih]
  exact h cs zr16
/-- the picture of a picture's cells, whatever their order -/
theorem picOf_cells {P : List Bl} (hP : Pic P) {cs : List (List Int)} (h2 : ∀ c ∈ cs, c.length = 2) (h : ∀ c, c ∈ cs ↔ c ∈ specC P) : picOf (toldM cs) = P := by
  refine picOf_eq hP fun key => ?_
  by_cases hk : key.length = 2
  · obtain ⟨a1, a2⟩ := maskAt_ok hP.bls hP.m16 key
    obtain ⟨b1, b2⟩ := toldM_ok cs key
    refine mask_ext a1 b1 a2 b2 fun x y hx hy => ?_
    have e := told_bit h2 (key.getD 0 0) (key.getD 1 0) hx hy cs.length (Nat.le_refl _)
    rw [List.take_length, ← two_of hk] at e
    rw [e]
    have e2 := hasB_at P (key.getD 0 0) (key.getD 1 0) hx hy
    rw [← two_of hk] at e2
    rw [← e2, Bool.eq_iff_iff, decide_eq_true_iff, h, spec_mem hP.apart hP.bls]
    exact ⟨fun h => ⟨rfl, h⟩, fun h => h.2⟩
  · rw [maskAt_odd hP.bls hk, toldM_odd hk]
/-- what is valid -/
theorem vp_of_vpic {P : List Bl} (h : VPic P) : vpB P = true := by
  have hr := h.pic.rising
  rw [vpB, Bool.and_eq_true, decide_eq_true_iff]
  refine ⟨?_, h.few⟩
  rw [vpTo, List.all_eq_true]
  intro k hk
  have hkl := List.mem_range.1 hk
  have hb := List.getElem_mem hkl
  rw [blkAt, Bool.and_eq_true]
  constructor
  · by_cases h0 : k = 0
    · rw [h0]; rfl
    · rw [Bool.or_eq_true]
      refine .inr ?_
      rw [getDB_at hkl, getDB_at (show k - 1 < P.length by omega), befB_iff]
      exact List.pairwise_iff_getElem.1 hr (k - 1) k (by omega) hkl (by omega)
  · rw [getDB_at hkl, blkOk, Bool.and_eq_true, Bool.and_eq_true]
    refine ⟨?_, ?_, h.ok _ hb⟩
    · rw [Bool.not_eq_true', emptyM, beq_eq_false_iff_ne]
      exact h.pic.noVoid _ hb
    · have := h.far _ hb
      rw [farB, inB, inB]
      simp only [Bool.and_eq_true, decide_eq_true_iff]
      exact this
theorem vpic_of_small {P : List Bl} (h : Pic P) (hf : P.length ≤ 64) (hs : ∀ b ∈ P, (-62000 ≤ b.1.getD 0 0 ∧ b.1.getD 0 0 ≤ 62000) ∧ (-62000 ≤ b.1.getD 1 0 ∧ b.1.getD 1 0 ≤ 62000)) : VPic P := by
  refine ⟨h, fun b hb => ?_, fun b hb => ?_, hf⟩
  · have := hs b hb
    exact ⟨by omega, by omega⟩
  · have hbs := hs b hb
    rw [okCells, List.all_eq_true]
    intro f hfm
    obtain ⟨g, hg, rfl⟩ := List.mem_map.1 hfm
    obtain ⟨k, hk, rfl⟩ := List.getElem_of_mem hg
    obtain ⟨x, y, hx, hy, he⟩ := mCells_at hk
    rw [he]
    show cellB ((x : Int) + 16 * b.1.getD 0 0) ((y : Int) + 16 * b.1.getD 1 0) = true
    simp only [cellB, inB, Bool.and_eq_true, decide_eq_true_iff]
    omega
end Go.Proofs.Ytmagaapdijapiaa
namespace Go.Proofs.Ytmagaapdijapiaa
open Go.ChangeShapes Go.WideShapes Go.ChangeAt Go.RowKit
def strike (lo : List Bl) (x y : Int) : List Bl := putB lo [x / 16, y / 16] (setNot (maskAt lo [x / 16, y / 16]) (y % 16).toNat (x % 16).toNat)
theorem has_strike {lo : List Bl} (ht : Tab lo) (x y U V : Int) : hasB (strike lo x y) U V = (hasB lo U V && !(decide (U = x) && decide (V = y))) := by
  obtain ⟨m1, m2⟩ := ht.mask [x / 16, y / 16]
  rw [hasB, strike, putB_mask, hasB]
  by_cases e : [U / 16, V / 16] = [x / 16, y / 16]
  · rw [if_pos e, setNot_bit m1 m2 (by omega) (by omega) (by omega), e]
    have e0 : U / 16 = x / 16 := by injection e
    have e1 : V / 16 = y / 16 := by injection e with _ h; injection h
    congr 2
    congr 1
    · exact decide_eq_decide.2 (by omega)
    · exact decide_eq_decide.2 (by omega)
  · rw [if_neg e]
    have : (decide (U = x) && decide (V = y)) = false := by
      rw [Bool.and_eq_false_iff, decide_eq_false_iff_not, decide_eq_false_iff_not]
      by_cases h1 : U = x
      · exact .inr fun h2 => e (by rw [h1, h2])
      · exact .inl h1
    rw [this, Bool.not_false, Bool.and_true]
theorem strike_tab {lo : List Bl} (ht : Tab lo) (x y : Int) : Tab (strike lo x y) := by
  obtain ⟨m1, m2⟩ := ht.mask [x / 16, y / 16]
  exact ht.put rfl (setNot_length m1 _ _) (setNot_16 m2 _ _)
theorem strike_length (lo : List Bl) (x y : Int) : (strike lo x y).length ≤ lo.length + 1 := putB_length _ _ _
/-! ### the steps -/
def stepsL : List (List Int) := [[1, 0], [-1, 0], [0, 1], [0, -1], [1, 1], [1, -1], [-1, 1], [-1, -1]]
def stepX (j : Nat) : Int := (stepsL.getD j []).getD 0 0
def stepY (j : Nat) : Int := (stepsL.getD j []).getD 1 0
theorem steps_rows : Rows_ 2 stepsL := fun f hf => by
  simp only [stepsL, List.mem_cons, List.not_mem_nil, or_false] at hf
  rcases hf with rfl | rfl | rfl | rfl | rfl | rfl | rfl | rfl <;> rfl
theorem step_at {j : Nat} (hj : j < 8) : stepsL[j]'hj = [stepX j, stepY j] := by
  have h : j = 0 ∨ j = 1 ∨ j = 2 ∨ j = 3 ∨ j = 4 ∨ j = 5 ∨ j = 6 ∨ j = 7 := by omega
  rcases h with rfl | rfl | rfl | rfl | rfl | rfl | rfl | rfl <;> rfl
theorem step_in (j : Nat) : -1 ≤ stepX j ∧ stepX j ≤ 1 ∧ -1 ≤ stepY j ∧ stepY j ≤ 1 := by
  by_cases hj : j < 8
  · have h : j = 0 ∨ j = 1 ∨ j = 2 ∨ j = 3 ∨ j = 4 ∨ j = 5 ∨ j = 6 ∨ j = 7 := by omega
    rcases h with rfl | rfl | rfl | rfl | rfl | rfl | rfl | rfl <;> decide
  · have e : stepsL.getD j [] = [] := by rw [List.getD_eq_getElem?_getD, List.getElem?_eq_none (by simp [stepsL]; omega)]; rfl
    rw [stepX, stepY, e]
    decide
def stepN (cn : Bool) : Nat := if cn then 8 else 4
theorem step_adj (cn : Bool) {j : Nat} (hj : j < stepN cn) : adjB cn (stepX j) (stepY j) = true := by
  cases cn
  · have hj : j < 4 := hj
    have h : j = 0 ∨ j = 1 ∨ j = 2 ∨ j = 3 := by omega
    rcases h with rfl | rfl | rfl | rfl <;> decide
  · have hj : j < 8 := hj
    have h : j = 0 ∨ j = 1 ∨ j = 2 ∨ j = 3 ∨ j = 4 ∨ j = 5 ∨ j = 6 ∨ j = 7 := by omega
    rcases h with rfl | rfl | rfl | rfl | rfl | rfl | rfl | rfl <;> decide
theorem adj_step {cn : Bool} {dx dy : Int} (h : adjB cn dx dy = true) : ∃ j, j < stepN cn ∧ stepX j = dx ∧ stepY j = dy := by
  have h1 := adj_in h
  have hx1 : dx = -1 ∨ dx = 0 ∨ dx = 1 := by omega
  have hy1 : dy = -1 ∨ dy = 0 ∨ dy = 1 := by omega
  clear h1
  rcases hx1 with rfl | rfl | rfl <;> rcases hy1 with rfl | rfl | rfl <;> cases cn <;> first
    | exact absurd h (by decide)
    | exact ⟨0, by decide, by decide, by decide⟩
    | exact ⟨1, by decide, by decide, by decide⟩
    | exact ⟨2, by decide, by decide, by decide⟩
    | exact ⟨3, by decide, by decide, by decide⟩
    | exact ⟨4, by decide, by decide, by decide⟩
    | exact ⟨5, by decide, by decide, by decide⟩
    | exact ⟨6, by decide, by decide, by decide⟩
    | exact ⟨7, by decide, by decide, by decide⟩
/-- whether the first neighbours are there -/
def inTo (H : Int → Int → Bool) (x y : Int) : Nat → Bool
  | 0 => true
  | j + 1 => inTo H x y j && H (x + stepX j) (y + stepY j)
theorem inTo_all (H : Int → Int → Bool) (x y : Int) : inTo H x y 4 = insideB H x y := by
  have e : inTo H x y 4 = ((((true && H (x + 1) (y + 0)) && H (x + -1) (y + 0)) && H (x + 0) (y + 1)) && H (x + 0) (y + -1)) := rfl
  rw [e, insideB, Int.add_zero, Int.add_zero]
  cases H (x + 1) y <;> cases H (x + -1) y <;> cases H x (y + 1) <;> cases H x (y + -1) <;> rfl
/-- as the program strikes the cells inside -/
structure EdgeI (l : List Bl) (k : Nat) (lo : List Bl) : Prop where
  tab : Tab lo
  few : lo.length ≤ l.length + k
  has : ∀ U V, hasB lo U V = (hasB l U V && !(decide ([U, V] ∈ (specC l).take k) && insideB (hasB l) U V))
theorem edgeI_zero {l : List Bl} (h : Pic l) : EdgeI l 0 l := ⟨Tab.of_pic h, Nat.le_refl _, fun U V => by rw [List.take_zero]; simp⟩
theorem edgeI_no {l : List Bl} {k : Nat} {lo : List Bl} (hk : k < (specC l).length) (h : EdgeI l k lo) {x y : Int} (hc : (specC l)[k] = [x, y]) (hi : insideB (hasB l) x y = false) : EdgeI l (k + 1) lo :=
  ⟨h.tab, by have := h.few; omega, fun U V => by
    rw [h.has]
    congr 2
    by_cases e : [U, V] = [x, y]
    · have e0 : U = x := by injection e
      have e1 : V = y := by injection e with _ e; injection e
      subst e0 e1
      rw [hi, Bool.and_false, Bool.and_false]
    · congr 1
      refine decide_eq_decide.2 ?_
      rw [take_mem_succ hk, hc]
      exact ⟨.inl, fun h => h.elim id (fun h => absurd h e)⟩⟩
theorem edgeI_yes {l : List Bl} {k : Nat} {lo : List Bl} (hk : k < (specC l).length) (h : EdgeI l k lo) {x y : Int} (hc : (specC l)[k] = [x, y]) (hi : insideB (hasB l) x y = true) : EdgeI l (k + 1) (strike lo x y) :=
  ⟨strike_tab h.tab x y, by have := strike_length lo x y; have := h.few; omega, fun U V => by
    rw [has_strike h.tab, h.has, Bool.and_assoc, ← Bool.not_or]
    congr 2
    by_cases e : [U, V] = [x, y]
    · have e0 : U = x := by injection e
      have e1 : V = y := by injection e with _ e; injection e
      subst e0 e1
      have : [U, V] ∈ (specC l).take (k + 1) := (take_mem_succ hk _).2 (.inr hc.symm)
      simp [this, hi]
    · have h1 : (decide (U = x) && decide (V = y)) = false := by
        rw [Bool.and_eq_false_iff, decide_eq_false_iff_not, decide_eq_false_iff_not]
        by_cases e1 : U = x
        · exact .inr fun e2 => e (by rw [e1, e2])
        · exact .inl e1
      rw [h1, Bool.or_false]
      congr 1
      refine decide_eq_decide.2 ?_
      rw [take_mem_succ hk, hc]
      exact ⟨.inl, fun h => h.elim id (fun h => absurd h e)⟩⟩
/-- at the end it has the edge -/
theorem edgeI_all {l lo : List Bl} (hl : Pic l) (h : EdgeI l (specC l).length lo) (U V : Int) : hasB lo U V = edgeB (hasB l) U V := by
  rw [h.has, List.take_length, edgeB]
  cases hx : hasB l U V
  · rfl
  · have : [U, V] ∈ specC l := (spec_mem hl.apart hl.bls _).2 ⟨rfl, hx⟩
    simp [this]
end Go.Proofs.Ytmagaapdijapiaa
namespace Go.Proofs.Ytmagaapdijapiaa
open Go.ChangeShapes Go.WideShapes Go.ChangeAt Go.RowKit
theorem run_append_zero {P : Program} (t ty e : TypeId) (ht : P.underlying t = some (.slice e)) {i : TypeInfo} (hi : P.info? e = some i) (g0 : Option Addr) (k cap : Nat) (hk : k ≤ cap) (A : Option Addr) (c : Nat) (w : World) :
    (Builtin.append_ #[t, t] ty #[.slice g0 k cap, .slice A 0 c]).run P w = .ok (.slice g0 k cap) w := by
  cases A <;> cases g0 <;> simp [Builtin.append_, run_underlying ht, Builtin.lenOf, Builtin.firstCells, run_sizeOf (P := P) (w := w) hi, hk, Result.andThen, loadCells, loadCellsFrom, storeCells]
/-- a slice is copied behind an empty one -/
theorem wpList_append_copy {P : Program} {w : World} {ops : Array Oper} {rest : List Oper} {o : Oper} {a : Act} {Q : Exit → Act → World → Prop} (hgd : o.guard = none) (s x : Operand) (t : TypeId)
    (ho : o.op = .call { callee := .builtin .append, args := #[s, x], argTypes := #[t, t] })
    (base : Nat) (e : TypeId) (i : TypeInfo) (z : Value) (size bytes : Nat) (ht : P.underlying t = some (.slice e)) (hi : P.info? e = some i) (hz : i.zero = some z)
    (hsize : i.size = size) (hby : i.bytes = bytes) (hzs : z.cells.size = size) (hsz : 0 < size)
    (g0 cap0 : Nat) (hs : a.eval s = .slice (some ⟨g0, 0, none⟩) 0 cap0) (hown : w.ownsRow base e size (.slice (some ⟨g0, 0, none⟩) 0 cap0) 0 [])
    (A : Option Addr) (n c B : Nat) (xs : List Value) (hx : a.eval x = .slice A n c) (hR : Rd w B size A n xs) (h1 : ∀ u ∈ xs, u.oneCell' = true)
    (h63 : n ≤ maxLen) (hbytes : n * bytes ≤ 140737488355328) (hbase : base ≤ w.heap.size)
    (h : ∀ g c' w', w'.ownsRow base e size (.slice (some ⟨g, 0, none⟩) n c') n xs → w.grownBy w' (some g0) → wpList P ops Q rest (a.put o.dst (.slice (some ⟨g, 0, none⟩) n c')) w') : wpList P ops Q (o :: rest) a w := by
  by_cases hn : n = 0
  · subst hn
    have hxs : xs = [] := List.eq_nil_of_length_eq_zero (by have := hR.1; omega)
    subst hxs
    refine wpList_plain hgd fun K hK => ?_
    have hrun := run_append_zero t o.type e ht hi (some ⟨g0, 0, none⟩) 0 cap0 (Nat.zero_le _) A c w
    have hh := hK _ _ (h g0 cap0 w hown (World.grownBy.refl _ _))
    unfold Oper.wp
    simp [execOp, ho, resolve, invoke, builtin, hs, hx, hrun, Result.andThen]
    exact hh
  · obtain ⟨b, o', rfl, hb, hc⟩ := hR.at_ (by omega)
    refine wpList_append_own w hgd s x t ho base e i z size bytes ht hi hz hsize hby hzs hsz _ 0 [] hs hown ⟨b, o', none⟩ n c xs hx hR.1 (fun j u hu => by
      have e : (⟨b, o', none⟩ : Addr).add j = ⟨b, o' + j, none⟩ := by unfold Addr.add; split <;> simp_all
      rw [e]
      exact hc j u hu) h1 (by omega) (by rw [Nat.zero_add]; exact hbytes) hbase fun v' w' ho' hg hnil => ?_
    rw [Nat.zero_add, List.nil_append] at ho'
    rcases ho'.2 with ⟨rfl, _⟩ | ⟨g, cap, cur, rfl, h2⟩
    · exact absurd (hnil.1 rfl).1 (by simp)
    · refine h g cap w' ho' ?_
      have hob : (Value.slice (some ⟨g0, 0, none⟩) 0 cap0).ownBlock = some g0 := by simp [Value.ownBlock]
      rwa [hob] at hg
theorem size_cells (g : Nat) : ∀ (vs : List Value) (o : Nat) (w : World), (w.setCells g o vs).heap.size = w.heap.size
  | [], _, _ => rfl
  | v :: vs, o, w => by rw [World.setCells, size_cells g vs, size_setCell]
/-- a block put into a list at a place -/
def ins (l : List Bl) (b : Bl) (j : Nat) : List Bl := l.take j ++ b :: l.drop j
theorem ins_length {l : List Bl} {b : Bl} {j : Nat} (h : j ≤ l.length) : (ins l b j).length = l.length + 1 := by
  rw [ins, List.length_append, List.length_take, List.length_cons, List.length_drop]
  omega
theorem ins_end (l : List Bl) (b : Bl) : ins l b l.length = l ++ [b] := by rw [ins, List.take_length, List.drop_length]
theorem ins_at {l : List Bl} {b : Bl} {j : Nat} (h : j ≤ l.length) : (ins l b j)[j]'(by rw [ins_length h]; omega) = b := by
  simp only [ins]
  rw [List.getElem_append_right (by rw [List.length_take]; omega)]
  simp only [List.length_take]
  have : j - min j l.length = 0 := by omega
  simp [this]
theorem ins_before {l : List Bl} {b : Bl} {j : Nat} (h : j < l.length) : (ins l b (j + 1))[j]'(by rw [ins_length (by omega)]; omega) = l[j] := by
  simp only [ins]
  rw [List.getElem_append_left (by rw [List.length_take]; omega), List.getElem_take]
theorem ins_swap {l : List Bl} {b : Bl} {j : Nat} (h : j < l.length) : ((ins l b (j + 1)).set (j + 1) l[j]).set j b = ins l b j := by
  apply List.ext_getElem?
  intro i
  have hl : (l.take (j + 1)).length = j + 1 := by rw [List.length_take]; omega
  have hl2 : (l.take j).length = j := by rw [List.length_take]; omega
  rw [List.getElem?_set, List.getElem?_set, List.length_set, ins_length (by omega)]
  by_cases h1 : j = i
  · subst h1
    rw [if_pos rfl, if_pos (by omega), ins, List.getElem?_append_right (by omega), hl2, Nat.sub_self]
    rfl
  · rw [if_neg h1]
    by_cases h2 : j + 1 = i
    · subst h2
      rw [if_pos rfl, if_pos (by omega), ins, List.getElem?_append_right (by omega), hl2, show j + 1 - j = 1 by omega, List.drop_eq_getElem_cons h]
      rfl
    · rw [if_neg h2, ins, ins]
      by_cases h3 : i < j
      · rw [List.getElem?_append_left (by omega), List.getElem?_append_left (by omega), List.getElem?_take_of_lt (by omega), List.getElem?_take_of_lt (by omega)]
      · rw [List.getElem?_append_right (by omega), List.getElem?_append_right (by omega), hl, hl2, show i - (j + 1) = (i - (j + 2)) + 1 by omega, show i - j = (i - (j + 2)) + 1 + 1 by omega, List.getElem?_cons_succ, List.getElem?_cons_succ, List.getElem?_drop, List.getElem?_drop]
        congr 1
        omega
theorem ins_bls {l : List Bl} (h : Bls l) {b : Bl} (hb : b.1.length = 2 ∧ b.2.length = 16) (j : Nat) : Bls (ins l b j) := fun c hc => by
  rcases List.mem_append.1 hc with hc | hc
  · exact h c (List.mem_of_mem_take hc)
  · rcases List.mem_cons.1 hc with rfl | hc
    · exact hb
    · exact h c (List.mem_of_mem_drop hc)
/-- a store of a whole row, under a word that simp does not open -/
def stRow (ty : TypeId) (p v : Value) : Sem Next := do Instr.storeAt ty p v; pure .skip
theorem exec_stMask (ρ : Operand → Value) (dst : Option Tmp) (x y : Operand) (t : TypeId) (pos : String) (after : Array Edge) (guard : Option (Nat × Bool)) :
    execOp ρ { dst := dst, op := .store 76 x y, type := t, pos := pos, after := after, guard := guard } = stRow 76 (ρ x) (ρ y) := rfl
/-- a row of numbers that may be written at a place -/
def Fits (W : World) (g o : Nat) (R : List Int) : Prop := R.length = 16 ∧ W.there g o 16
theorem run_stMask (W : World) (g o : Nat) (R : List Int) (h : Fits W g o R) : (stRow 76 (.pointer (some ⟨g, o, none⟩)) (.agg (ivs .u16 R))).run Try.prog W = .ok .skip (W.setCells g o (ivs .u16 R).toList) := by
  obtain ⟨h1, h2⟩ := h
  have hs : (ivs .u16 R).size = 16 := by rw [ivs_size, h1]
  have := run_storeAt_mid (P := Try.prog) W g o 76 (ivs .u16 R) (by rw [hs]; exact h2) (by rw [hs]; exact size76) ivs_one
  unfold stRow
  rw [Sem.run_bind, this]
  rfl
def GivesAdd (A0 : Option Addr) (c0 : Nat) (l : List Bl) (key M : List Int) (w : World) (e : Ending) (w' : World) : Prop :=
  ∃ A c l', e = .returned (.slice A l'.length c) ∧ Added l key M l' ∧ ((A = A0 ∧ c = c0 ∧ l' = l) ∨ Own w' w.heap.size w'.heap.size 78 18 A l'.length c (bcs l')) ∧ Below w.heap.size w w'
section
attribute [local go_sem ↓] exec_ldCorner exec_ldMask exec_stMask
attribute [local go_sem] run_ldCorner run_ldMask run_stMask
set_option maxRecDepth 20000 in
set_option maxHeartbeats 6400000 in
theorem l07Add_any (A : Option Addr) (n c : Nat) (l : List Bl) (hl : l.length = n) (hp : Pic l) (hn : n ≤ 1048576) (X Y : Int) (M : List Int) (hM : M.length = 16) (h16 : is16 M) (w : World) (hR : Rd w w.heap.size 18 A n (bcs l)) :
    Calls Try.prog 63 #[.slice A n c, .agg #[.int .i32 X, .int .i32 Y], .agg (ivs .u16 M)] w (GivesAdd A c l [X, Y] M w) := by
  obtain ⟨i0, hi, hz0, hz1, hz2⟩ := info_parts Block_info
  have b1 : Below w.heap.size w ((w.alloc (.cells #[.int .i32 X, .int .i32 Y] 63)).alloc (.cells (ivs .u16 M) 76)) := ((Below.refl _ _).alloc (Nat.le_refl _) _).alloc (by simp) _
  have k0 : Blk ((w.alloc (.cells #[.int .i32 X, .int .i32 Y] 63)).alloc (.cells (ivs .u16 M) 76)) w.heap.size 63 #[.int .i32 X, .int .i32 Y] := (Blk.newAt rfl rfl).alloc _
  have k1 : Blk ((w.alloc (.cells #[.int .i32 X, .int .i32 Y] 63)).alloc (.cells (ivs .u16 M) 76)) (w.heap.size + 1) 76 (ivs .u16 M) := Blk.newAt (by simp) rfl
  have HE := Lib.hid (l07Empty_any (w.heap.size + 1) 0 M hM _ k1.range0)
  have B1 := Lib.hid b1
  have K0 := Lib.hid k0
  have K1 := Lib.hid k1
  have HP := Lib.hid hp
  have HL := Lib.hid hl
  have HM := Lib.hid hM
  have HM16 := Lib.hid h16
  have HR := Lib.hid hR
  clear b1 k0 k1 hp hl hM h16 hR
  cases hem : emptyM M
  · have HNE : Hid (M ≠ zr16) := Lib.hid (fun e => by rw [emptyM_iff.2 e] at hem; cases hem)
    rw [hem] at HE
    clear hem
    have hz1' : ((w.alloc (.cells #[.int .i32 X, .int .i32 Y] 63)).alloc (.cells (ivs .u16 M) 76)).heap.size = w.heap.size + 1 + 1 := by simp only [size_alloc]
    have how : (((w.alloc (.cells #[.int .i32 X, .int .i32 Y] 63)).alloc (.cells (ivs .u16 M) 76)).alloc (.cells #[] 78)).ownsRow (w.heap.size + 1 + 1) 78 18 (.slice (some ⟨w.heap.size + 1 + 1, 0, none⟩) 0 0) 0 [] := by
      have := World.ownsRow_lit (e := 78) (base := w.heap.size + 1 + 1) (size := 18) ((w.alloc (.cells #[.int .i32 X, .int .i32 Y] 63)).alloc (.cells (ivs .u16 M) 76)) #[] 0 (by rw [hz1']; exact Nat.le_refl _) (by unfold maxLen; omega) rfl
      rwa [hz1'] at this
    have HOW := Lib.hid how
    have HSZ : Hid (w.heap.size + 1 + 1 ≤ (((w.alloc (.cells #[.int .i32 X, .int .i32 Y] 63)).alloc (.cells (ivs .u16 M) 76)).alloc (.cells #[] 78)).heap.size) := Lib.hid (by rw [size_alloc, hz1']; omega)
    have HR2 : Hid (Rd (((w.alloc (.cells #[.int .i32 X, .int .i32 Y] 63)).alloc (.cells (ivs .u16 M) 76)).alloc (.cells #[] 78)) w.heap.size 18 A n (bcs l)) := Lib.hid ((HR.out.below B1.out (Nat.le_refl _)).alloc (by rw [hz1']; omega) _)
    have B2 : Hid (Below w.heap.size w (((w.alloc (.cells #[.int .i32 X, .int .i32 Y] 63)).alloc (.cells (ivs .u16 M) 76)).alloc (.cells #[] 78))) := Lib.hid (B1.out.alloc (by rw [hz1']; omega) _)
    have K02 := Lib.hid (K0.out.alloc (.cells #[] 78))
    have K12 := Lib.hid (K1.out.alloc (.cells #[] 78))
    clear how hz1' K0 K1 B1 HR
    go_enter Try.func63, Try.ntmps63
    go_wp2_with (first
      | (go_at_call 86; refine HE.out.mono ?_; rintro e w2 ⟨rfl, rfl⟩)
      | (at_builtin; (refine wpList_append_copy rfl _ _ 27 rfl (w.heap.size + 1 + 1) 78 i0 _ 18 40 Try.underlying27 hi hz0 hz1 hz2 rfl (by decide) (w.heap.size + 1 + 1) 0 rfl HOW.out A n c w.heap.size (bcs l) rfl HR2.out (bcs_one l) (by unfold maxLen; omega) (by omega) HSZ.out ?_); intro g cc w7 hown7 hgrow7; have O7 := Lib.hid hown7; have G7 := Lib.hid hgrow7; clear hown7 hgrow7))
    have k07 := K02.out.grown G7.out (fun e => by injection e with e; omega)
    have k17 := K12.out.grown G7.out (fun e => by injection e with e; omega)
    have b7 := B2.out.grown G7.out (by have := HSZ.out; omega) (fun j e => by injection e with e; omega)
    have z7 : w.heap.size + 1 + 1 ≤ w7.heap.size := Nat.le_trans HSZ.out G7.out.size
    obtain ⟨A7, c7, hve, o7⟩ := Own.of_row O7.out
    cases hve
    have L0 := Lib.hid (And.intro o7 (And.intro k07 (And.intro k17 b7)))
    clear O7 G7 HOW HSZ HR2 B2 K02 K12 HE k07 k17 b7 o7
    go_loopw [8] (fun i wr => ∃ k : Nat, k ≤ n ∧ i = .int .i64 k ∧ Hid (∀ b ∈ l.take k, [X, Y] ≠ b.1) ∧ Hid (Own wr (w.heap.size + 1 + 1) wr.heap.size 78 18 (some ⟨g, 0, none⟩) n cc (bcs l)) ∧ Hid (Blk wr w.heap.size 63 #[.int .i32 X, .int .i32 Y]) ∧ Hid (Blk wr (w.heap.size + 1) 76 (ivs .u16 M)) ∧ Hid (Below w.heap.size w wr)) (fun i _ => n - (intOf i).toNat)
    case atStart => exact ⟨0, by omega, rfl, Lib.hid (fun b hb => by simp at hb), Lib.hid L0.out.1, Lib.hid L0.out.2.1, Lib.hid L0.out.2.2.1, Lib.hid L0.out.2.2.2⟩
    case round =>
      clear L0
      obtain ⟨k, hk, rfl, HNO, HO, HK0, HK1, HB⟩ := hrel
      by_cases hlt : k < n
      · have hkl : k < l.length := by have := HL.out; omega
        have hkI : (k : Int) < n := by omega
        have hk0 : (0 : Int) ≤ k := by omega
        have hF1 := HP.out.bls.at_ hkl
        have hF16 := HP.out.m16 _ (List.getElem_mem hkl)
        have hA := own_corner HO.out HP.out.bls hkl
        have hMr := own_mask HO.out HP.out.bls hkl
        have hset := bcs_set_mask HP.out.bls hkl (M := opM orF (l[k]).2 M) (opM_length hF1.2 HM.out)
        have hadd := fun e : [X, Y] = (l[k]).1 => (show Added l [X, Y] M (l.set k ((l[k]).1, opM orF (l[k]).2 M)) by rw [e]; exact added_set HP.out HM.out HM16.out hkl)
        have hbl : Bls (l.set k ((l[k]).1, opM orF (l[k]).2 M)) := fun b hb => by
          rcases List.mem_or_eq_of_mem_set hb with h | rfl
          · exact HP.out.bls b h
          · exact ⟨hF1.1, opM_length hF1.2 HM.out⟩
        have hslen : (l.set k ((l[k]).1, opM orF (l[k]).2 M)).length = n := by rw [List.length_set, HL.out]
        have hne : [X, Y] ≠ (l[k]).1 → ∀ b ∈ l.take (k + 1), [X, Y] ≠ b.1 := fun h b hb => by
          rw [List.take_succ_eq_append_getElem hkl, List.mem_append, List.mem_singleton] at hb
          rcases hb with hb | rfl
          · exact HNO.out b hb
          · exact h
        obtain ⟨S, hS⟩ : ∃ S, S = l.set k ((l[k]).1, opM orF (l[k]).2 M) := ⟨_, rfl⟩
        rw [← hS] at hset hadd hbl hslen
        clear hS
        obtain ⟨⟨C, F⟩, hF⟩ : ∃ F, F = l[k] := ⟨_, rfl⟩
        rw [← hF] at hF1 hF16 hA hMr hset hadd hne
        obtain ⟨P, Q, rfl⟩ : ∃ P Q, C = [P, Q] := ⟨_, _, two_of hF1.1⟩
        clear hF
        have HADD := Lib.hid hadd
        have HNE := Lib.hid hne
        have HSET := Lib.hid hset
        have HSL := Lib.hid hslen
        have HF2 := Lib.hid hF1.2
        have heq := fun W : World => run_equal_corner [P, Q] [X, Y] rfl rfl W
        have hbe : ([P, Q] == [X, Y]) = decide ([X, Y] = [P, Q]) := by
          rw [Bool.eq_iff_iff, beq_iff_eq, decide_eq_true_iff]
          exact eq_comm
        rw [hbe] at heq
        have rA : wr.drew.rangeAt g (k * 18) [.int .i32 P, .int .i32 Q] := hA
        obtain ⟨r1, r3⟩ : rowAt wr.drew g (k * 18) 2 = #[.int .i32 P, .int .i32 Q] ∧ hasRow wr.drew g (k * 18) 2 = true := rowAt_vals (W := wr.drew) rA
        obtain ⟨r2, r4⟩ : rowAt wr.drew w.heap.size 0 2 = #[.int .i32 X, .int .i32 Y] ∧ hasRow wr.drew w.heap.size 0 2 = true := rowAt_vals (W := wr.drew) (vs := [.int .i32 X, .int .i32 Y]) (HK0.out.rangeV (o := 0) (vs := [.int .i32 X, .int .i32 Y]) (fun j u hu => by rw [Nat.zero_add]; rw [← List.getElem?_toArray] at hu; exact hu))
        have HMR := Lib.hid hMr
        clear hset hadd hne hslen hF1 hA hMr hbe rA hbl
        by_cases he : [X, Y] = [P, Q]
        · have HAD := Lib.hid (HADD.out he)
          have heq' : ∀ W : World, (Op.equalIn 10000 63 (.agg #[.int .i32 P, .int .i32 Q]) (.agg #[.int .i32 X, .int .i32 Y])).run Try.prog W = .ok true W := fun W => by rw [← decide_eq_true he]; exact heq W
          have HJ := Lib.hid (fun W => sJoinMasks_any F M HF2.out HM.out W)
          have HOL := Lib.hid (opM_length (f := orF) HF2.out HM.out)
          clear heq HADD HNE he
          generalize opM orF F M = R at *
          go_wp2_with fail
          go_region_law (go_simp)
          all_goals
            have rM : wr.drew.drew.rangeAt g (k * 18 + 2) (F.map (.int .u16)) := HMR.out
            have rB : wr.drew.drew.rangeAt (w.heap.size + 1) 0 (M.map (.int .u16)) := HK1.out.range0
            obtain ⟨r5, r6⟩ : rowAt wr.drew.drew g (k * 18 + 2) 16 = ivs .u16 F ∧ hasRow wr.drew.drew g (k * 18 + 2) 16 = true := by
              have := rowAt_vals rM
              rwa [List.length_map, HF2.out] at this
            obtain ⟨r7, r8⟩ : rowAt wr.drew.drew (w.heap.size + 1) 0 16 = ivs .u16 M ∧ hasRow wr.drew.drew (w.heap.size + 1) 0 16 = true := by
              have := rowAt_vals rB
              rwa [List.length_map, HM.out] at this
            clear rM rB r1 r2 r3 r4
            go_wp2_with fail
            go_region_law (go_simp; go_at_call 108; refine (HJ.out _).mono ?_; rintro e w6 ⟨rfl, hb6⟩; have B6 := Lib.hid ((below_drew (below_drew HB.out)).trans (hb6.mono HB.out.size)); have O6 := Lib.hid (HO.out.drew.drew.below hb6 (Nat.le_refl _)); have Z6 := Lib.hid hb6.size; have hft : Fits w6 g (k * 18 + 2) R := ⟨HOL.out, O6.out.thereC _ 16 (by omega)⟩; clear hb6)
            all_goals
              go_wp2
              go_ret
              refine ⟨some ⟨g, 0, none⟩, cc, S, by rw [HSL.out]; rfl, HAD.out, .inr ?_, by rw [ivs_toList]; exact below_setCells (by have := O6.out.blk_; omega) _ _ B6.out⟩
              have h := O6.out.setAllC (R.map (.int .u16)) (k * 18 + 2)
              rw [HSET.out] at h
              rw [HSL.out, ivs_toList]
              have hz : (w6.setCells g (k * 18 + 2) (R.map (.int .u16))).heap.size = w6.heap.size := size_cells _ _ _ _
              exact (h.less (by omega)).more (by rw [hz]; exact Z6.out)
        · have heq' : ∀ W : World, (Op.equalIn 10000 63 (.agg #[.int .i32 P, .int .i32 Q]) (.agg #[.int .i32 X, .int .i32 Y])).run Try.prog W = .ok false W := fun W => by rw [← decide_eq_false he]; exact heq W
          have HN5 := Lib.hid (HNE.out he)
          clear heq HADD HNE he HSET HSL
          go_wp2_with fail
          go_region_law (go_simp)
          all_goals
            go_wp2
            exact ⟨⟨k + 1, by omega, by go_num, HN5, Lib.hid HO.out.drew, Lib.hid HK0.out.drew, Lib.hid HK1.out.drew, Lib.hid (below_drew HB.out)⟩, by simp [intOf]; omega⟩
      · obtain rfl : k = n := by omega
        have hno := HNO.out
        rw [List.take_of_length_le (by have := HL.out; omega)] at hno
        have HNO2 := Lib.hid hno
        have hbb : ([X, Y] : List Int).length = 2 ∧ M.length = 16 := ⟨rfl, HM.out⟩
        have HBB := Lib.hid hbb
        have HNW := Lib.hid (block_news wr ([X, Y], M))
        have HOA := Lib.hid (HO.out.row.alloc (.cells (bav ([X, Y], M)) 78))
        have HBA := Lib.hid (HB.out.alloc HB.out.size (.cells (bav ([X, Y], M)) 78))
        have HSA : Hid (w.heap.size + 1 + 1 ≤ (wr.alloc (.cells (bav ([X, Y], M)) 78)).heap.size) := Lib.hid (by have := HK1.out.lt; rw [size_alloc]; omega)
        have hcl : (bcs [(([X, Y], M) : Bl)]).length = 1 * 18 := by rw [bcs_length (bls_one hbb)]; rfl
        have HC0 := Lib.hid HK0.out
        have HC1 := Lib.hid HK1.out
        clear hno HNO hbb
        go_wp2_with (first
          | refine wpList_load_row rfl _ _ rfl w.heap.size rfl 63 #[.int .i32 X, .int .i32 Y] (0, 0) _ HC0.out Try.underlying63 rfl (by exact size63) ?_
          | refine wpList_load_row rfl _ _ rfl (w.heap.size + 1) rfl 76 (ivs .u16 M) (0, 0) _ HC1.out Try.underlying76 rfl (by rw [ivs_size, HM.out]; exact size76) ?_
          | refine wpList_build_block rfl _ _ rfl X Y M HM.out rfl rfl ?_
          | refine wpList_buildSlice_block rfl 27 78 _ rfl Try.underlying27 hi hz0 hz1 ([X, Y], M) HBB.out rfl ?_
          | (at_builtin; refine wpList_append_own _ rfl _ _ 27 rfl (w.heap.size + 1 + 1) 78 i0 _ 18 40 Try.underlying27 hi hz0 hz1 hz2 rfl (by decide) (.slice (some ⟨g, 0, none⟩) k cc) k _ rfl HOA.out ⟨wr.heap.size, 0, none⟩ 1 1 (bcs [([X, Y], M)]) rfl hcl HNW.out (bcs_one _) (by unfold maxLen; omega) (by omega) HSA.out ?_; intro v8 w8 hown8 hgrow8 hnil8; rw [← bcs_append] at hown8; obtain ⟨g8, c8, rfl⟩ := own_some hown8 (by omega); have HO8 := Lib.hid hown8; have HG8 := Lib.hid hgrow8; have HN8 := Lib.hid hnil8; clear hown8 hgrow8 hnil8))
        have hB8 := HBA.out.grown HG8.out HBA.out.size (fun j e => by have := (HOA.out.lt _ e).1; omega)
        have hz8 : w.heap.size + 1 + 1 ≤ w8.heap.size := Nat.le_trans HSA.out HG8.out.size
        obtain ⟨A8, c8', hv8, hO8⟩ := Own.of_row HO8.out
        cases hv8
        have hl8 := HL.out
        have he8 : l ++ [([X, Y], M)] = ins l ([X, Y], M) k := by rw [← hl8, ins_end]
        rw [he8] at hO8
        have L8 := Lib.hid (And.intro hO8 hB8)
        clear hO8 hB8 HO8 HG8 HN8 HBA HOA HNW HC0 HC1 HK0 HK1 HO HB he8 hl8
        go_loopw [9] (fun i wr => ∃ j : Nat, j ≤ k ∧ i = .int .i64 j ∧ Hid (∀ c ∈ l.drop j, ltC ([X, Y], M) c) ∧ Hid (Own wr (w.heap.size + 1 + 1) wr.heap.size 78 18 (some ⟨g8, 0, none⟩) (k + 1) c8 (bcs (ins l ([X, Y], M) j))) ∧ Hid (Below w.heap.size w wr)) (fun i _ => (intOf i).toNat)
        case atStart => exact ⟨k, Nat.le_refl _, by go_num, Lib.hid (fun c hc => by rw [List.drop_of_length_le (by have := HL.out; omega)] at hc; cases hc), Lib.hid L8.out.1, Lib.hid L8.out.2⟩
        case round =>
          clear L8
          obtain ⟨j, hjk, rfl, HUP, HO, HB⟩ := hrel
          cases j with
          | zero =>
            have HFIN : Hid (Added l [X, Y] M (ins l ([X, Y], M) 0)) := Lib.hid (added_ins HP.out rfl HM.out HM16.out HNE.out HNO2.out (Nat.zero_le _) HUP.out (fun h => by omega))
            have HLEN : Hid ((ins l ([X, Y], M) 0).length = k + 1) := Lib.hid (by rw [ins_length (Nat.zero_le _), HL.out])
            clear HUP HNO2
            go_wp2_with fail
            refine region_after (by kernel_rfl) (by kernel_rfl) ?_
            repeat (go_big_quiet_step (fail))
            refine wpQuiet_nil ?_
            rintro _ ⟨t, rfl⟩
            go_wp2
            go_ret
            exact ⟨some ⟨g8, 0, none⟩, c8, _, by rw [HLEN.out]; rfl, HFIN.out, .inr (by rw [HLEN.out]; exact ((HO.out.below t.h (Nat.le_refl _)).more t.h.size).less (by omega)), HB.out.trans (t.h.mono HB.out.size)⟩
          | succ q =>
            have hql : q < l.length := by have := HL.out; omega
            have hIl := ins_length (l := l) (b := ([X, Y], M)) (j := q + 1) (by omega)
            have hIb := ins_bls (b := ([X, Y], M)) HP.out.bls HBB.out (q + 1)
            have hA1 := own_corner HO.out hIb (k := q + 1) (by omega)
            rw [ins_at (by omega)] at hA1
            have hA0 := own_corner HO.out hIb (k := q) (by omega)
            rw [ins_before hql] at hA0
            have hb0 := own_block HO.out hIb (k := q) (by omega)
            rw [ins_before hql] at hb0
            have hb1 := own_block HO.out hIb (k := q + 1) (by omega)
            rw [ins_at (by omega)] at hb1
            have hs1 := bcs_set_whole (b := l[q]) hIb (k := q + 1) (by omega) (HP.out.bls.at_ hql)
            have hs1b : Bls ((ins l ([X, Y], M) (q + 1)).set (q + 1) l[q]) := fun c hc => by
              rcases List.mem_or_eq_of_mem_set hc with h | rfl
              · exact hIb c h
              · exact HP.out.bls.at_ hql
            have hs2 := bcs_set_whole (b := ([X, Y], M)) hs1b (k := q) (by rw [List.length_set]; omega) HBB.out
            rw [ins_swap hql] at hs2
            have hne := HNO2.out l[q] (List.getElem_mem hql)
            have hlt := befB_iff ([X, Y], M) l[q]
            have hbe : befB ([X, Y], M) l[q] = decide (cmpC X Y ((l[q]).1.getD 0 0) ((l[q]).1.getD 1 0) < 0) := rfl
            have htot : ¬ ltC ([X, Y], M) l[q] → ltC l[q] ([X, Y], M) := fun h => by
              have h2 := two_of (HP.out.bls.at_ hql).1
              unfold ltC at *
              simp only [List.getD_cons_zero, List.getD_cons_succ] at *
              have : ¬ ((l[q]).1.getD 0 0 = X ∧ (l[q]).1.getD 1 0 = Y) := fun ⟨e1, e2⟩ => hne (by rw [h2, e1, e2])
              omega
            have hup : ltC ([X, Y], M) l[q] → ∀ c ∈ l.drop q, ltC ([X, Y], M) c := fun h c hc => by
              rw [List.drop_eq_getElem_cons hql] at hc
              rcases List.mem_cons.1 hc with rfl | hc
              · exact h
              · exact HUP.out c hc
            have hfin : ¬ ltC ([X, Y], M) l[q] → Added l [X, Y] M (ins l ([X, Y], M) (q + 1)) := fun h => added_ins HP.out rfl HM.out HM16.out HNE.out HNO2.out (by omega) HUP.out (fun _ => by
              simp only [Nat.add_sub_cancel]
              exact htot h)
            obtain ⟨⟨C, F⟩, hF⟩ : ∃ F, F = l[q] := ⟨_, rfl⟩
            have hC2 := HP.out.bls.at_ hql
            rw [← hF] at hA0 hb0 hs1 hs2 hlt hbe hup hfin hC2
            obtain ⟨P, Q, rfl⟩ : ∃ P Q, C = [P, Q] := ⟨_, _, two_of hC2.1⟩
            have rA1 : wr.rangeAt g8 ((q + 1) * 18) [.int .i32 X, .int .i32 Y] := hA1
            have rA0 : wr.rangeAt g8 (q * 18) [.int .i32 P, .int .i32 Q] := hA0
            have hgw : g8 < wr.heap.size := HO.out.blk_.2
            have tA1 : ∀ t : After wr, rowAt t.to g8 ((q + 1) * 18) 2 = #[.int .i32 X, .int .i32 Y] := fun t => (t.row hgw rA1).1
            have tB1 : ∀ t : After wr, hasRow t.to g8 ((q + 1) * 18) 2 = true := fun t => (t.row hgw rA1).2
            have tA0 : ∀ t : After wr, rowAt t.to g8 (q * 18) 2 = #[.int .i32 P, .int .i32 Q] := fun t => (t.row hgw rA0).1
            have tB0 : ∀ t : After wr, hasRow t.to g8 (q * 18) 2 = true := fun t => (t.row hgw rA0).2
            have HCB := Lib.hid (fun W => l07Before_any X Y P Q W)
            have hbe' : befB ([X, Y], M) ([P, Q], F) = decide (cmpC X Y P Q < 0) := hbe
            have hq0 : (0 : Int) ≤ q := by omega
            have hqk : (q : Int) + 1 < (k : Int) + 1 := by omega
            have HB0 := Lib.hid hb0
            have HB1 := Lib.hid hb1
            have HS1 := Lib.hid hs1
            have HS2 := Lib.hid hs2
            have HUPQ := Lib.hid hup
            have HFINQ := Lib.hid hfin
            have HLT := Lib.hid hlt
            have HC2 := Lib.hid hC2
            have HIL := Lib.hid hIl
            clear hIl hIb hA1 hA0 hb0 hb1 hs1 hs1b hs2 hne hlt hbe htot hup hfin hF hC2 rA1 rA0 HUP
            have hcb := HCB.out
            cases hbf : decide (cmpC X Y P Q < 0)
            · rw [hbf] at hcb hbe'
              have HF2 := Lib.hid (HFINQ.out (fun h => by have := HLT.out.2 h; rw [hbe'] at this; cases this))
              clear hbf hbe' HLT HFINQ HUPQ HS1 HS2 HB0 HB1 HCB
              go_wp2_with fail
              refine region_after (by kernel_rfl) (by kernel_rfl) ?_
              repeat (go_big_quiet_step (first | (go_at_call 88; exact After.call _ (hcb _))))
              refine wpQuiet_nil ?_
              rintro _ ⟨t, rfl⟩
              go_wp2
              go_ret
              exact ⟨some ⟨g8, 0, none⟩, c8, _, by rw [HIL.out, HL.out]; rfl, HF2.out, .inr (by rw [HIL.out, HL.out]; exact ((HO.out.below t.h (Nat.le_refl _)).more t.h.size).less (by omega)), HB.out.trans (t.h.mono HB.out.size)⟩
            · rw [hbf] at hcb hbe'
              have HU2 := Lib.hid (HUPQ.out (HLT.out.1 hbe'))
              clear hbf hbe' HLT HFINQ HUPQ HCB
              go_wp2_with fail
              refine region_after (by kernel_rfl) (by kernel_rfl) ?_
              repeat (go_big_quiet_step (first | (go_at_call 88; exact After.call _ (hcb _))))
              refine wpQuiet_nil ?_
              rintro _ ⟨t, rfl⟩
              have HOT := Lib.hid ((HO.out.below t.h (Nat.le_refl _)).more t.h.size)
              have HBT := Lib.hid (HB.out.trans (t.h.mono HB.out.size))
              have HRA := Lib.hid (range_of_below HB1.out t.h hgw)
              have HRB := Lib.hid (range_of_below HB0.out t.h hgw)
              clear tA1 tB1 tA0 tB0 HO HB HB0 HB1 hgw hcb
              generalize t.to = w6 at *
              clear t
              have hz6 : w.heap.size + 1 + 1 ≤ w6.heap.size := by have := HOT.out.blk_; omega
              have HBS : Hid ((bav ([X, Y], M)).size = 18) := Lib.hid (bav_size (b := ([X, Y], M)) HBB.out)
              have HBS2 : Hid ((bav ([P, Q], F)).size = 18) := Lib.hid (bav_size (b := ([P, Q], F)) HC2.out)
              have HBZ : Hid ((bav (zr2, zr16)).size = 18) := Lib.hid rfl
              have HBL : Hid ((bvs ([X, Y], M)).length = 18) := Lib.hid (bvs_length (b := ([X, Y], M)) HBB.out)
              have HBL2 : Hid ((bvs ([P, Q], F)).length = 18) := Lib.hid (bvs_length (b := ([P, Q], F)) HC2.out)
              go_wp2_with (first
                | refine wpList_load_mid rfl _ _ rfl g8 ((q + 1) * 18) (by rfl) (bvs ([X, Y], M)) _ HRA.out Try.underlying78 rfl (by rw [HBL.out]; exact size78) ?_
                | (refine wpList_store_row rfl _ _ _ rfl w6.heap.size (bav ([X, Y], M)) rfl rfl 78 (bav (zr2, zr16)) (Blk.newAt rfl rfl) (by rw [HBS.out]; exact size78) (by rw [HBS.out, HBZ.out]) (bav_one _) ?_; generalize hw7 : World.setRow _ _ _ = w7; have G7 : Hid (Blk w7 w6.heap.size 78 (bav ([X, Y], M))) := Lib.hid (by rw [← hw7]; exact (Blk.newAt rfl rfl).row _); have B7r : Hid (Below w6.heap.size w6 w7) := Lib.hid (by rw [← hw7]; exact below_setRow ((Below.refl _ _).alloc (Nat.le_refl _) _) (g := w6.heap.size) (Nat.le_refl _) _); have O7 := Lib.hid ((HOT.out.below B7r.out (Nat.le_refl _)).more B7r.out.size); have B7 := Lib.hid (HBT.out.trans (B7r.out.mono HBT.out.size)); have HR7 := Lib.hid (range_of_below HRB.out B7r.out HOT.out.blk_.2); have HGN : Hid (w6.heap.size ≠ g8) := Lib.hid (by have := HOT.out.blk_; omega); clear hw7)
                | refine wpList_load_mid rfl _ _ rfl g8 (q * 18) (by rfl) (bvs ([P, Q], F)) _ HR7.out Try.underlying78 rfl (by rw [HBL2.out]; exact size78) ?_
                | (refine wpList_store_mid rfl _ _ _ rfl g8 ((q + 1) * 18) (bav ([P, Q], F)) (by rfl) rfl (by rw [HBS2.out]; exact O7.out.thereC _ 18 (by omega)) (by rw [HBS2.out]; exact size78) (bav_one _) ?_; rw [bav_toList]; have O8 := Lib.hid (O7.out.setAllC (bvs ([P, Q], F)) ((q + 1) * 18)); have B8 := Lib.hid (below_setCells (g := g8) (by have := O7.out.blk_; omega) (bvs ([P, Q], F)) ((q + 1) * 18) B7.out); have G8 := Lib.hid (Blk.setCells_far HGN.out (bvs ([P, Q], F)) ((q + 1) * 18) G7.out); have Z8 : Hid ((w7.setCells g8 ((q + 1) * 18) (bvs ([P, Q], F))).heap.size = w7.heap.size) := Lib.hid (size_cells _ _ _ _); generalize w7.setCells g8 ((q + 1) * 18) (bvs ([P, Q], F)) = w8 at *)
                | refine wpList_load_row rfl _ _ rfl w6.heap.size rfl 78 (bav ([X, Y], M)) (0, 0) _ G8.out Try.underlying78 rfl (by rw [HBS.out]; exact size78) ?_
                | (refine wpList_store_mid rfl _ _ _ rfl g8 (q * 18) (bav ([X, Y], M)) (by rfl) rfl (by rw [HBS.out]; exact O8.out.thereC _ 18 (by omega)) (by rw [HBS.out]; exact size78) (bav_one _) ?_; rw [bav_toList]; have O9 := Lib.hid (O8.out.setAllC (bvs ([X, Y], M)) (q * 18)); have B9 := Lib.hid (below_setCells (g := g8) (by have := O7.out.blk_; omega) (bvs ([X, Y], M)) (q * 18) B8.out); have Z9 : Hid ((w8.setCells g8 (q * 18) (bvs ([X, Y], M))).heap.size = w8.heap.size) := Lib.hid (size_cells _ _ _ _); generalize w8.setCells g8 (q * 18) (bvs ([X, Y], M)) = w9 at *))
              have h9 := O9.out
              rw [HS1.out, HS2.out] at h9
              exact ⟨⟨q, by omega, by go_num, HU2, Lib.hid (by rw [Z9.out, Z8.out]; exact h9), B9⟩, by simp [intOf]⟩
  · have HZ : Hid (M = zr16) := Lib.hid (emptyM_iff.1 hem)
    rw [hem] at HE
    clear hem
    go_enter Try.func63, Try.ntmps63
    go_wp2_with (first
      | (go_at_call 86; refine HE.out.mono ?_; rintro e w2 ⟨rfl, rfl⟩))
    go_ret
    exact ⟨A, c, l, by rw [HL.out]; rfl, by rw [HZ.out]; exact added_void HP.out _, .inl ⟨rfl, rfl, rfl⟩, B1.out⟩
end
/-- of a list that the caller owns comes one that it owns -/
theorem l07Add_own (A : Option Addr) (n c : Nat) (l : List Bl) (hl : l.length = n) (hp : Pic l) (hn : n ≤ 1048576) (X Y : Int) (M : List Int) (hM : M.length = 16) (h16 : is16 M) (lo : Nat) (w : World) (hlo : lo ≤ w.heap.size) (hO : Own w lo w.heap.size 78 18 A n c (bcs l)) :
    Calls Try.prog 63 #[.slice A n c, .agg #[.int .i32 X, .int .i32 Y], .agg (ivs .u16 M)] w fun e w' => ∃ A' c' l', e = .returned (.slice A' l'.length c') ∧ Added l [X, Y] M l' ∧ Own w' lo w'.heap.size 78 18 A' l'.length c' (bcs l') ∧ Below w.heap.size w w' := by
  refine (l07Add_any A n c l hl hp hn X Y M hM h16 w hO.rd).mono ?_
  rintro e w' ⟨A', c', l', he, ha, ho, hb⟩
  refine ⟨A', c', l', he, ha, ?_, hb⟩
  rcases ho with ⟨rfl, rfl, rfl⟩ | ho
  · subst hl
    exact (hO.below hb (Nat.le_refl _)).more hb.size
  · exact ho.less hlo
end Go.Proofs.Ytmagaapdijapiaa
namespace Go.Proofs.Ytmagaapdijapiaa
open Go.ChangeShapes Go.WideShapes Go.ChangeAt Go.RowKit
section
attribute [local go_sem ↓] exec_ldCorner exec_ldMask
attribute [local go_sem] run_ldCorner run_ldMask
end
end Go.Proofs.Ytmagaapdijapiaa
namespace Go.Proofs.Ytmagaapdijapiaa
open Go.ChangeShapes Go.WideShapes Go.ChangeAt Go.RowKit
end Go.Proofs.Ytmagaapdijapiaa
namespace Go.Proofs.Ytmagaapdijapiaa
open Go.ChangeShapes Go.WideShapes Go.ChangeAt Go.RowKit
theorem pvs_cells {l : List (List Int)} (h : Rows_ 2 l) {k : Nat} (hk : k < l.length) {w : World} {B b o n : Nat} (hR : Rd w B 2 (some ⟨b, o, none⟩) n (pvs l)) (hn : n = l.length) {x y : Int} (he : l[k] = [x, y]) : w.cell? ⟨b, o + k * 2, none⟩ = some (.int .i32 x) ∧ w.cell? ⟨b, o + k * 2 + 1, none⟩ = some (.int .i32 y) := by
  obtain ⟨b', o', he', hb, hc⟩ := hR.at_ (by omega)
  cases he'
  have h2 := Rd.rangeAt (i := k * 2) (s := 2) hc
  rw [pvs, ← List.map_drop, ← List.map_take, flat_row h hk, he] at h2
  exact ⟨h2 0 _ rfl, h2 1 _ rfl⟩
theorem Rising.nodup_take {l : List Bl} (h : Rising l) (k : Nat) (hk : k < (specC l).length) : (specC l)[k] ∉ (specC l).take k := fun hm => by
  obtain ⟨j, hj, he⟩ := List.getElem_of_mem hm
  rw [List.length_take] at hj
  rw [List.getElem_take] at he
  have := List.pairwise_iff_getElem.1 (spec_nodup h) j k (by omega) hk (by omega)
  exact this he
end Go.Proofs.Ytmagaapdijapiaa
namespace Go.Proofs.Ytmagaapdijapiaa
open Go.ChangeShapes Go.WideShapes Go.ChangeAt Go.RowKit
/-- the steps lie where the program's start has laid them -/
def Laid8 (w : World) : Prop := w.rangeAt 0 0 (pvs stepsL)
theorem Laid8.pos {w : World} (h : Laid8 w) : 0 < w.heap.size := by
  have h1 : w.cell? ⟨0, 0, none⟩ = some (.int .i32 1) := h 0 _ rfl
  rcases Nat.lt_or_ge 0 w.heap.size with h2 | h2
  · exact h2
  · simp [World.cell?, Array.getElem?_eq_none h2] at h1
theorem Laid8.below {w w' : World} (h : Laid8 w) (hb : Below w.heap.size w w') : Laid8 w' := range_below h hb h.pos
theorem Laid8.at_ {w : World} (h : Laid8 w) {j : Nat} (hj : j < 8) : w.rangeAt 0 (j * 2) [.int .i32 (stepX j), .int .i32 (stepY j)] := by
  have h2 : w.rangeAt 0 (0 + j * 2) (((pvs stepsL).drop (j * 2)).take 2) := Rd.rangeAt (i := j * 2) (s := 2) h
  rw [pvs, ← List.map_drop, ← List.map_take, flat_row steps_rows hj, step_at hj, Nat.zero_add] at h2
  exact h2
theorem pvs_row2 {l : List (List Int)} (h : Rows_ 2 l) {k : Nat} (hk : k < l.length) {w : World} {B b o n : Nat} (hR : Rd w B 2 (some ⟨b, o, none⟩) n (pvs l)) (hn : n = l.length) : w.rangeAt b (o + k * 2) ((l[k]).map (.int .i32)) := by
  obtain ⟨b', o', he, hb, hc⟩ := hR.at_ (by omega)
  cases he
  have h2 := Rd.rangeAt (i := k * 2) (s := 2) hc
  rw [pvs, ← List.map_drop, ← List.map_take, flat_row h hk] at h2
  exact h2
end Go.Proofs.Ytmagaapdijapiaa
