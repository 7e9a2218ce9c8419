/- Pictures are known by their masks. No program in sight. -/
import Derived.Test.YtmagaapdijapiaaDoorRows
import Derived.Test.YtmagaapdijapiaaDoorTb
namespace Go.Proofs.YtmagaapdijapiaaDoor
open Go.ChangeShapes Go.WideShapes Go.ChangeAt Go.RowKit
theorem maskAt_nil (key : List Int) : maskAt [] key = zr16 := rfl
theorem maskAt_cons (b : Bl) (l : List Bl) (key : List Int) : maskAt (b :: l) key = if key = b.1 then b.2 else maskAt l key := by
  rw [maskAt, List.find?_cons]
  by_cases h : key = b.1
  · rw [if_pos h, beq_iff_eq.2 h]
  · rw [if_neg h, beq_eq_false_iff_ne.2 h]
    rfl
theorem maskAt_append (l m : List Bl) (key : List Int) : (∀ b ∈ l, key ≠ b.1) → maskAt (l ++ m) key = maskAt m key := by
  induction l with
  | nil => intro _; rfl
  | cons b l ih =>
    intro h
    rw [List.cons_append, maskAt_cons, if_neg (h b (List.mem_cons_self ..)), ih (fun c hc => h c (List.mem_cons_of_mem _ hc))]
theorem maskAt_left {l m : List Bl} {key : List Int} : (∃ b ∈ l, key = b.1) → maskAt (l ++ m) key = maskAt l key := by
  induction l with
  | nil => rintro ⟨b, hb, _⟩; cases hb
  | cons b l ih =>
    rintro ⟨c, hc, he⟩
    rw [List.cons_append, maskAt_cons, maskAt_cons]
    by_cases h : key = b.1
    · rw [if_pos h, if_pos h]
    · rw [if_neg h, if_neg h]
      rcases List.mem_cons.1 hc with rfl | hc
      · exact absurd he h
      · exact ih ⟨c, hc, he⟩
/-- a list of blocks that are apart holds a block just where its mask is told -/
theorem maskAt_of_mem {l : List Bl} (h : Apart l) {b : Bl} (hb : b ∈ l) : maskAt l b.1 = b.2 := by
  induction l with
  | nil => cases hb
  | cons a l ih =>
    have h1 := List.pairwise_cons.1 h
    rw [maskAt_cons]
    rcases List.mem_cons.1 hb with rfl | hb
    · rw [if_pos rfl]
    · rw [if_neg (fun e => h1.1 b hb e.symm), ih h1.2 hb]
theorem mem_of_maskAt {l : List Bl} {key : List Int} (h : maskAt l key ≠ zr16) : (key, maskAt l key) ∈ l := by
  induction l with
  | nil => exact absurd rfl h
  | cons a l ih =>
    rw [maskAt_cons] at h ⊢
    by_cases e : key = a.1
    · rw [if_pos e] at h ⊢
      subst e
      exact List.mem_cons_self ..
    · rw [if_neg e] at h ⊢
      exact List.mem_cons_of_mem _ (ih h)
def NoVoid (l : List Bl) : Prop := ∀ b ∈ l, b.2 ≠ zr16
theorem mem_iff_mask {l : List Bl} (h : Apart l) (hn : NoVoid l) (b : Bl) : b ∈ l ↔ (b.2 ≠ zr16 ∧ maskAt l b.1 = b.2) := by
  refine ⟨fun hb => ⟨hn b hb, maskAt_of_mem h hb⟩, fun ⟨h1, h2⟩ => ?_⟩
  have := mem_of_maskAt (l := l) (key := b.1) (by rw [h2]; exact h1)
  rwa [h2] at this
theorem ltC_irrefl {a : Bl} : ¬ ltC a a := by
  unfold ltC
  omega
theorem rising_ext : ∀ {l m : List Bl}, Rising l → Rising m → (∀ b, b ∈ l ↔ b ∈ m) → l = m
  | [], [], _, _, _ => rfl
  | [], b :: m, _, _, h => by have := (h b).2 (List.mem_cons_self ..); cases this
  | a :: l, [], _, _, h => by have := (h a).1 (List.mem_cons_self ..); cases this
  | a :: l, b :: m, hl, hm, h => by
    have hl1 := List.pairwise_cons.1 hl
    have hm1 := List.pairwise_cons.1 hm
    have hab : a = b := by
      rcases List.mem_cons.1 ((h a).1 (List.mem_cons_self ..)) with e | ha
      · exact e
      · rcases List.mem_cons.1 ((h b).2 (List.mem_cons_self ..)) with e | hb
        · exact e.symm
        · exact absurd (ltC_trans (hl1.1 b hb) (hm1.1 a ha)) ltC_irrefl
    subst hab
    rw [rising_ext hl1.2 hm1.2 (fun c => ⟨fun hc => by
      rcases List.mem_cons.1 ((h c).1 (List.mem_cons_of_mem _ hc)) with rfl | hc'
      · exact absurd (hl1.1 _ hc) ltC_irrefl
      · exact hc', fun hc => by
      rcases List.mem_cons.1 ((h c).2 (List.mem_cons_of_mem _ hc)) with rfl | hc'
      · exact absurd (hm1.1 _ hc) ltC_irrefl
      · exact hc'⟩)]
/-- pictures are known by their masks -/
theorem pic_ext {l m : List Bl} (hl : Rising l) (hm : Rising m) (nl : NoVoid l) (nm : NoVoid m) (h : ∀ key, maskAt l key = maskAt m key) : l = m :=
  rising_ext hl hm fun b => by rw [mem_iff_mask (apart_of_rising hl) nl, mem_iff_mask (apart_of_rising hm) nm, h]
/-! ### a block that is put in -/
theorem ins_rising {l : List Bl} (h : Rising l) {b : Bl} {k : Nat} (hk : k ≤ l.length) (h1 : ∀ c ∈ l.drop k, ltC b c) (h2 : ∀ (h0 : 0 < k), ltC (l[k - 1]'(by omega)) b) : Rising (l.take k ++ b :: l.drop k) := by
  have hs : Rising (l.take k ++ l.drop k) := by rw [List.take_append_drop]; exact h
  obtain ⟨s1, s2, s3⟩ := List.pairwise_append.1 hs
  have hlow : ∀ c ∈ l.take k, ltC c b := fun c hc => by
    have hk0 : 0 < k := by
      rcases Nat.eq_zero_or_pos k with rfl | h0
      · simp at hc
      · exact h0
    obtain ⟨i, hi, rfl⟩ := List.getElem_of_mem hc
    rw [List.length_take] at hi
    rw [List.getElem_take]
    by_cases he : i = k - 1
    · subst he
      exact h2 hk0
    · exact ltC_trans (List.pairwise_iff_getElem.1 h i (k - 1) (by omega) (by omega) (by omega)) (h2 hk0)
  refine List.pairwise_append.2 ⟨s1, List.pairwise_cons.2 ⟨h1, s2⟩, fun c hc d hd => ?_⟩
  rcases List.mem_cons.1 hd with rfl | hd
  · exact hlow c hc
  · exact s3 c hc d hd
theorem ins_mask {l : List Bl} {b : Bl} {k : Nat} (hno : ∀ c ∈ l, b.1 ≠ c.1) (key : List Int) : maskAt (l.take k ++ b :: l.drop k) key = if key = b.1 then b.2 else maskAt l key := by
  by_cases he : key = b.1
  · subst he
    rw [if_pos rfl, maskAt_append _ _ _ (fun c hc => hno c (List.mem_of_mem_take hc)), maskAt_cons, if_pos rfl]
  · rw [if_neg he]
    have e : maskAt l key = maskAt (l.take k ++ l.drop k) key := by rw [List.take_append_drop]
    rw [e]
    by_cases hx : ∃ c ∈ l.take k, key = c.1
    · rw [maskAt_left hx, maskAt_left hx]
    · rw [maskAt_append _ _ _ (fun c hc h => hx ⟨c, hc, h⟩), maskAt_append _ _ _ (fun c hc h => hx ⟨c, hc, h⟩), maskAt_cons, if_neg he]
theorem set_mask {l : List Bl} (h : Apart l) {i : Nat} (hi : i < l.length) (m : List Int) (key : List Int) : maskAt (l.set i (l[i].1, m)) key = if key = l[i].1 then m else maskAt l key := by
  induction l generalizing i with
  | nil => simp at hi
  | cons a l ih =>
    have h1 := List.pairwise_cons.1 h
    cases i with
    | zero =>
      simp only [List.set_cons_zero, List.getElem_cons_zero]
      rw [maskAt_cons, maskAt_cons]
      by_cases e : key = a.1
      · simp [e]
      · simp [e]
    | succ i =>
      simp only [List.set_cons_succ, List.getElem_cons_succ]
      rw [maskAt_cons, maskAt_cons, ih h1.2 (by simpa using hi)]
      by_cases e : key = a.1
      · have hne : ¬ a.1 = (l[i]'(by simpa using hi)).1 := h1.1 _ (List.getElem_mem _)
        subst e
        rw [if_pos rfl, if_neg hne, if_pos rfl]
      · rw [if_neg e, if_neg e]
theorem set_keys {l : List Bl} {i : Nat} (hi : i < l.length) (m : List Int) : (l.set i (l[i].1, m)).map (·.1) = l.map (·.1) := by
  rw [List.map_set]
  apply List.ext_getElem?
  intro j
  rw [List.getElem?_set]
  by_cases hj : i = j
  · subst hj
    simp [hi]
  · rw [if_neg hj]
theorem rising_keys {l m : List Bl} (h : Rising l) (hk : m.map (·.1) = l.map (·.1)) : Rising m := by
  have e : ∀ l : List Bl, Rising l ↔ (l.map (·.1)).Pairwise (fun a b => ltC (a, []) (b, [])) := fun l => by
    rw [List.pairwise_map]
    exact Iff.rfl
  rw [e] at h ⊢
  rwa [hk]
theorem apart_keys {l m : List Bl} (h : Apart l) (hk : m.map (·.1) = l.map (·.1)) : Apart m := by
  have e : ∀ l : List Bl, Apart l ↔ (l.map (·.1)).Pairwise (fun a b => a ≠ b) := fun l => by
    rw [List.pairwise_map]
    exact Iff.rfl
  rw [e] at h ⊢
  rwa [hk]
theorem apart_perm {l m : List Bl} (h : Apart l) (hp : m.Perm l) : Apart m := (hp.pairwise_iff (fun h e => h e.symm)).2 h
/-- what is sorted and apart rises -/
theorem rising_of_sorted {m : List Bl} (hb : Bls m) (ha : Apart m) (hs : m.Pairwise fun x y => ¬ ltC y x) : Rising m := by
  have h2 := ha.and hs
  refine List.Pairwise.imp_of_mem ?_ h2
  intro a b ham hbm ⟨hne, hlt⟩
  have e1 := two_of (hb a ham).1
  have e2 := two_of (hb b hbm).1
  unfold ltC at *
  have : ¬ (a.1.getD 0 0 = b.1.getD 0 0 ∧ a.1.getD 1 0 = b.1.getD 1 0) := fun ⟨x, y⟩ => hne (by rw [e1, e2, x, y])
  omega
theorem maskAt_perm {l m : List Bl} (h : Apart l) (hp : m.Perm l) (key : List Int) : maskAt m key = maskAt l key := by
  have hm := apart_perm h hp
  by_cases hx : ∃ b ∈ l, key = b.1
  · obtain ⟨b, hb, rfl⟩ := hx
    rw [maskAt_of_mem h hb, maskAt_of_mem hm (hp.mem_iff.2 hb)]
  · rw [maskAt_no (fun b hb e => hx ⟨b, hb, e⟩), maskAt_no (fun b hb e => hx ⟨b, hp.mem_iff.1 hb, e⟩)]
/-- the blocks with cells -/
def solid (l : List Bl) : List Bl := l.filter fun b => decide (b.2 ≠ zr16)
theorem maskAt_solid {l : List Bl} (h : Apart l) (key : List Int) : maskAt (solid l) key = maskAt l key := by
  induction l with
  | nil => rfl
  | cons b l ih =>
    have h1 := List.pairwise_cons.1 h
    have ih' := ih h1.2
    rw [solid, List.filter_cons, maskAt_cons]
    by_cases hb : b.2 = zr16
    · rw [if_neg (by simp [hb])]
      by_cases e : key = b.1
      · subst e
        rw [if_pos rfl, hb]
        exact maskAt_no fun c hc => h1.1 c (List.mem_filter.1 hc).1
      · rw [if_neg e]
        exact ih'
    · rw [if_pos (by simp [hb]), maskAt_cons]
      split
      · rfl
      · exact ih'
theorem solid_apart {l : List Bl} (h : Apart l) : Apart (solid l) := List.Pairwise.sublist (List.filter_sublist) h
theorem solid_noVoid (l : List Bl) : NoVoid (solid l) := fun b hb => by
  have := (List.mem_filter.1 hb).2
  exact of_decide_eq_true this
theorem solid_bls {l : List Bl} (h : Bls l) : Bls (solid l) := fun b hb => h b (List.mem_filter.1 hb).1
end Go.Proofs.YtmagaapdijapiaaDoor
