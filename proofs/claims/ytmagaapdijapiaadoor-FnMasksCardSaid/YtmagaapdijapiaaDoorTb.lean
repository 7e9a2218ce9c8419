/- The cells of a picture, row by row. No program in sight. -/
import Derived.Test.YtmagaapdijapiaaDoorRows
import Derived.Test.YtmagaapdijapiaaDoorMr
namespace Go.Proofs.YtmagaapdijapiaaDoor
open Go.ChangeShapes Go.WideShapes Go.ChangeAt Go.RowKit
/-- cells in order -/
def ltL (a b : List Int) : Prop := a.getD 1 0 < b.getD 1 0 ∨ (a.getD 1 0 = b.getD 1 0 ∧ a.getD 0 0 < b.getD 0 0)
def cellL (b : Bl) (y x : Nat) : List Int := [16 * b.1.getD 0 0 + x, 16 * b.1.getD 1 0 + y]
def rowTo (b : Bl) (y n : Nat) : List (List Int) := ((List.range n).filter fun x => bitB b.2 x y).map (cellL b y)
def rowC (b : Bl) (y : Nat) : List (List Int) := rowTo b y 16
theorem rowTo_yes {b : Bl} {y x : Nat} (h : bitB b.2 x y = true) : rowTo b y (x + 1) = rowTo b y x ++ [cellL b y x] := by
  simp [rowTo, List.range_succ, List.filter_append, h]
theorem rowTo_no {b : Bl} {y x : Nat} (h : bitB b.2 x y = false) : rowTo b y (x + 1) = rowTo b y x := by
  simp [rowTo, List.range_succ, List.filter_append, h]
theorem cells_row (b : Bl) (y : Nat) : ∀ x, x ≤ 16 → (cellsTo b.2 (16 * y + x)).map (mv (b.1.getD 0 0) (b.1.getD 1 0)) = (cellsTo b.2 (16 * y)).map (mv (b.1.getD 0 0) (b.1.getD 1 0)) ++ rowTo b y x
  | 0, _ => by simp [rowTo]
  | x + 1, hx => by
    have ih := cells_row b y x (by omega)
    rw [← Nat.add_assoc]
    cases h : bitB b.2 x y
    · rw [cellsTo_no (by omega) h, rowTo_no h, ih]
    · rw [cellsTo_yes (by omega) h, rowTo_yes h, List.map_append, ih, List.append_assoc]
      congr 2
      simp only [mv, cellL, List.map_cons, List.map_nil, List.getD_cons_zero, List.getD_cons_succ]
      rw [Int.add_comm, Int.add_comm (y : Int)]
theorem cells_rows (b : Bl) : ∀ y, (cellsTo b.2 (16 * y)).map (mv (b.1.getD 0 0) (b.1.getD 1 0)) = (List.range y).flatMap (rowC b)
  | 0 => by simp [cellsTo]
  | y + 1 => by
    rw [show 16 * (y + 1) = 16 * y + 16 from rfl, cells_row b y 16 (Nat.le_refl _), cells_rows b y, List.range_succ, List.flatMap_append]
    simp [rowC]
theorem bCells_flat (b : Bl) : bCells b = (List.range 16).flatMap (rowC b) := cells_rows b 16
theorem flat_add {α β : Type} (f g : α → List β) : ∀ l : List α, (l.flatMap f ++ l.flatMap g).Perm (l.flatMap fun a => f a ++ g a)
  | [] => by simp
  | a :: l => by
    simp only [List.flatMap_cons, List.append_assoc]
    refine List.Perm.append_left _ ?_
    refine (List.perm_append_comm_assoc ..).trans ?_
    exact List.Perm.append_left _ (flat_add f g l)
theorem flat_two {α β γ : Type} (f : α → β → List γ) (m : List β) : ∀ l : List α, (l.flatMap fun a => m.flatMap (f a)).Perm (m.flatMap fun b => l.flatMap fun a => f a b)
  | [] => by simp
  | a :: l => by
    simp only [List.flatMap_cons]
    exact (List.Perm.append_left _ (flat_two f m l)).trans (flat_add _ _ m)
def grpC (g : List Bl) : List (List Int) := (List.range 16).flatMap fun y => g.flatMap (rowC · y)
theorem grp_perm (g : List Bl) : (grpC g).Perm (g.flatMap bCells) := by
  have : g.flatMap bCells = g.flatMap fun b => (List.range 16).flatMap (rowC b) := by
    congr 1
    funext b
    exact bCells_flat b
  rw [this]
  exact (flat_two (fun b y => rowC b y) (List.range 16) g).symm
def sameR (b c : Bl) : Bool := decide (c.1.getD 1 0 = b.1.getD 1 0)
theorem drop_len {α : Type} (p : α → Bool) : ∀ l : List α, (l.dropWhile p).length ≤ l.length
  | [] => Nat.le_refl _
  | a :: l => by
    rw [List.dropWhile_cons]
    split
    · exact Nat.le_succ_of_le (drop_len p l)
    · exact Nat.le_refl _
def specC : List Bl → List (List Int)
  | [] => []
  | b :: r => grpC (b :: r.takeWhile (sameR b)) ++ specC (r.dropWhile (sameR b))
termination_by l => l.length
decreasing_by exact Nat.lt_succ_of_le (drop_len _ _)
theorem specC_nil : specC [] = [] := by rw [specC]
theorem specC_cons (b : Bl) (r : List Bl) : specC (b :: r) = grpC (b :: r.takeWhile (sameR b)) ++ specC (r.dropWhile (sameR b)) := by rw [specC]
theorem specC_perm : ∀ (n : Nat) (l : List Bl), l.length ≤ n → (specC l).Perm (l.flatMap bCells)
  | _, [], _ => by rw [specC_nil]; simp
  | n + 1, b :: r, h => by
    rw [specC_cons]
    have e : b :: r = (b :: r.takeWhile (sameR b)) ++ r.dropWhile (sameR b) := by rw [List.cons_append, List.takeWhile_append_dropWhile]
    rw [e, List.flatMap_append]
    refine (grp_perm _).append (specC_perm n _ ?_)
    have := drop_len (sameR b) r
    simp at h
    omega
theorem rowC_in {b : Bl} {y n : Nat} {c : List Int} (h : c ∈ rowTo b y n) : ∃ x, x < n ∧ c = cellL b y x := by
  obtain ⟨x, hx, rfl⟩ := List.mem_map.1 h
  exact ⟨x, List.mem_range.1 (List.mem_filter.1 hx).1, rfl⟩
theorem rowC_sorted (b : Bl) (y n : Nat) : (rowTo b y n).Pairwise ltL := by
  rw [rowTo, List.pairwise_map]
  refine List.Pairwise.imp ?_ ((List.pairwise_lt_range (n := n)).filter _)
  intro i j h
  refine .inr ⟨rfl, ?_⟩
  simp only [cellL, List.getD_cons_zero]
  omega
theorem grp_in {g : List Bl} {c : List Int} (h : c ∈ grpC g) : ∃ y b x, y < 16 ∧ b ∈ g ∧ x < 16 ∧ c = cellL b y x := by
  obtain ⟨y, hy, h1⟩ := List.mem_flatMap.1 h
  obtain ⟨b, hb, h2⟩ := List.mem_flatMap.1 h1
  obtain ⟨x, hx, rfl⟩ := rowC_in h2
  exact ⟨y, b, x, List.mem_range.1 hy, hb, hx, rfl⟩
theorem grp_sorted {g : List Bl} (h : Rising g) (hs : ∀ a ∈ g, ∀ b ∈ g, a.1.getD 1 0 = b.1.getD 1 0) : (grpC g).Pairwise ltL := by
  rw [grpC, List.pairwise_flatMap]
  refine ⟨fun y hy => ?_, ?_⟩
  · rw [List.pairwise_flatMap]
    refine ⟨fun b hb => rowC_sorted b y 16, ?_⟩
    refine List.Pairwise.imp_of_mem ?_ h
    intro a b ha hb hab c hc d hd
    obtain ⟨x, hx, rfl⟩ := rowC_in hc
    obtain ⟨x', hx', rfl⟩ := rowC_in hd
    have := hs a ha b hb
    unfold ltC at hab
    refine .inr ⟨?_, ?_⟩
    · simp only [cellL, List.getD_cons_zero, List.getD_cons_succ]
      omega
    · simp only [cellL, List.getD_cons_zero]
      omega
  · refine List.Pairwise.imp ?_ (List.pairwise_lt_range (n := 16))
    intro i j hij c hc d hd
    obtain ⟨a, ha, hc'⟩ := List.mem_flatMap.1 hc
    obtain ⟨b, hb, hd'⟩ := List.mem_flatMap.1 hd
    obtain ⟨x, hx, rfl⟩ := rowC_in hc'
    obtain ⟨x', hx', rfl⟩ := rowC_in hd'
    have := hs a ha b hb
    refine .inl ?_
    simp only [cellL, List.getD_cons_zero, List.getD_cons_succ]
    omega
theorem taken_all {p : Bl → Bool} : ∀ {l : List Bl} {c : Bl}, c ∈ l.takeWhile p → p c = true
  | [], c, h => by simp at h
  | a :: l, c, h => by
    rw [List.takeWhile_cons] at h
    split at h
    · rcases List.mem_cons.1 h with rfl | h
      · assumption
      · exact taken_all h
    · simp at h
theorem spec_in {l : List Bl} {c : List Int} (h : c ∈ specC l) : ∃ b ∈ l, ∃ y x, y < 16 ∧ x < 16 ∧ c = cellL b y x := by
  have := (specC_perm _ l (Nat.le_refl _)).mem_iff.1 h
  obtain ⟨b, hb, h1⟩ := List.mem_flatMap.1 this
  rw [bCells_flat] at h1
  obtain ⟨y, hy, h2⟩ := List.mem_flatMap.1 h1
  obtain ⟨x, hx, rfl⟩ := rowC_in h2
  exact ⟨b, hb, y, x, List.mem_range.1 hy, hx, rfl⟩
theorem rest_above {b : Bl} : ∀ {r : List Bl}, Rising (b :: r) → ∀ c ∈ r.dropWhile (sameR b), b.1.getD 1 0 < c.1.getD 1 0
  | [], _, c, hc => by simp at hc
  | a :: r, h, c, hc => by
    rw [List.dropWhile_cons] at hc
    have h1 := List.pairwise_cons.1 h
    have h2 := List.pairwise_cons.1 h1.2
    split at hc
    · exact rest_above (List.pairwise_cons.2 ⟨fun d hd => h1.1 d (List.mem_cons_of_mem _ hd), h2.2⟩) c hc
    · rename_i hn
      have ha : ltC b a := h1.1 a (List.mem_cons_self ..)
      have hne : ¬ a.1.getD 1 0 = b.1.getD 1 0 := fun e => hn (decide_eq_true e)
      have hba : b.1.getD 1 0 < a.1.getD 1 0 := by unfold ltC at ha; omega
      rcases List.mem_cons.1 hc with rfl | hc
      · exact hba
      · have := h2.1 c hc
        unfold ltC at this
        omega
theorem specC_sorted : ∀ (n : Nat) (l : List Bl), l.length ≤ n → Rising l → (specC l).Pairwise ltL
  | _, [], _, _ => by rw [specC_nil]; exact List.Pairwise.nil
  | n + 1, b :: r, hn, h => by
    have hd : Rising (r.dropWhile (sameR b)) := List.Pairwise.sublist (List.dropWhile_sublist _) (List.pairwise_cons.1 h).2
    have ht : Rising (b :: r.takeWhile (sameR b)) := List.Pairwise.sublist ((List.takeWhile_sublist _).cons_cons _) h
    have hsame : ∀ a ∈ b :: r.takeWhile (sameR b), a.1.getD 1 0 = b.1.getD 1 0 := fun a ha => by
      rcases List.mem_cons.1 ha with rfl | ha
      · rfl
      · exact of_decide_eq_true (taken_all ha)
    rw [specC_cons, List.pairwise_append]
    refine ⟨grp_sorted ht (fun a ha c hc => (hsame a ha).trans (hsame c hc).symm), specC_sorted n _ (by have := drop_len (sameR b) r; simp at hn; omega) hd, ?_⟩
    intro c hc d hd'
    obtain ⟨y, a, x, hy, ha, hx, rfl⟩ := grp_in hc
    obtain ⟨e, he, y', x', hy', hx', rfl⟩ := spec_in hd'
    have h1 := rest_above h e he
    have h2 := hsame a ha
    refine .inl ?_
    simp only [cellL, List.getD_cons_zero, List.getD_cons_succ]
    omega
theorem ltL_asymm {a b : List Int} (h : ltL a b) : ¬ ltL b a := by
  unfold ltL at *
  omega
theorem two_of {a : List Int} (h : a.length = 2) : a = [a.getD 0 0, a.getD 1 0] := by
  match a, h with
  | [_, _], _ => rfl
theorem ltL_total {a b : List Int} (ha : a.length = 2) (hb : b.length = 2) (h1 : ¬ ltL a b) (h2 : ¬ ltL b a) : a = b := by
  rw [two_of ha, two_of hb]
  unfold ltL at *
  have e0 : a.getD 0 0 = b.getD 0 0 := by omega
  have e1 : a.getD 1 0 = b.getD 1 0 := by omega
  rw [e0, e1]
/-- a sorted list is known by what it holds -/
theorem sorted_eq : ∀ {s t : List (List Int)}, (∀ c ∈ t, c.length = 2) → s.Perm t → (s.Pairwise fun x y => ¬ ltL y x) → t.Pairwise ltL → s = t
  | [], t, _, hp, _, _ => by rw [List.nil_perm.1 hp]
  | a :: s, [], _, hp, _, _ => by have := hp.length_eq; simp at this
  | a :: s, b :: t, h2, hp, hs, ht => by
    have hs1 := List.pairwise_cons.1 hs
    have ht1 := List.pairwise_cons.1 ht
    have hab : a = b := by
      have ha : a ∈ b :: t := hp.mem_iff.1 (List.mem_cons_self ..)
      have hb : b ∈ a :: s := hp.mem_iff.2 (List.mem_cons_self ..)
      rcases List.mem_cons.1 ha with e | ha'
      · exact e
      · rcases List.mem_cons.1 hb with e | hb'
        · exact e.symm
        · exact absurd (ht1.1 a ha') (hs1.1 b hb')
    subst hab
    rw [sorted_eq (fun c hc => h2 c (List.mem_cons_of_mem _ hc)) (List.Perm.cons_inv hp) hs1.2 ht1.2]
theorem cells_sorted_eq {l : List Bl} (h : Rising l) {s : List (List Int)} (hp : s.Perm (l.flatMap bCells)) (hs : s.Pairwise fun x y => ¬ ltL y x) : s = specC l :=
  sorted_eq (fun c hc => by obtain ⟨b, _, y, x, _, _, rfl⟩ := spec_in hc; rfl) (hp.trans (specC_perm _ l (Nat.le_refl _)).symm) hs (specC_sorted _ l (Nat.le_refl _) h)
theorem mCells_length (M : List Int) : (mCells M).length ≤ 256 := by
  rw [mCells, cellsTo, List.length_map]
  exact Nat.le_trans (List.length_filter_le _ _) (by rw [List.length_range]; exact Nat.le_refl _)
theorem flat_len : ∀ l : List Bl, (l.flatMap bCells).length ≤ 256 * l.length
  | [] => by simp
  | b :: l => by
    have := mCells_length b.2
    have h2 := flat_len l
    rw [List.flatMap_cons, List.length_append, bCells, List.length_map, List.length_cons]
    omega
theorem specC_length (l : List Bl) : (specC l).length ≤ 256 * l.length := by
  rw [(specC_perm _ l (Nat.le_refl _)).length_eq]
  exact flat_len l
theorem specC_rows (l : List Bl) : Rows_ 2 (specC l) := fun c hc => by
  obtain ⟨b, _, y, x, _, _, rfl⟩ := spec_in hc
  rfl
/-! ### as the reference tells them -/
def grpTo (g : List Bl) (y : Nat) : List (List Int) := (List.range y).flatMap fun y => g.flatMap (rowC · y)
theorem grpTo_succ (g : List Bl) (y : Nat) : grpTo g (y + 1) = grpTo g y ++ g.flatMap (rowC · y) := by
  rw [grpTo, List.range_succ, List.flatMap_append, grpTo]
  simp
theorem take_while_eq {p : Bl → Bool} : ∀ {r : List Bl} (k : Nat), (∀ j (h : j < r.length), j < k → p r[j] = true) → (∀ h : k < r.length, p r[k] = false) → k ≤ r.length → r.takeWhile p = r.take k ∧ r.dropWhile p = r.drop k
  | [], k, _, _, hk => by simp at hk; subst hk; simp
  | a :: r, 0, _, h, _ => by
    have := h (by simp)
    simp at this
    simp [this]
  | a :: r, k + 1, h, h2, hk => by
    have h0 := h 0 (by simp) (by omega)
    simp at h0
    obtain ⟨e1, e2⟩ := take_while_eq (p := p) (r := r) k (fun j hj hjk => by have := h (j + 1) (by simpa using hj) (by omega); simpa using this) (fun hj => by have := h2 (by simpa using hj); simpa using this) (by simpa using hk)
    rw [List.takeWhile_cons, List.dropWhile_cons, if_pos h0, if_pos h0, e1, e2]
    simp
/-- one group after another -/
theorem specC_step {l : List Bl} {i e : Nat} (hi : i < l.length) (hie : i < e) (he : e ≤ l.length) (hin : ∀ j (h : j < l.length), i ≤ j → j < e → (l[j]).1.getD 1 0 = (l[i]).1.getD 1 0) (hout : ∀ h : e < l.length, (l[e]).1.getD 1 0 ≠ (l[i]).1.getD 1 0) :
    specC (l.drop i) = grpC ((l.drop i).take (e - i)) ++ specC (l.drop e) := by
  have hd : l.drop i = l[i] :: l.drop (i + 1) := List.drop_eq_getElem_cons hi
  obtain ⟨e1, e2⟩ := take_while_eq (p := sameR l[i]) (r := l.drop (i + 1)) (e - (i + 1)) (fun j hj hjk => by
    rw [List.getElem_drop]
    exact decide_eq_true (hin _ (by rw [List.length_drop] at hj; omega) (by omega) (by omega))) (fun hj => by
    rw [List.getElem_drop]
    have hx : i + 1 + (e - (i + 1)) = e := by omega
    simp only [hx]
    exact decide_eq_false (hout (by rw [List.length_drop] at hj; omega))) (by rw [List.length_drop]; omega)
  rw [hd, specC_cons, e1, e2, List.drop_drop, show i + 1 + (e - (i + 1)) = e by omega, show e - i = (e - (i + 1)) + 1 by omega, List.take_succ_cons]
theorem grpTo_mono (g : List Bl) {y : Nat} : ∀ d, (grpTo g y).length ≤ (grpTo g (y + d)).length
  | 0 => Nat.le_refl _
  | d + 1 => by
    have := grpTo_mono g (y := y) d
    rw [← Nat.add_assoc, grpTo_succ, List.length_append]
    omega
theorem rowTo_len (b : Bl) (y : Nat) {x : Nat} : ∀ d, (rowTo b y x).length ≤ (rowTo b y (x + d)).length
  | 0 => Nat.le_refl _
  | d + 1 => by
    have := rowTo_len b y (x := x) d
    rw [← Nat.add_assoc]
    cases h : bitB b.2 (x + d) y
    · rw [rowTo_no h]
      exact this
    · rw [rowTo_yes h, List.length_append]
      omega
theorem told_bound (P : List (List Int)) (g : List Bl) {y k x : Nat} (hy : y < 16) (hk : k < g.length) (hx : x ≤ 16) :
    (P ++ grpTo g y ++ (g.take k).flatMap (rowC · y) ++ rowTo g[k] y x).length ≤ (P ++ grpC g).length := by
  have h1 := grpTo_mono g (y := y + 1) (15 - y)
  rw [show y + 1 + (15 - y) = 16 by omega, grpTo_succ, List.length_append] at h1
  have h2 := rowTo_len g[k] y (x := x) (16 - x)
  rw [show x + (16 - x) = 16 by omega] at h2
  have h3 : g.flatMap (rowC · y) = (g.take k).flatMap (rowC · y) ++ (rowC g[k] y ++ (g.drop (k + 1)).flatMap (rowC · y)) := by
    have e : g = g.take k ++ g[k] :: g.drop (k + 1) := by rw [← List.drop_eq_getElem_cons hk, List.take_append_drop]
    have e2 := congrArg (fun l : List Bl => l.flatMap (rowC · y)) e
    simpa only [List.flatMap_append, List.flatMap_cons] using e2
  rw [h3] at h1
  simp only [List.length_append] at h1 ⊢
  have h4 : (rowC g[k] y).length = (rowTo g[k] y 16).length := rfl
  have h5 : (grpC g).length = (grpTo g 16).length := rfl
  omega
theorem take_row (g : List Bl) (y : Nat) {k : Nat} (hk : k < g.length) : (g.take (k + 1)).flatMap (rowC · y) = (g.take k).flatMap (rowC · y) ++ rowTo g[k] y 16 := by
  rw [List.take_succ_eq_append_getElem hk, List.flatMap_append]
  simp [rowC]
end Go.Proofs.YtmagaapdijapiaaDoor
