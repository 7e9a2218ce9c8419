/- Pictures joined, met, taken away, counted, found again from their cells. No program in sight. -/
import Derived.Test.YtmagaapdijapiaaRows
import Derived.Test.YtmagaapdijapiaaTv
import Derived.Test.YtmagaapdijapiaaCy
import Derived.Test.YtmagaapdijapiaaCo
namespace Go.Proofs.Ytmagaapdijapiaa
open Go.ChangeShapes Go.WideShapes Go.ChangeAt Go.RowKit
/-- a table of what two pictures become -/
theorem mix_tab (f : Int → Int → Int) (hf : Way f) {P Q : List Bl} (hP : Pic P) (hQ : Pic Q) : ∀ ks : List (List Int), (∀ k ∈ ks, k.length = 2) → ∃ lo, Tab lo ∧ lo.length ≤ ks.length ∧ ∀ key, maskAt lo key = mixT f P Q ks key := fun ks hks => by
  obtain ⟨r, hr⟩ : ∃ r, r = ks.reverse := ⟨_, rfl⟩
  have e : ks = r.reverse := by rw [hr, List.reverse_reverse]
  subst e
  clear hr
  induction r with
  | nil => exact ⟨[], Tab.nil, Nat.le_refl _, fun key => by rw [mixT, if_neg (by simp)]; rfl⟩
  | cons k r ih =>
    rw [List.reverse_cons] at hks ⊢
    obtain ⟨lo, t1, t2, t3⟩ := ih (fun k hk => hks k (List.mem_append_left _ hk))
    have h2 := hks k (List.mem_append_right _ (List.mem_singleton.2 rfl))
    obtain ⟨a1, a2⟩ := maskAt_ok hP.bls hP.m16 k
    obtain ⟨b1, b2⟩ := maskAt_ok hQ.bls hQ.m16 k
    refine ⟨putB lo k (mixF f P Q k), t1.put h2 (opM_length a1 b1) (opM_16 hf _ _), ?_, mixT_succ t3 rfl⟩
    have := putB_length k (mixF f P Q k) lo
    rw [List.length_append, List.length_singleton]
    omega
theorem mix_pic (f : Int → Int → Int) (hf : Way f) {P Q : List Bl} (hP : Pic P) (hQ : Pic Q) : ∃ J, Pic J ∧ J.length ≤ P.length + Q.length ∧ (∀ key, maskAt J key = mixF f P Q key) ∧ picOf (mixF f P Q) = J := by
  obtain ⟨lo, t1, t2, t3⟩ := mix_tab f hf hP hQ (P.map (·.1) ++ Q.map (·.1)) (fun k hk => by
    rcases List.mem_append.1 hk with hk | hk
    · obtain ⟨b, hb, rfl⟩ := List.mem_map.1 hk
      exact (hP.bls b hb).1
    · obtain ⟨b, hb, rfl⟩ := List.mem_map.1 hk
      exact (hQ.bls b hb).1)
  have h3 := mixT_all hf t3 (fun c hc => List.mem_append_left _ (List.mem_map.2 ⟨c, hc, rfl⟩)) (fun c hc => List.mem_append_right _ (List.mem_map.2 ⟨c, hc, rfl⟩))
  obtain ⟨m, hm1, hm2⟩ := sorted_exists (solid lo)
  obtain ⟨hm3, hm4⟩ := pic_sorted t1 hm1 hm2
  have hm5 : ∀ key, maskAt m key = mixF f P Q key := fun key => (hm4 key).trans (h3 key)
  refine ⟨m, hm3, ?_, hm5, picOf_eq hm3 hm5⟩
  have h1 := solid_length lo
  rw [hm1.length_eq]
  rw [List.length_append, List.length_map, List.length_map] at t2
  omega
theorem opM_get {f : Int → Int → Int} {a b : List Int} (ha : a.length = 16) (hb : b.length = 16) {y : Nat} (hy : y < 16) : (opM f a b).getD y 0 = f (a.getD y 0) (b.getD y 0) := by
  rw [opM, List.getD_eq_getElem?_getD, List.getElem?_eq_getElem (by rw [List.length_zipWith]; omega), List.getElem_zipWith]
  rw [List.getD_eq_getElem?_getD, List.getElem?_eq_getElem (by omega), List.getD_eq_getElem?_getD, List.getElem?_eq_getElem (by omega)]
  rfl
section
variable {P Q J : List Bl}
theorem hasOr (hP : Pic P) (hQ : Pic Q) (h : ∀ key, maskAt J key = mixF orF P Q key) (U V : Int) : hasB J U V = (hasB P U V || hasB Q U V) := by
  obtain ⟨a1, a2⟩ := maskAt_ok hP.bls hP.m16 [U / 16, V / 16]
  obtain ⟨b1, b2⟩ := maskAt_ok hQ.bls hQ.m16 [U / 16, V / 16]
  rw [hasB, h, mixF, bitB_row, opM_get a1 b1 (by omega), orF_bit (a2.getD _) (b2.getD _)]
  rfl
theorem hasAnd (hP : Pic P) (hQ : Pic Q) (h : ∀ key, maskAt J key = mixF andF P Q key) (U V : Int) : hasB J U V = (hasB P U V && hasB Q U V) := by
  obtain ⟨a1, a2⟩ := maskAt_ok hP.bls hP.m16 [U / 16, V / 16]
  obtain ⟨b1, b2⟩ := maskAt_ok hQ.bls hQ.m16 [U / 16, V / 16]
  rw [hasB, h, mixF, bitB_row, opM_get a1 b1 (by omega), andF_bit (a2.getD _) (b2.getD _)]
  rfl
theorem hasNot (hP : Pic P) (hQ : Pic Q) (h : ∀ key, maskAt J key = mixF notF P Q key) (U V : Int) : hasB J U V = (hasB P U V && !hasB Q U V) := by
  obtain ⟨a1, a2⟩ := maskAt_ok hP.bls hP.m16 [U / 16, V / 16]
  obtain ⟨b1, b2⟩ := maskAt_ok hQ.bls hQ.m16 [U / 16, V / 16]
  rw [hasB, h, mixF, bitB_row, opM_get a1 b1 (by omega), notF_bit (a2.getD _) (b2.getD _) (by omega)]
  rfl
end
/-! ### counts -/
theorem spec_perm {P : List Bl} (hP : Pic P) {L : List (List Int)} (hn : L.Nodup) (h : ∀ c, c ∈ L ↔ c.length = 2 ∧ hasB P (c.getD 0 0) (c.getD 1 0) = true) : (specC P).length = L.length :=
  List.Perm.length_eq ((List.perm_ext_iff_of_nodup (spec_nodup hP.rising) hn).2 fun c => by rw [spec_mem hP.apart hP.bls, h])
theorem filter_both {A B : List (List Int)} (hA : A.Nodup) (hB : B.Nodup) : (A.filter fun c => decide (c ∈ B)).length = (B.filter fun c => decide (c ∈ A)).length :=
  List.Perm.length_eq ((List.perm_ext_iff_of_nodup (hA.filter _) (hB.filter _)).2 fun c => by
    rw [List.mem_filter, List.mem_filter, decide_eq_true_iff, decide_eq_true_iff]
    exact ⟨fun h => ⟨h.2, h.1⟩, fun h => ⟨h.2, h.1⟩⟩)
theorem filter_split (A : List (List Int)) (p : List Int → Bool) : (A.filter p).length + (A.filter fun c => !p c).length = A.length := by
  induction A with
  | nil => rfl
  | cons a A ih =>
    rw [List.filter_cons, List.filter_cons]
    cases p a
    · simp only [Bool.not_false, if_true, List.length_cons]
      simp only [Bool.false_eq_true, if_false]
      omega
    · simp only [Bool.not_true, if_true, List.length_cons]
      simp only [Bool.false_eq_true, if_false]
      omega
theorem counts {P Q J M D : List Bl} (hP : Pic P) (hQ : Pic Q) (hJ : Pic J) (hM : Pic M) (hD : Pic D) (h1 : ∀ U V, hasB J U V = (hasB P U V || hasB Q U V)) (h2 : ∀ U V, hasB M U V = (hasB P U V && hasB Q U V)) (h3 : ∀ U V, hasB D U V = (hasB P U V && !hasB Q U V)) :
    (specC J).length + (specC M).length = (specC P).length + (specC Q).length ∧ (specC D).length + (specC M).length = (specC P).length := by
  have nP := spec_nodup hP.rising
  have nQ := spec_nodup hQ.rising
  have mP := fun c => spec_mem hP.apart hP.bls c
  have mQ := fun c => spec_mem hQ.apart hQ.bls c
  have eM : (specC M).length = ((specC P).filter fun c => decide (c ∈ specC Q)).length := spec_perm hM (nP.filter _) fun c => by
    rw [List.mem_filter, decide_eq_true_iff, mP, mQ, h2, Bool.and_eq_true]
    exact ⟨fun h => ⟨h.1.1, h.1.2, h.2.2⟩, fun h => ⟨⟨h.1, h.2.1⟩, h.1, h.2.2⟩⟩
  have eD : (specC D).length = ((specC P).filter fun c => !decide (c ∈ specC Q)).length := spec_perm hD (nP.filter _) fun c => by
    rw [List.mem_filter, Bool.not_eq_true', decide_eq_false_iff_not, mP, mQ, h3, Bool.and_eq_true, Bool.not_eq_true']
    exact ⟨fun h => ⟨h.1.1, h.1.2, by
      cases hq : hasB Q (c.getD 0 0) (c.getD 1 0)
      · rfl
      · exact absurd ⟨h.1.1, hq⟩ h.2⟩, fun h => ⟨⟨h.1, h.2.1⟩, fun h5 => by rw [h.2.2] at h5; cases h5.2⟩⟩
  have eJ : (specC J).length = (specC P ++ (specC Q).filter fun c => !decide (c ∈ specC P)).length := spec_perm hJ (by
    rw [List.nodup_append]
    refine ⟨nP, nQ.filter _, fun a ha b hb e => ?_⟩
    rw [List.mem_filter, Bool.not_eq_true', decide_eq_false_iff_not] at hb
    exact hb.2 (e ▸ ha)) fun c => by
    rw [List.mem_append, List.mem_filter, Bool.not_eq_true', decide_eq_false_iff_not, mP, mQ, h1, Bool.or_eq_true]
    constructor
    · rintro (h | h)
      · exact ⟨h.1, .inl h.2⟩
      · exact ⟨h.1.1, .inr h.1.2⟩
    · rintro ⟨h, h2⟩
      cases hp : hasB P (c.getD 0 0) (c.getD 1 0)
      · rw [hp] at h2
        refine .inr ⟨⟨h, h2.resolve_left (by decide)⟩, fun h5 => by cases h5.2⟩
      · exact .inl ⟨h, rfl⟩
  have s1 := filter_split (specC Q) (fun c => decide (c ∈ specC P))
  have s2 := filter_split (specC P) (fun c => decide (c ∈ specC Q))
  have s3 := filter_both nP nQ
  rw [List.length_append] at eJ
  omega
/-! ### a picture out of its cells -/
theorem told_bit {cs : List (List Int)} (h2 : ∀ c ∈ cs, c.length = 2) (a b : Int) {x y : Nat} (hx : x < 16) (hy : y < 16) : ∀ k, k ≤ cs.length → bitB (toldM (cs.take k) [a, b]) x y = decide ([16 * a + x, 16 * b + y] ∈ cs.take k)
  | 0, _ => by
    rw [List.take_zero]
    show bitB zr16 x y = _
    rw [zr16_bit]
    simp
  | k + 1, hk => by
    have hkl : k < cs.length := hk
    have ih := told_bit h2 a b hx hy k (by omega)
    obtain ⟨m1, m2⟩ := toldM_ok (cs.take k) [a, b]
    have hc2 := h2 _ (List.getElem_mem hkl)
    rw [toldM_succ cs hkl, List.take_succ_eq_append_getElem hkl]
    generalize cs[k] = c at *
    obtain ⟨u, v, rfl⟩ : ∃ u v, c = [u, v] := ⟨_, _, two_of hc2⟩
    have hmem : decide ([16 * a + (x : Int), 16 * b + (y : Int)] ∈ cs.take k ++ [[u, v]]) = (decide ([16 * a + (x : Int), 16 * b + (y : Int)] ∈ cs.take k) || (decide (16 * a + (x : Int) = u) && decide (16 * b + (y : Int) = v))) := by
      rw [Bool.eq_iff_iff, Bool.or_eq_true, Bool.and_eq_true, decide_eq_true_iff, decide_eq_true_iff, decide_eq_true_iff, decide_eq_true_iff, List.mem_append, List.mem_singleton]
      constructor
      · rintro (h | h)
        · exact .inl h
        · injection h with h1 h2
          injection h2 with h2
          exact .inr ⟨h1, h2⟩
      · rintro (h | ⟨h1, h2⟩)
        · exact .inl h
        · exact .inr (by rw [h1, h2])
    rw [hmem, ← ih]
    have hcor : cornerL [u, v] = [u / 16, v / 16] := rfl
    rw [hcor]
    by_cases e : [a, b] = [u / 16, v / 16]
    · rw [if_pos e]
      have e0 : a = u / 16 := by injection e
      have e1 : b = v / 16 := by injection e with _ h; injection h
      show bitB (setOr (toldM (cs.take k) [a, b]) (v % 16).toNat (u % 16).toNat) x y = _
      rw [setOr_bit m1 m2 (by omega) (by omega)]
      congr 1
      congr 1
      · exact decide_eq_decide.2 (by omega)
      · exact decide_eq_decide.2 (by omega)
    · rw [if_neg e]
      have : (decide (16 * a + (x : Int) = u) && decide (16 * b + (y : Int) = v)) = false := by
        rw [Bool.and_eq_false_iff, decide_eq_false_iff_not, decide_eq_false_iff_not]
        by_cases h1 : 16 * a + (x : Int) = u
        · refine .inr fun h2 => e ?_
          rw [show a = u / 16 by omega, show b = v / 16 by omega]
        · exact .inl h1
      rw [this, Bool.or_false]
theorem toldM_odd {cs : List (List Int)} {key : List Int} (hk : key.length ≠ 2) : toldM cs key = zr16 := by
  have h : ∀ (cs : List (List Int)) (M : List Int), (cs.foldl (fun M c => if key = cornerL c then putC M c else M) M) = M := by
    intro cs
    induction cs with
    | nil => intro M; rfl
    | cons c cs ih =>
      intro M
      rw [List.foldl_cons, if_neg (fun e => hk (by rw [e]; rfl)), ih]
  exact h cs zr16
/-- the picture of a picture's cells, whatever their order -/
theorem picOf_cells {P : List Bl} (hP : Pic P) {cs : List (List Int)} (h2 : ∀ c ∈ cs, c.length = 2) (h : ∀ c, c ∈ cs ↔ c ∈ specC P) : picOf (toldM cs) = P := by
  refine picOf_eq hP fun key => ?_
  by_cases hk : key.length = 2
  · obtain ⟨a1, a2⟩ := maskAt_ok hP.bls hP.m16 key
    obtain ⟨b1, b2⟩ := toldM_ok cs key
    refine mask_ext a1 b1 a2 b2 fun x y hx hy => ?_
    have e := told_bit h2 (key.getD 0 0) (key.getD 1 0) hx hy cs.length (Nat.le_refl _)
    rw [List.take_length, ← two_of hk] at e
    rw [e]
    have e2 := hasB_at P (key.getD 0 0) (key.getD 1 0) hx hy
    rw [← two_of hk] at e2
    rw [← e2, Bool.eq_iff_iff, decide_eq_true_iff, h, spec_mem hP.apart hP.bls]
    exact ⟨fun h => ⟨rfl, h⟩, fun h => h.2⟩
  · rw [maskAt_odd hP.bls hk, toldM_odd hk]
/-- what is valid -/
theorem vp_of_vpic {P : List Bl} (h : VPic P) : vpB P = true := by
  have hr := h.pic.rising
  rw [vpB, Bool.and_eq_true, decide_eq_true_iff]
  refine ⟨?_, h.few⟩
  rw [vpTo, List.all_eq_true]
  intro k hk
  have hkl := List.mem_range.1 hk
  have hb := List.getElem_mem hkl
  rw [blkAt, Bool.and_eq_true]
  constructor
  · by_cases h0 : k = 0
    · rw [h0]; rfl
    · rw [Bool.or_eq_true]
      refine .inr ?_
      rw [getDB_at hkl, getDB_at (show k - 1 < P.length by omega), befB_iff]
      exact List.pairwise_iff_getElem.1 hr (k - 1) k (by omega) hkl (by omega)
  · rw [getDB_at hkl, blkOk, Bool.and_eq_true, Bool.and_eq_true]
    refine ⟨?_, ?_, h.ok _ hb⟩
    · rw [Bool.not_eq_true', emptyM, beq_eq_false_iff_ne]
      exact h.pic.noVoid _ hb
    · have := h.far _ hb
      rw [farB, inB, inB]
      simp only [Bool.and_eq_true, decide_eq_true_iff]
      exact this
theorem vpic_of_small {P : List Bl} (h : Pic P) (hf : P.length ≤ 64) (hs : ∀ b ∈ P, (-62000 ≤ b.1.getD 0 0 ∧ b.1.getD 0 0 ≤ 62000) ∧ (-62000 ≤ b.1.getD 1 0 ∧ b.1.getD 1 0 ≤ 62000)) : VPic P := by
  refine ⟨h, fun b hb => ?_, fun b hb => ?_, hf⟩
  · have := hs b hb
    exact ⟨by omega, by omega⟩
  · have hbs := hs b hb
    rw [okCells, List.all_eq_true]
    intro f hfm
    obtain ⟨g, hg, rfl⟩ := List.mem_map.1 hfm
    obtain ⟨k, hk, rfl⟩ := List.getElem_of_mem hg
    obtain ⟨x, y, hx, hy, he⟩ := mCells_at hk
    rw [he]
    show cellB ((x : Int) + 16 * b.1.getD 0 0) ((y : Int) + 16 * b.1.getD 1 0) = true
    simp only [cellB, inB, Bool.and_eq_true, decide_eq_true_iff]
    omega
end Go.Proofs.Ytmagaapdijapiaa
