/- The deed with a text: plain law. -/
import Derived.Test.YtfjfiljgbkhblaaDoorRows
import Derived.Test.YtfjfiljgbkhblaaDoorNm
import Derived.Test.YtfjfiljgbkhblaaDoorDt
import Derived.Lib.AtoiTie
import Derived.Lib.ParseIntBTie
namespace Go.Proofs.YtfjfiljgbkhblaaDoor
open Go.ChangeShapes Go.WideShapes Go.ChangeAt Go.RowKit

/-- a deed whose text this is -/
def Found (t : ByteArray) (k a b : Int) : Prop := deedB k a b = true ∧ dtext k a b = t
theorem deedB_parts {k a b : Int} (h : deedB k a b = true) : (1 ≤ k ∧ k ≤ 9) ∧ (0 ≤ a ∧ a ≤ 999) ∧ (0 ≤ b ∧ b ≤ 999) ∧ (0 < numsK k ∨ a = 0) ∧ (1 < numsK k ∨ b = 0) := by
  simp only [deedB, Bool.and_eq_true, Bool.or_eq_true, decide_eq_true_eq, beq_iff_eq] at h
  obtain ⟨⟨⟨⟨h1, h2⟩, h3⟩, h4⟩, h5⟩ := h
  exact ⟨inB_true h1, inB_true h2, inB_true h3, h4, h5⟩
theorem digit_sp : ∀ d, d < 10 → UInt8.ofNat (48 + d) ≠ 32 := by decide +kernel
theorem digs_sp (n : Nat) : (Lib.decDigits n).contains 32 = false := by
  have : ∀ n, ∀ x ∈ Lib.decDigits n, x ≠ 32 := fun n => by
    induction n using Nat.strongRecOn with
    | _ n ih =>
      by_cases h : n < 10
      · rw [Lib.decDigits_one h]
        intro x hx
        rw [List.mem_singleton] at hx
        subst hx
        exact digit_sp n h
      · rw [digs_more h]
        intro x hx
        rcases List.mem_append.1 hx with hx | hx
        · exact ih (n / 10) (by omega) x hx
        · rw [List.mem_singleton] at hx
          subst hx
          exact digit_sp (n % 10) (by omega)
  rw [← Bool.not_eq_true, List.contains_iff_mem]
  exact fun h => this n 32 h rfl
theorem kinds {k : Int} (h : 1 ≤ k ∧ k ≤ 9) : k = 1 ∨ k = 2 ∨ k = 3 ∨ k = 4 ∨ k = 5 ∨ k = 6 ∨ k = 7 ∨ k = 8 ∨ k = 9 := by omega
theorem word_sp {k : Int} (h : 1 ≤ k ∧ k ≤ 9) : (word k).data.toList.contains 32 = false ∧ (word k).data.toList ≠ [] := by
  rcases kinds h with rfl | rfl | rfl | rfl | rfl | rfl | rfl | rfl | rfl <;> decide +kernel
theorem word_inj {k j : Int} (h : 1 ≤ k ∧ k ≤ 9) (h' : 1 ≤ j ∧ j ≤ 9) (e : (word k).data.toList = (word j).data.toList) : k = j := by
  have : ∀ x : Fin 9, ∀ y : Fin 9, (word ((x.val : Int) + 1)).data.toList = (word ((y.val : Int) + 1)).data.toList → x = y := by decide +kernel
  have := this ⟨(k - 1).toNat, by omega⟩ ⟨(j - 1).toNat, by omega⟩ (by
    rw [show (((k - 1).toNat : Nat) : Int) + 1 = k by omega, show (((j - 1).toNat : Nat) : Int) + 1 = j by omega]; exact e)
  injection this with this
  omega
theorem catQ (a b : ByteArray) : (a ++ b).data.toList = a.data.toList ++ b.data.toList := by rw [ByteArray.data_append, Array.toList_append]
theorem decQ (n : Nat) : (dec n).data.toList = Lib.decDigits n := by simp [dec]
/-- the numbers that stand behind the word -/
def numsL (k a b : Int) : List (List UInt8) := if numsK k = 0 then [] else if numsK k = 1 then [Lib.decDigits a.toNat] else [Lib.decDigits a.toNat, Lib.decDigits b.toNat]
theorem found_pcs {t : ByteArray} {k a b : Int} (h : Found t k a b) : pcs 32 t.data.toList = (word k).data.toList :: numsL k a b := by
  obtain ⟨hd, ht⟩ := h
  obtain ⟨hk, _, _, _, _⟩ := deedB_parts hd
  obtain ⟨w1, w2⟩ := word_sp hk
  rw [dtext, if_pos hd] at ht
  rw [← ht]
  rcases nums_cases k with e | e | e
  · rw [numsL, if_pos e, e]
    show pcs 32 (word k).data.toList = _
    rw [pcs_none w1]
  · rw [numsL, if_neg (by omega), if_pos e, e]
    show pcs 32 (word k ++ (sp ++ dec a.toNat)).data.toList = _
    rw [catQ, catQ, decQ]
    show pcs 32 ((word k).data.toList ++ 32 :: Lib.decDigits a.toNat) = _
    rw [pcs_app _ w1, pcs_none (digs_sp _)]
  · rw [numsL, if_neg (by omega), if_neg (by omega), e]
    show pcs 32 (word k ++ (sp ++ dec a.toNat) ++ (sp ++ dec b.toNat)).data.toList = _
    rw [catQ, catQ, catQ, catQ, decQ, decQ, List.append_assoc]
    show pcs 32 ((word k).data.toList ++ 32 :: (Lib.decDigits a.toNat ++ 32 :: Lib.decDigits b.toNat)) = _
    rw [pcs_app _ w1, pcs_app _ (digs_sp _), pcs_none (digs_sp _)]
theorem digs_inj {m n : Nat} (h : Lib.decDigits m = Lib.decDigits n) : m = n := by
  have h1 := decFrom_digs m
  rw [h, decFrom_digs n] at h1
  exact (Option.some.inj h1).symm
theorem found_one {t : ByteArray} {k a b k' a' b' : Int} (h : Found t k a b) (h' : Found t k' a' b') : k = k' ∧ a = a' ∧ b = b' := by
  have e := (found_pcs h).symm.trans (found_pcs h')
  injection e with e1 e2
  obtain ⟨hk, ha, hb, za, zb⟩ := deedB_parts h.1
  obtain ⟨hk', ha', hb', za', zb'⟩ := deedB_parts h'.1
  obtain rfl := word_inj hk hk' e1
  refine ⟨rfl, ?_⟩
  unfold numsL at e2
  rcases nums_cases k with e | e | e
  · exact ⟨by omega, by omega⟩
  · rw [if_neg (by omega), if_pos e, if_neg (by omega), if_pos e] at e2
    injection e2 with e3 _
    have := digs_inj e3
    exact ⟨by omega, by omega⟩
  · rw [if_neg (by omega), if_neg (by omega), if_neg (by omega), if_neg (by omega)] at e2
    injection e2 with e3 e4
    injection e4 with e4 _
    have := digs_inj e3
    have := digs_inj e4
    exact ⟨by omega, by omega⟩
theorem found_size {t : ByteArray} {k a b : Int} (h : Found t k a b) : t.size ≤ 40 := by
  obtain ⟨hd, ht⟩ := h
  obtain ⟨hk, ha, hb, _, _⟩ := deedB_parts hd
  rw [dtext, if_pos hd] at ht
  rw [← ht]
  have w := word_size k
  have za := dec_size (n := a.toNat) (by omega)
  have zb := dec_size (n := b.toNat) (by omega)
  have zs : sp.size = 1 := rfl
  rcases nums_cases k with e | e | e
  · rw [e]; show (word k).size ≤ 40; omega
  · rw [e]; show (word k ++ (sp ++ dec a.toNat)).size ≤ 40
    rw [ByteArray.size_append, ByteArray.size_append]; omega
  · rw [e]; show (word k ++ (sp ++ dec a.toNat) ++ (sp ++ dec b.toNat)).size ≤ 40
    rw [ByteArray.size_append, ByteArray.size_append, ByteArray.size_append, ByteArray.size_append]; omega
theorem digs_dn {n : Nat} : Lib.decNat (Lib.decDigits n) = some n := by
  obtain ⟨x, r, e⟩ := digs_ne n
  rw [Lib.decNat, if_neg (by rw [e]; simp)]
  exact decFrom_digs n
theorem small_dec {w : ByteArray} {n : Nat} (h : n < 1000) (e : w.data.toList = Lib.decDigits n) : smallV w = n := by
  have h5 := digs_five (n := n) (by omega)
  obtain ⟨x, r, e2⟩ := digs_ne n
  have hz := Lib.size_eq w
  rw [e] at hz
  have h1 : 1 ≤ (Lib.decDigits n).length := by rw [e2]; simp
  rw [smallV, if_pos ⟨by omega, by omega⟩, e, digs_dn]
/-! ### the reference's choice -/
def sA (k : Int) (w1 : ByteArray) : Int := if 0 < numsK k then smallV w1 else 0
def sB (k : Int) (w2 : ByteArray) : Int := if 1 < numsK k then smallV w2 else 0
theorem s_yes {t w0 w1 w2 : ByteArray} {k : Int} (hk : 1 ≤ k ∧ k ≤ 9) (h0 : w0.data.toList = (pcs 32 t.data.toList).headD []) (hw : w0 = word k) (h : dtext k (sA k w1) (sB k w2) = t) : Found t k (sA k w1) (sB k w2) := by
  refine ⟨?_, h⟩
  cases hd : deedB k (sA k w1) (sB k w2) with
  | true => rfl
  | false =>
    rw [dtext, hd, if_neg (by decide)] at h
    rw [← h, hw] at h0
    exact absurd h0 (word_sp hk).2
theorem s_no {t w0 w1 w2 : ByteArray} {k a b : Int} (h : Found t k a b) (h0 : w0.data.toList = (pcs 32 t.data.toList).headD []) (h1 : w1.data.toList = ((pcs 32 t.data.toList).drop 1).headD []) (h2 : w2.data.toList = ((pcs 32 t.data.toList).drop 2).headD []) :
    w0 = word k ∧ dtext k (sA k w1) (sB k w2) = t := by
  have hp := found_pcs h
  obtain ⟨hk, ha, hb, za, zb⟩ := deedB_parts h.1
  rw [hp] at h0 h1 h2
  have e0 : w0 = word k := by rw [← Lib.mk_data w0, ← Lib.mk_data (word k)]; congr 2
  have eA : sA k w1 = a := by
    unfold sA
    rcases nums_cases k with e | e | e
    · rw [if_neg (by omega)]; omega
    · rw [if_pos (by omega), small_dec (n := a.toNat) (by omega) (by rw [h1, numsL, if_neg (by omega), if_pos e]; rfl)]; omega
    · rw [if_pos (by omega), small_dec (n := a.toNat) (by omega) (by rw [h1, numsL, if_neg (by omega), if_neg (by omega)]; rfl)]; omega
  have eB : sB k w2 = b := by
    unfold sB
    rcases nums_cases k with e | e | e
    · rw [if_neg (by omega)]; omega
    · rw [if_neg (by omega)]; omega
    · rw [if_pos (by omega), small_dec (n := b.toNat) (by omega) (by rw [h2, numsL, if_neg (by omega), if_neg (by omega)]; rfl)]; omega
  rw [eA, eB]
  exact ⟨e0, h.2⟩
/-- what is told of a text -/
def Told (t : ByteArray) (k a b c : Int) : Prop := (Found t k a b ∧ c = 0) ∨ ((∀ k a b, ¬ Found t k a b) ∧ k = 0 ∧ a = 0 ∧ b = 0 ∧ c = 5)
theorem told_one {t : ByteArray} {k a b c k' a' b' c' : Int} (h : Told t k a b c) (h' : Told t k' a' b' c') : k = k' ∧ a = a' ∧ b = b' ∧ c = c' := by
  rcases h with ⟨h, rfl⟩ | ⟨h, rfl, rfl, rfl, rfl⟩
  · rcases h' with ⟨h', rfl⟩ | ⟨h', _⟩
    · obtain ⟨e1, e2, e3⟩ := found_one h h'; exact ⟨e1, e2, e3, rfl⟩
    · exact absurd h (h' _ _ _)
  · rcases h' with ⟨h', rfl⟩ | ⟨h', rfl, rfl, rfl, rfl⟩
    · exact absurd h' (h _ _ _)
    · exact ⟨rfl, rfl, rfl, rfl⟩
/-! ### the program's choice -/
/-- the number that a word spells, 0 where there is no word -/
def iN (ws : List (List UInt8)) (j : Nat) : Int := match (ws.drop j).head? with
  | none => 0
  | some w => match Lib.parseIntB 64 w with | .ok v => v | _ => 0
def okW (w : List UInt8) : Bool := match Lib.parseIntB 64 w with | .ok _ => true | _ => false
theorem parse_digs {n : Nat} (h : n < 1000) : Lib.parseIntB 64 (Lib.decDigits n) = .ok (n : Int) := by
  have h5 := digs_five (n := n) (by omega)
  obtain ⟨x, r, e⟩ := digs_ne n
  have hm := digs_mem n
  have h43 : ∀ n, n < 1000 → ¬ (Lib.decDigits n).head? = some 43 := by decide +kernel
  rw [Lib.parseIntB_64, Lib.atoiAll_short _ (by omega)]
  have hx : ¬ (x == 45) = true := fun h => (hm x (by rw [e]; exact List.mem_cons_self)).2 (beq_iff_eq.1 h)
  have hy : ¬ (x == 43) = true := fun h2 => h43 n h (by rw [e, List.head?_cons, beq_iff_eq.1 h2])
  have hd := digs_dn (n := n)
  rw [e] at hd ⊢
  rw [Lib.atoi, if_neg hx, if_neg hy, hd]
  rfl
theorem i_found {t : ByteArray} {k a b : Int} (h : Found t k a b) : ((pcs 32 t.data.toList).tail).length ≤ 2 ∧ (∀ w ∈ (pcs 32 t.data.toList).tail, okW w = true) ∧ iN (pcs 32 t.data.toList).tail 0 = a ∧ iN (pcs 32 t.data.toList).tail 1 = b := by
  have hp := found_pcs h
  obtain ⟨hk, ha, hb, za, zb⟩ := deedB_parts h.1
  rw [hp, List.tail_cons]
  have pa := parse_digs (n := a.toNat) (by omega)
  have pb := parse_digs (n := b.toNat) (by omega)
  have oa : okW (Lib.decDigits a.toNat) = true := by rw [okW, pa]
  have ob : okW (Lib.decDigits b.toNat) = true := by rw [okW, pb]
  unfold numsL iN
  rcases nums_cases k with e | e | e
  · rw [if_pos e]
    exact ⟨by decide, fun w hw => (nomatch hw), by simp only [List.drop_nil, List.head?_nil]; omega, by simp only [List.drop_nil, List.head?_nil]; omega⟩
  · rw [if_neg (by omega), if_pos e]
    refine ⟨by simp, fun w hw => by rw [List.mem_singleton] at hw; rw [hw]; exact oa, ?_, ?_⟩
    · simp only [List.drop_zero, List.head?_cons, pa]; omega
    · simp only [List.drop_succ_cons, List.drop_nil, List.head?_nil]; omega
  · rw [if_neg (by omega), if_neg (by omega)]
    refine ⟨by simp, fun w hw => ?_, ?_, ?_⟩
    · rcases List.mem_cons.1 hw with hw | hw
      · rw [hw]; exact oa
      · rw [List.mem_singleton] at hw; rw [hw]; exact ob
    · simp only [List.drop_zero, List.head?_cons, pa]; omega
    · simp only [List.drop_succ_cons, List.drop_zero, List.head?_cons, pb]; omega
end Go.Proofs.YtfjfiljgbkhblaaDoor
