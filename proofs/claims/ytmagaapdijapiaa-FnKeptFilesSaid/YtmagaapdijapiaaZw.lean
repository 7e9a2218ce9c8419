/- A word is found again in its code: plain law. -/
import Derived.Test.YtmagaapdijapiaaRows
import Derived.Test.YtmagaapdijapiaaWj
namespace Go.Proofs.Ytmagaapdijapiaa
open Go.ChangeShapes Go.WideShapes Go.ChangeAt Go.RowKit
theorem ifC {p q : Prop} [Decidable p] [Decidable q] {a b : Int} (h : p ↔ q) : (if p then a else b) = if q then a else b := by
  by_cases hp : p
  · rw [if_pos hp, if_pos (h.1 hp)]
  · rw [if_neg hp, if_neg fun hq => hp (h.2 hq)]
theorem and1' {v : Int} (h0 : 0 ≤ v) (h1 : v ≤ 255) : bits .and .u8 v 1 = v % 2 := by
  have := and1 ⟨v.toNat, by omega⟩
  simpa only [show ((v.toNat : Nat) : Int) = v by omega] using this
theorem orbit8 : ∀ a : Fin 256, ∀ b c : Fin 8, bits .or .u8 (a.val : Int) (2 ^ (7 - b.val) % 256) / 2 ^ (7 - c.val) % 2 = if b.val = c.val then 1 else (a.val : Int) / 2 ^ (7 - c.val) % 2 := by decide +kernel
theorem orrange8 : ∀ a : Fin 256, ∀ b : Fin 8, 0 ≤ bits .or .u8 (a.val : Int) (2 ^ (7 - b.val) % 256) ∧ bits .or .u8 (a.val : Int) (2 ^ (7 - b.val) % 256) ≤ 255 := by decide +kernel
theorem orbit {a : Int} {b c : Nat} (h0 : 0 ≤ a) (h1 : a ≤ 255) (hb : b < 8) (hc : c < 8) : bits .or .u8 a (2 ^ (7 - b) % 256) / 2 ^ (7 - c) % 2 = if b = c then 1 else a / 2 ^ (7 - c) % 2 := by
  have := orbit8 ⟨a.toNat, by omega⟩ ⟨b, hb⟩ ⟨c, hc⟩
  simpa only [show ((a.toNat : Nat) : Int) = a by omega] using this
theorem orrange {a : Int} {b : Nat} (h0 : 0 ≤ a) (h1 : a ≤ 255) (hb : b < 8) : 0 ≤ bits .or .u8 a (2 ^ (7 - b) % 256) ∧ bits .or .u8 a (2 ^ (7 - b) % 256) ≤ 255 := by
  have := orrange8 ⟨a.toNat, by omega⟩ ⟨b, hb⟩
  simpa only [show ((a.toNat : Nat) : Int) = a by omega] using this
theorem cbit_mod {c : List Int} (h : is255 c) (p : Nat) : cbit c p = c.getD (1 + p / 8) 0 / 2 ^ (7 - p % 8) % 2 := by
  have hd := h.getD (1 + p / 8)
  rw [cbit, and1' (Int.ediv_nonneg hd.1 (Int.le_of_lt (Int.pow_pos (by decide)))) (Int.le_trans (Int.ediv_le_self _ hd.1) hd.2)]
theorem cw_255 {s : ByteArray} (hs : s.size ≤ 255) : ∀ p, is255 (cw s p)
  | 0 => fun x hx => by
    rw [cw] at hx
    rcases List.mem_cons.1 hx with rfl | h
    · omega
    · have := List.eq_of_mem_replicate h
      omega
  | p + 1 => by
    have ih := cw_255 hs p
    rw [cw]
    split
    · intro x hx
      rcases List.mem_or_eq_of_mem_set hx with h | rfl
      · exact ih x h
      · exact orrange (ih.getD _).1 (ih.getD _).2 (Nat.mod_lt _ (by decide))
    · exact ih
theorem cw_head (s : ByteArray) : ∀ p, (cw s p).getD 0 0 = s.size
  | 0 => rfl
  | p + 1 => by
    rw [cw]
    split
    · rw [List.getD_eq_getElem?_getD, List.getElem?_set_ne (by omega), ← List.getD_eq_getElem?_getD, cw_head s p]
    · exact cw_head s p
theorem cbit_cw {s : ByteArray} (hs : s.size ≤ 255) : ∀ n, n ≤ 120 → ∀ q, q < 120 → cbit (cw s n) q = if q < n ∧ wbit s q = true then 1 else 0
  | 0, _, q, hq => by
    have h0 : (cw s 0).getD (1 + q / 8) 0 = 0 := by
      rw [cw, Nat.add_comm 1, List.getD_eq_getElem?_getD, List.getElem?_cons_succ, List.getElem?_replicate]
      split <;> rfl
    rw [cbit_mod (cw_255 hs 0), if_neg (by omega), h0]
    simp
  | n + 1, hn, q, hq => by
    have ih := cbit_cw hs n (by omega) q hq
    cases hb : wbit s n
    · rw [cw_no hb, ih]
      by_cases e : q = n
      · subst e
        rw [hb]
        simp
      · exact ifC (by constructor <;> rintro ⟨a, b⟩ <;> exact ⟨by omega, b⟩)
    · have hl := cw_length s n
      have h255 := cw_255 hs n
      rw [cbit_mod (cw_255 hs (n + 1)), cw_yes hb, List.getD_eq_getElem?_getD]
      rw [cbit_mod h255] at ih
      by_cases e8 : n / 8 = q / 8
      · rw [← e8, List.getElem?_set_self (by omega), Option.getD_some, orbit (h255.getD _).1 (h255.getD _).2 (Nat.mod_lt _ (by decide)) (Nat.mod_lt _ (by decide)), e8, ih]
        by_cases e : q = n
        · subst e
          rw [if_pos rfl, if_pos ⟨by omega, hb⟩]
        · rw [if_neg (by omega)]
          exact ifC (by constructor <;> rintro ⟨a, b⟩ <;> exact ⟨by omega, b⟩)
      · rw [List.getElem?_set_ne (by omega), ← List.getD_eq_getElem?_getD, ih]
        exact ifC (by constructor <;> rintro ⟨a, b⟩ <;> exact ⟨by omega, b⟩)
theorem bit3 (v : Int) (h0 : 0 ≤ v) (h1 : v ≤ 7) : 2 * (2 * (2 * 0 + (if decide (v / 2 ^ (2 - 0) % 2 = 1) = true then 1 else 0)) + (if decide (v / 2 ^ (2 - 1) % 2 = 1) = true then 1 else 0)) + (if decide (v / 2 ^ (2 - 2) % 2 = 1) = true then 1 else 0) = v := by
  rcases (by omega : v = 0 ∨ v = 1 ∨ v = 2 ∨ v = 3 ∨ v = 4 ∨ v = 5 ∨ v = 6 ∨ v = 7) with rfl | rfl | rfl | rfl | rfl | rfl | rfl | rfl <;> decide
theorem pl_wcV {s : ByteArray} (hw : wOk s = true) {i : Nat} (hi : i < s.size) : pl (wcV s) i 3 = lt (bAt s i) := by
  have h40 := wOk_size hw
  have hc : ∀ b, b < 3 → cbit (wcV s) (3 * i + b) = if decide (lt (bAt s i) / 2 ^ (2 - b) % 2 = 1) = true then 1 else 0 := fun b hb => by
    rw [wcV, if_pos hw, cbit_cw (by omega) _ (by omega) _ (by omega), wbit_b s i b hb]
    exact ifC ⟨fun h => h.2, fun h => ⟨by omega, h⟩⟩
  have hl := lt_of_isL (wOk_isL hw hi)
  rw [pl, pl, pl, pl, hc 0 (by decide), hc 1 (by decide), hc 2 (by decide), bit3 _ hl.1 hl.2]
theorem lts_lt {x : Int} (h : isL x = true) : lts.getD (lt x).toNat 0 = x := by
  rcases isL_cases h with rfl | rfl | rfl | rfl | rfl | rfl | rfl | rfl <;> decide
theorem nums_back (t : ByteArray) : strOfNums (bys t) = t := by
  apply ByteArray.ext
  apply Array.ext'
  rw [strOfNums_data, bys, List.map_map]
  exact List.map_id'' (fun b => by simp) _
theorem dw_wcV {s : ByteArray} (hw : wOk s = true) : dw (wcV s) = s := by
  have hh : (wcV s).getD 0 0 = s.size := by rw [wcV, if_pos hw, cw_head]
  have hd : dl (wcV s) s.size = bys s := by
    apply List.ext_getElem
    · rw [dl_length, bys_length]
    · intro i h1 h2
      rw [dl_length] at h1
      have e := bys_at (s := s) (k := i)
      rw [List.getD_eq_getElem?_getD, List.getElem?_eq_getElem h2, Option.getD_some] at e
      simp only [dl, List.getElem_map, List.getElem_range]
      rw [e, pl_wcV hw h1, lts_lt (wOk_isL hw h1)]
  rw [dw, hh, Int.toNat_natCast, hd]
  exact nums_back s
theorem woOk_wcV {s : ByteArray} (hw : wOk s = true) : woOk (wcV s) = true := by
  rw [woOk, dw_wcV hw, beq_self_eq_true, Bool.and_true, wcV, if_pos hw, cw_head, decide_eq_true_iff]
  have := wOk_size hw
  omega
end Go.Proofs.Ytmagaapdijapiaa
