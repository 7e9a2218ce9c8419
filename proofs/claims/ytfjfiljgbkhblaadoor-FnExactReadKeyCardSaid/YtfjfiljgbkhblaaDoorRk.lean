/- ReadKey: the key that a text tells. Plain law; the reference's walk. -/
import Derived.Test.YtfjfiljgbkhblaaDoorRows
import Derived.Test.YtfjfiljgbkhblaaDoorHk
import Derived.Lib.HexFns2
import Derived.Lib.EndianBits
namespace Go.Proofs.YtfjfiljgbkhblaaDoor
open Go.ChangeShapes Go.WideShapes Go.ChangeAt Go.RowKit

def nums (l : List UInt8) : List Int := l.map fun b => (b.toNat : Int)
def vHex (x : Int) : Bool := (decide (48 ≤ x) && decide (x ≤ 57)) || (decide (97 ≤ x) && decide (x ≤ 102))
def dg (x : Int) : Int := if x ≤ 57 then x - 48 else x - 97 + 10
def rkOk (t : List Int) : Bool := decide (t.length = 32) && t.all vHex
def rkTo (t : List Int) (k : Nat) : List Int := (List.range 16).map fun j => if 2 * j + 2 ≤ k then dg (t.getD (2 * j) 0) * 16 + dg (t.getD (2 * j + 1) 0) else if 2 * j + 1 ≤ k then dg (t.getD (2 * j) 0) else 0
def rkV (t : List Int) : List Int := if rkOk t then rkTo t 32 else List.replicate 16 0
def rkC (t : List Int) : Int := if rkOk t then 0 else 5
theorem rkTo_length (t : List Int) (k : Nat) : (rkTo t k).length = 16 := by simp [rkTo]
theorem rkV_length (t : List Int) : (rkV t).length = 16 := by
  unfold rkV
  split
  · exact rkTo_length _ _
  · simp
theorem dg_range {x : Int} (h : vHex x = true) : 0 ≤ dg x ∧ dg x ≤ 15 := by
  simp only [vHex, Bool.or_eq_true, Bool.and_eq_true, decide_eq_true_eq] at h
  unfold dg
  split <;> omega
theorem rkTo_get {t : List Int} {k j : Nat} (h : j < 16) : (rkTo t k)[j]? = some (if 2 * j + 2 ≤ k then dg (t.getD (2 * j) 0) * 16 + dg (t.getD (2 * j + 1) 0) else if 2 * j + 1 ≤ k then dg (t.getD (2 * j) 0) else 0) := by
  rw [rkTo, List.getElem?_map, List.getElem?_range h]
  rfl
theorem rkTo_zero (t : List Int) : rkTo t 0 = List.replicate 16 0 := by
  apply List.ext_getElem?
  intro j
  by_cases h : j < 16
  · rw [rkTo_get h, if_neg (by omega), if_neg (by omega), List.getElem?_replicate, if_pos h]
  · rw [List.getElem?_eq_none (by rw [rkTo_length]; omega), List.getElem?_eq_none (by simp; omega)]
theorem rkTo_step {t : List Int} {k : Nat} (_hk : k < 32) {x : Int} (hx : x = (if k % 2 = 0 then 0 else dg (t.getD (2 * (k / 2)) 0)) * 16 + dg (t.getD k 0)) : (rkTo t k).set (k / 2) x = rkTo t (k + 1) := by
  apply List.ext_getElem?
  intro j
  by_cases h : j < 16
  · rw [rkTo_get h]
    by_cases e : k / 2 = j
    · subst e
      rw [List.getElem?_set_self (by rw [rkTo_length]; omega), hx]
      by_cases e2 : k % 2 = 0
      · rw [if_pos e2, if_neg (by omega), if_pos (by omega), show 2 * (k / 2) = k by omega]
        simp
      · rw [if_neg e2, if_pos (by omega), show 2 * (k / 2) + 1 = k by omega]
    · rw [List.getElem?_set_ne e, rkTo_get h]
      have e1 : (2 * j + 2 ≤ k) ↔ (2 * j + 2 ≤ k + 1) := by omega
      have e2 : (2 * j + 1 ≤ k) ↔ (2 * j + 1 ≤ k + 1) := by omega
      simp only [e1, e2]
  · rw [List.getElem?_eq_none (by rw [List.length_set, rkTo_length]; omega), List.getElem?_eq_none (by rw [rkTo_length]; omega)]
theorem u8_shl4_or (x d : Int) (h0 : 0 ≤ x) (h1 : x ≤ 15) (g0 : 0 ≤ d) (g1 : d ≤ 15) : bits .or .u8 (x * 16) d = x * 16 + d :=
  bits_join .u8 8 (by decide) (fun n a b => by rw [IntKind.wrap_u8']; omega) 4 (x * 16) d (by omega) (by omega) (by omega) g0 (by omega) (by omega)

/-! ### what the text of the key says -/
theorem hexd_dg {x : Int} (h : vHex x = true) : hexd (dg x) = x := by
  simp only [vHex, Bool.or_eq_true, Bool.and_eq_true, decide_eq_true_eq] at h
  have : x = 48 ∨ x = 49 ∨ x = 50 ∨ x = 51 ∨ x = 52 ∨ x = 53 ∨ x = 54 ∨ x = 55 ∨ x = 56 ∨ x = 57 ∨ x = 97 ∨ x = 98 ∨ x = 99 ∨ x = 100 ∨ x = 101 ∨ x = 102 := by omega
  rcases this with rfl | rfl | rfl | rfl | rfl | rfl | rfl | rfl | rfl | rfl | rfl | rfl | rfl | rfl | rfl | rfl <;> rfl
theorem hexd_v {d : Int} (h0 : 0 ≤ d) (h1 : d ≤ 15) : vHex (hexd d) = true ∧ dg (hexd d) = d := by
  rcases (by omega : d = 0 ∨ d = 1 ∨ d = 2 ∨ d = 3 ∨ d = 4 ∨ d = 5 ∨ d = 6 ∨ d = 7 ∨ d = 8 ∨ d = 9 ∨ d = 10 ∨ d = 11 ∨ d = 12 ∨ d = 13 ∨ d = 14 ∨ d = 15) with rfl | rfl | rfl | rfl | rfl | rfl | rfl | rfl | rfl | rfl | rfl | rfl | rfl | rfl | rfl | rfl <;> exact ⟨rfl, rfl⟩
/-- pairs of digits as bytes -/
def pairs : List Int → List Int
  | p :: q :: t => (dg p * 16 + dg q) :: pairs t
  | _ => []
theorem pairs_get : ∀ (t : List Int) (j : Nat), 2 * j + 1 < t.length → (pairs t)[j]? = some (dg (t.getD (2 * j) 0) * 16 + dg (t.getD (2 * j + 1) 0))
  | p :: q :: t, 0, _ => rfl
  | p :: q :: t, j + 1, h => by
    have := pairs_get t j (by simp at h; omega)
    rw [pairs, List.getElem?_cons_succ, this]
    simp only [show 2 * (j + 1) = 2 * j + 1 + 1 by omega, List.getD_cons_succ]
  | [p], j, h => by simp at h
  | [], j, h => by simp at h
theorem pairs_length : ∀ (t : List Int), (pairs t).length = t.length / 2
  | p :: q :: t => by rw [pairs, List.length_cons, pairs_length t]; simp; omega
  | [p] => by simp [pairs]
  | [] => rfl
theorem rkTo_pairs {t : List Int} (h : t.length = 32) : rkTo t 32 = pairs t := by
  apply List.ext_getElem?
  intro j
  by_cases hj : j < 16
  · rw [rkTo_get hj, if_pos (by omega), pairs_get t j (by omega)]
  · rw [List.getElem?_eq_none (by rw [rkTo_length]; omega), List.getElem?_eq_none (by rw [pairs_length]; omega)]
theorem hexs_pairs : ∀ {t : List Int}, t.length % 2 = 0 → (∀ x ∈ t, vHex x = true) → hexs (pairs t) = t
  | p :: q :: t, h, hv => by
    have hp := hv p (by simp)
    have hq := hv q (by simp)
    have rp := dg_range hp
    have rq := dg_range hq
    rw [pairs, hexs, hexs_pairs (by simp at h; omega) (fun x hx => hv x (by simp [hx])), show (dg p * 16 + dg q) / 16 = dg p by omega, show (dg p * 16 + dg q) % 16 = dg q by omega, hexd_dg hp, hexd_dg hq]
  | [p], h, _ => by simp at h
  | [], _, _ => rfl
theorem hexs_v : ∀ {l : List Int}, (∀ x ∈ l, 0 ≤ x ∧ x ≤ 255) → ∀ x ∈ hexs l, vHex x = true
  | b :: l, h, x, hx => by
    have hb := h b (List.mem_cons_self ..)
    simp only [hexs, List.mem_cons] at hx
    rcases hx with rfl | rfl | hx
    · exact (hexd_v (by omega) (by omega)).1
    · exact (hexd_v (by omega) (by omega)).1
    · exact hexs_v (fun y hy => h y (List.mem_cons_of_mem _ hy)) x hx
  | [], _, x, hx => by cases hx
theorem pairs_255 : ∀ {t : List Int}, (∀ x ∈ t, vHex x = true) → ∀ x ∈ pairs t, 0 ≤ x ∧ x ≤ 255
  | p :: q :: t, hv, x, hx => by
    have rp := dg_range (hv p (by simp))
    have rq := dg_range (hv q (by simp))
    simp only [pairs, List.mem_cons] at hx
    rcases hx with rfl | hx
    · omega
    · exact pairs_255 (fun y hy => hv y (by simp [hy])) x hx
  | [p], _, x, hx => by cases hx
  | [], _, x, hx => by cases hx
theorem v_hex (c : UInt8) (h : vHex (c.toNat : Int) = true) : ((Lib.Hx.v c : Nat) : Int) = dg (c.toNat : Int) ∧ ¬ 15 < Lib.Hx.v c := by
  have hc : c = 48 ∨ c = 49 ∨ c = 50 ∨ c = 51 ∨ c = 52 ∨ c = 53 ∨ c = 54 ∨ c = 55 ∨ c = 56 ∨ c = 57 ∨ c = 97 ∨ c = 98 ∨ c = 99 ∨ c = 100 ∨ c = 101 ∨ c = 102 := by
    simp only [vHex, Bool.or_eq_true, Bool.and_eq_true, decide_eq_true_eq] at h
    have e := UInt8.ofNat_toNat (x := c)
    generalize c.toNat = n at h e
    have : n = 48 ∨ n = 49 ∨ n = 50 ∨ n = 51 ∨ n = 52 ∨ n = 53 ∨ n = 54 ∨ n = 55 ∨ n = 56 ∨ n = 57 ∨ n = 97 ∨ n = 98 ∨ n = 99 ∨ n = 100 ∨ n = 101 ∨ n = 102 := by omega
    rcases this with rfl | rfl | rfl | rfl | rfl | rfl | rfl | rfl | rfl | rfl | rfl | rfl | rfl | rfl | rfl | rfl <;> (rw [← e]; decide)
  rcases hc with rfl | rfl | rfl | rfl | rfl | rfl | rfl | rfl | rfl | rfl | rfl | rfl | rfl | rfl | rfl | rfl <;> decide
theorem decode_ok : ∀ {l : List UInt8}, l.length % 2 = 0 → (∀ x ∈ nums l, vHex x = true) → (Lib.Hx.decode l).2 = .ok ∧ nums (Lib.Hx.decode l).1 = pairs (nums l)
  | p :: q :: t, h, hv => by
    have hp := v_hex p (hv _ (by simp [nums]))
    have hq := v_hex q (hv _ (by simp [nums]))
    have rp := dg_range (hv (p.toNat : Int) (by simp [nums]))
    have rq := dg_range (hv (q.toNat : Int) (by simp [nums]))
    obtain ⟨i1, i2⟩ := decode_ok (l := t) (by simp at h; omega) (fun x hx => hv x (by simp [nums] at hx ⊢; exact .inr (.inr hx)))
    rw [Lib.Hx.decode_two, if_neg hp.2, if_neg hq.2]
    refine ⟨i1, ?_⟩
    show _ :: nums (Lib.Hx.decode t).1 = _ :: pairs (nums t)
    rw [i2]
    congr 1
    show (((UInt8.ofNat (Lib.Hx.v p * 16 + Lib.Hx.v q)).toNat : Nat) : Int) = dg (p.toNat : Int) * 16 + dg (q.toNat : Int)
    rw [UInt8.toNat_ofNat']
    omega
  | [p], h, _ => by simp at h
  | [], _, _ => by rw [Lib.Hx.decode_nil]; exact ⟨rfl, rfl⟩

/-- a byte of a text, as a number -/
def byteAt (s : ByteArray) (k : Nat) : Int := ((s.data.toList.getD k 0).toNat : Int)
theorem byteAt_range (s : ByteArray) (k : Nat) : 0 ≤ byteAt s k ∧ byteAt s k ≤ 255 := by
  unfold byteAt
  have := (s.data.toList.getD k 0).toNat_lt
  omega
theorem byteAt_nums {s : ByteArray} {k : Nat} : (nums s.data.toList).getD k 0 = byteAt s k := by
  unfold byteAt nums
  rw [List.getD_eq_getElem?_getD, List.getElem?_map, List.getD_eq_getElem?_getD]
  cases s.data.toList[k]? <;> rfl
theorem run_byteAt {P : Program} {w : World} {t : TypeId} (ht : P.underlying t = some .string) (s : ByteArray) (k : Nat) (h : k < s.size) : (Instr.index t (.string s) (.int .i64 (k : Nat))).run P w = .ok (.int .u8 (byteAt s k)) w := by
  rw [run_index_string w t s .i64 k ht, dif_pos ⟨by omega, by omega⟩]
  congr 2
  unfold byteAt
  rw [List.getD_eq_getElem?_getD, List.getElem?_eq_getElem (by simpa using h)]
  rfl
theorem run_byteAt9 {w : World} (s : ByteArray) (k : Nat) (h : k < s.size) : (Instr.index 9 (.string s) (.int .i64 (k : Nat))).run Tryd.prog w = .ok (.int .u8 (byteAt s k)) w := run_byteAt Tryd.underlying9 s k h
theorem results_row_tmp {P : Program} {fn : Func} {p u : Tmp} {ty : TypeId} (h : fn.results = #[.cell p ty, .tmp u]) (tmps : Array Value) (w : World) (g : Nat) (t : TypeId) (cs : Array Value) (fr : Nat × Nat) (d : TypeDesc)
    (hp : tmps.getD p undef = .pointer (some ⟨g, 0, none⟩)) (hg : w.heap[g]? = some (.cells cs t fr))
    (hu : P.underlying ty = some d) (hd : (match d with | .struct _ | .array _ _ => true | _ => false) = true) (hi : (P.info? ty).map (·.size) = some cs.size) :
    (results fn tmps).run P w = .ok (.tuple #[.agg cs, tmps.getD u undef]) w := by
  have hp' : tmps[p]?.getD undef = .pointer (some ⟨g, 0, none⟩) := by simpa using hp
  simp [results, h, hp', asAddr, run_loadVar_row w g t ty cs fr d hg hu hd hi]

section
attribute [local go_sem high] run_byteAt9
set_option maxRecDepth 20000 in
set_option maxHeartbeats 6400000 in
theorem sReadKey_any (s : ByteArray) (_hs : s.size ≤ 1048576) (w : World) :
    Calls Tryd.prog 8 #[.string s] w fun e w' => e = .returned (.tuple #[.agg (ivs .u8 (rkV (nums s.data.toList))), .int .i64 (rkC (nums s.data.toList))]) ∧ Below w.heap.size w w' := by
  obtain ⟨t, ht⟩ : ∃ t, t = nums s.data.toList := ⟨_, rfl⟩
  have htl : t.length = s.size := by rw [ht, nums, List.length_map]; exact (Lib.size_eq s).symm
  have htb : ∀ k, t.getD k 0 = byteAt s k := fun k => by rw [ht, byteAt_nums]
  rw [← ht]
  clear ht
  have r1 : Blk ((w.alloc (.cells #[.int .u8 0, .int .u8 0, .int .u8 0, .int .u8 0, .int .u8 0, .int .u8 0, .int .u8 0, .int .u8 0, .int .u8 0, .int .u8 0, .int .u8 0, .int .u8 0, .int .u8 0, .int .u8 0, .int .u8 0, .int .u8 0] 23)).alloc (.cells #[.int .u8 0, .int .u8 0, .int .u8 0, .int .u8 0, .int .u8 0, .int .u8 0, .int .u8 0, .int .u8 0, .int .u8 0, .int .u8 0, .int .u8 0, .int .u8 0, .int .u8 0, .int .u8 0, .int .u8 0, .int .u8 0] 23)) w.heap.size 23 (ivs .u8 (List.replicate 16 0)) := (Blk.newAt rfl rfl).alloc _
  have r2 : Blk ((w.alloc (.cells #[.int .u8 0, .int .u8 0, .int .u8 0, .int .u8 0, .int .u8 0, .int .u8 0, .int .u8 0, .int .u8 0, .int .u8 0, .int .u8 0, .int .u8 0, .int .u8 0, .int .u8 0, .int .u8 0, .int .u8 0, .int .u8 0] 23)).alloc (.cells #[.int .u8 0, .int .u8 0, .int .u8 0, .int .u8 0, .int .u8 0, .int .u8 0, .int .u8 0, .int .u8 0, .int .u8 0, .int .u8 0, .int .u8 0, .int .u8 0, .int .u8 0, .int .u8 0, .int .u8 0, .int .u8 0] 23)) (w.heap.size + 1) 23 (ivs .u8 (List.replicate 16 0)) := Blk.newAt (by simp) rfl
  have b2 : Below w.heap.size w ((w.alloc (.cells #[.int .u8 0, .int .u8 0, .int .u8 0, .int .u8 0, .int .u8 0, .int .u8 0, .int .u8 0, .int .u8 0, .int .u8 0, .int .u8 0, .int .u8 0, .int .u8 0, .int .u8 0, .int .u8 0, .int .u8 0, .int .u8 0] 23)).alloc (.cells #[.int .u8 0, .int .u8 0, .int .u8 0, .int .u8 0, .int .u8 0, .int .u8 0, .int .u8 0, .int .u8 0, .int .u8 0, .int .u8 0, .int .u8 0, .int .u8 0, .int .u8 0, .int .u8 0, .int .u8 0, .int .u8 0] 23)) := ((Below.refl _ _).alloc (Nat.le_refl _) _).alloc (by simp) _
  have r3 := r1.rowFar (show w.heap.size ≠ w.heap.size + 1 by omega) (ivs .u8 (List.replicate 16 0))
  have r4 := r2.row (ivs .u8 (List.replicate 16 0))
  have b3 := below_setRow b2 (g := w.heap.size + 1) (by omega) (ivs .u8 (List.replicate 16 0))
  have e16 : (List.replicate 16 (0 : Int)).length = 16 := rfl
  by_cases h32 : s.size = 32
  · have H32 := Lib.hid h32
    have HTL := Lib.hid htl
    have HTB := Lib.hid htb
    have h32' : 32 ≤ s.size := by omega
    clear h32 htl htb e16
    go_enter Tryd.func8, Tryd.ntmps8
    have hsz : (s.size : Int) = 32 := by have := H32.out; omega
    go_wp2_with (refine wpList_store_row rfl _ _ _ rfl (w.heap.size + 1) (ivs .u8 (List.replicate 16 0)) rfl rfl 23 _ r2 (by rw [ivs_size]; exact size23) (by simp [ivs_size]) ivs_one ?_)
    clear hsz
    go_loopw [5] (fun i wr => ∃ k : Nat, k ≤ 32 ∧ i = .int .i64 k ∧ Hid (∀ j, j < k → vHex (t.getD j 0) = true) ∧ Blk wr w.heap.size 23 (ivs .u8 (List.replicate 16 0)) ∧ Blk wr (w.heap.size + 1) 23 (ivs .u8 (rkTo t k)) ∧ Below w.heap.size w wr) (fun i _ => 32 - (intOf i).toNat)
    case atStart => exact ⟨0, by omega, rfl, Lib.hid (fun j hj => by omega), r3, by rw [rkTo_zero]; exact r4, b3⟩
    case round =>
      clear r1 r2 r3 r4 b2 b3
      obtain ⟨k, hk, rfl, hv, h1, h2, hb⟩ := hrel
      by_cases hlt : k < 32
      · obtain ⟨x0, x1⟩ := byteAt_range s k
        have hkv : vHex (byteAt s k) = true → Hid (∀ j, j < k + 1 → vHex (t.getD j 0) = true) := fun h => Lib.hid (fun j hj => by
          by_cases e : j = k
          · subst e; rw [HTB.out]; exact h
          · exact hv.out j (by omega))
        have hkn : vHex (byteAt s k) = false → rkOk t = false := fun h => by
          rw [rkOk, Bool.and_eq_false_iff]
          refine .inr ?_
          rw [List.all_eq_false]
          refine ⟨t.getD k 0, ?_, by rw [HTB.out, h]; decide⟩
          rw [List.getD_eq_getElem?_getD, List.getElem?_eq_getElem (by have := HTL.out; omega)]
          exact List.getElem_mem _
        have HKV := Lib.hid hkv
        have HKN := Lib.hid hkn
        have hks : k < s.size := by omega
        have c2 := h2.getD (k / 2) (by rw [rkTo_length]; omega)
        rw [Nat.zero_add] at c2
        have hold : (rkTo t k).getD (k / 2) 0 = if k % 2 = 0 then 0 else dg (t.getD (2 * (k / 2)) 0) := by
          rw [List.getD_eq_getElem?_getD, rkTo_get (by omega), if_neg (by omega)]
          by_cases e : k % 2 = 0
          · rw [if_pos e, if_neg (by omega)]; rfl
          · rw [if_neg e, if_pos (by omega)]; rfl
        have hold2 : 0 ≤ (rkTo t k).getD (k / 2) 0 ∧ (rkTo t k).getD (k / 2) 0 ≤ 15 := by
          rw [hold]
          split
          · omega
          · exact dg_range (hv.out _ (by omega))
        obtain ⟨y, hy⟩ : ∃ y, y = (rkTo t k).getD (k / 2) 0 := ⟨_, rfl⟩
        rw [← hy] at c2 hold hold2
        obtain ⟨y0, y1⟩ := hold2
        have HOLD := Lib.hid hold
        clear hold hy
        have hm16 : y * 16 % 256 = y * 16 := by omega
        have HM16 := Lib.hid hm16
        clear hm16
        have f2 := h2.frozen (k / 2)
        by_cases g1 : 48 ≤ byteAt s k ∧ byteAt s k ≤ 57
        · obtain ⟨g1, g2⟩ := g1
          have hv0 : vHex (byteAt s k) = true := by rw [vHex, decide_eq_true g1, decide_eq_true g2]; rfl
          have hd : dg (byteAt s k) = byteAt s k - 48 := by unfold dg; rw [if_pos g2]
          have hval := u8_shl4_or y (byteAt s k - 48) y0 y1 (by omega) (by omega)
          rw [HOLD.out] at hval
          have hset := rkTo_step (t := t) hlt (x := (if k % 2 = 0 then 0 else dg (t.getD (2 * (k / 2)) 0)) * 16 + (byteAt s k - 48)) (by rw [HTB.out k, hd])
          rw [← hval, ← HOLD.out] at hset
          have HSET := Lib.hid hset
          have HV := HKV.out hv0
          clear hv hd hval hset hv0
          go_wp2
          exact ⟨⟨k + 1, by omega, by go_num, HV, h1.far (by simp) _, by rw [← HSET.out]; first | exact h2.setI _ _ | (rw [HM16.out]; exact h2.setI _ _) | (rw [← HM16.out]; exact h2.setI _ _), hb.setCell (by simp) _⟩, by simp [intOf]; omega⟩
        · by_cases g2 : 97 ≤ byteAt s k ∧ byteAt s k ≤ 102
          · obtain ⟨g2, g3⟩ := g2
            have g4 : ¬ byteAt s k ≤ 57 := by omega
            have hv0 : vHex (byteAt s k) = true := by rw [vHex, decide_eq_true g2, decide_eq_true g3]; simp
            clear g1
            have hd : dg (byteAt s k) = byteAt s k - 97 + 10 := by unfold dg; rw [if_neg g4]
            have hval := u8_shl4_or y (byteAt s k - 97 + 10) y0 y1 (by omega) (by omega)
            rw [HOLD.out] at hval
            have hset := rkTo_step (t := t) hlt (x := (if k % 2 = 0 then 0 else dg (t.getD (2 * (k / 2)) 0)) * 16 + (byteAt s k - 97 + 10)) (by rw [HTB.out k, hd])
            rw [← hval, ← HOLD.out] at hset
            have HSET := Lib.hid hset
            have HV := HKV.out hv0
            clear hv hd hval hset hv0
            go_wp2
            exact ⟨⟨k + 1, by omega, by go_num, HV, h1.far (by simp) _, by rw [← HSET.out]; first | exact h2.setI _ _ | (rw [HM16.out]; exact h2.setI _ _) | (rw [← HM16.out]; exact h2.setI _ _), hb.setCell (by simp) _⟩, by simp [intOf]; omega⟩
          · have hv0 : vHex (byteAt s k) = false := by
              rw [vHex]
              by_cases a1 : 48 ≤ byteAt s k
              · rw [decide_eq_true a1, decide_eq_false (show ¬ byteAt s k ≤ 57 by omega)]
                by_cases a2 : 97 ≤ byteAt s k
                · rw [decide_eq_false (show ¬ byteAt s k ≤ 102 by omega)]; simp
                · rw [decide_eq_false a2]; rfl
              · rw [decide_eq_false a1, decide_eq_false (show ¬ 97 ≤ byteAt s k by omega)]; rfl
            rcases (by omega : byteAt s k < 48 ∨ (57 < byteAt s k ∧ byteAt s k < 97) ∨ 102 < byteAt s k) with g3 | ⟨g3, g4⟩ | g3
            all_goals
              clear g1 g2
              have e1 : rkOk t = false := HKN.out hv0
              have e2 : rkV t = List.replicate 16 0 := by rw [rkV, e1]; rfl
              have e3 : rkC t = 5 := by rw [rkC, e1]; rfl
              have HE2 := Lib.hid e2
              have HE3 := Lib.hid e3
              clear hv e1 e2 e3 hv0
              go_wp2_with (refine wpList_store_row rfl _ _ _ rfl w.heap.size (ivs .u8 (List.replicate 16 0)) rfl rfl 23 _ h1 (by rw [ivs_size]; exact size23) (by simp [ivs_size]) ivs_one ?_)
              exact bodyPost_ret (results_row_tmp rfl _ _ w.heap.size 23 (ivs .u8 (List.replicate 16 0)) (0, 0) _ rfl (h1.row _) Tryd.underlying23 rfl (by rw [ivs_size]; exact size23)) rfl ⟨by rw [HE2.out, HE3.out]; rfl, below_setRow hb (by omega) _⟩
      · have : k = 32 := by omega
        subst this
        have e1 : rkOk t = true := by
          rw [rkOk, decide_eq_true (by rw [HTL.out]; exact H32.out), Bool.true_and, List.all_eq_true]
          intro x hx
          obtain ⟨j, hj, rfl⟩ := List.getElem_of_mem hx
          have := hv.out j (by have := HTL.out; have := H32.out; omega)
          rwa [List.getD_eq_getElem?_getD, List.getElem?_eq_getElem hj] at this
        have e2 : rkV t = rkTo t 32 := by rw [rkV, e1]; rfl
        have e3 : rkC t = 0 := by rw [rkC, e1]; rfl
        have HE2 := Lib.hid e2
        have HE3 := Lib.hid e3
        have hl := rkTo_length t 32
        have HL := Lib.hid hl
        clear hv e1 e2 e3 hl
        go_wp2_with (first
          | refine wpList_load_row rfl _ _ rfl (w.heap.size + 1) rfl 23 (ivs .u8 (rkTo t 32)) (0, 0) _ h2 Tryd.underlying23 rfl (by rw [ivs_size, HL.out]; exact size23) ?_
          | refine wpList_store_row rfl _ _ _ rfl w.heap.size (ivs .u8 (rkTo t 32)) rfl rfl 23 _ h1 (by rw [ivs_size, HL.out]; exact size23) (by simp [ivs_size, HL.out]) ivs_one ?_)
        exact bodyPost_ret (results_row_tmp rfl _ _ w.heap.size 23 (ivs .u8 (rkTo t 32)) (0, 0) _ rfl (h1.row _) Tryd.underlying23 rfl (by rw [ivs_size, HL.out]; exact size23)) rfl ⟨by rw [HE2.out, HE3.out]; rfl, below_setRow hb (by omega) _⟩
  · have e1 : rkOk t = false := by rw [rkOk, decide_eq_false (by omega)]; rfl
    have e2 : rkV t = List.replicate 16 0 := by rw [rkV, e1]; rfl
    have e3 : rkC t = 5 := by rw [rkC, e1]; rfl
    rw [e2, e3]
    have hne : ¬ (s.size : Int) = 32 := by omega
    clear e1 e2 e3 htl htb h32
    go_enter Tryd.func8, Tryd.ntmps8
    go_wp2_with (first
      | refine wpList_store_row rfl _ _ _ rfl (w.heap.size + 1) (ivs .u8 (List.replicate 16 0)) rfl rfl 23 _ r2 (by rw [ivs_size]; exact size23) (by simp [ivs_size]) ivs_one ?_
      | refine wpList_store_row rfl _ _ _ rfl w.heap.size (ivs .u8 (List.replicate 16 0)) rfl rfl 23 _ r3 (by rw [ivs_size]; exact size23) (by simp [ivs_size]) ivs_one ?_)
    exact bodyPost_ret (results_row_tmp rfl _ _ w.heap.size 23 (ivs .u8 (List.replicate 16 0)) (0, 0) _ rfl (r3.row _) Tryd.underlying23 rfl (by rw [ivs_size]; exact size23)) rfl ⟨rfl, below_setRow b3 (by omega) _⟩
end
end Go.Proofs.YtfjfiljgbkhblaaDoor
