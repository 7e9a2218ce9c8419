/- Masks known by their bits: moved, counted. No program in sight. -/
import Derived.Test.YtmagaapdijapiaaDoorRows
import Derived.Test.YtmagaapdijapiaaDoorTr
namespace Go.Proofs.YtmagaapdijapiaaDoor
open Go.ChangeShapes Go.WideShapes Go.ChangeAt Go.RowKit
/-- a mask with given bits -/
structure IsM (R : List Int) (f : Nat → Nat → Bool) : Prop where
  len : R.length = 16
  m16 : is16 R
  bit : ∀ x y, x < 16 → y < 16 → bitB R x y = f x y
theorem IsM.zero : IsM zr16 fun _ _ => false := ⟨rfl, zr16_16, fun x y _ _ => zr16_bit x y⟩
theorem IsM.self {M : List Int} (h : M.length = 16) (h16 : is16 M) : IsM M (bitB M) := ⟨h, h16, fun _ _ _ _ => rfl⟩
theorem IsM.set {R : List Int} {f : Nat → Nat → Bool} (h : IsM R f) {a b : Nat} (ha : a < 16) (hb : b < 16) : IsM (setOr R b a) fun x y => f x y || (decide (x = a) && decide (y = b)) :=
  ⟨setOr_length h.len _ _, setOr_16 h.m16 _ _, fun x y hx hy => by rw [setOr_bit h.len h.m16 ha hb, h.bit x y hx hy]⟩
theorem IsM.congr {R : List Int} {f g : Nat → Nat → Bool} (h : IsM R f) (hf : ∀ x y, x < 16 → y < 16 → f x y = g x y) : IsM R g := ⟨h.len, h.m16, fun x y hx hy => (h.bit x y hx hy).trans (hf x y hx hy)⟩
theorem IsM.eq {R S : List Int} {f g : Nat → Nat → Bool} (h : IsM R f) (h' : IsM S g) (hf : ∀ x y, x < 16 → y < 16 → f x y = g x y) : R = S :=
  mask_ext h.len h'.len h.m16 h'.m16 fun x y hx hy => by rw [h.bit x y hx hy, h'.bit x y hx hy, hf x y hx hy]
/-! ### moved -/
/-- whether one of some cells goes to a place -/
def mvB (T : Int → Int → Int × Int) (l : List (List Int)) (x y : Nat) : Bool := l.any fun c => T (c.getD 0 0) (c.getD 1 0) == ((x : Int), (y : Int))
theorem mvB_snoc (T : Int → Int → Int × Int) (l : List (List Int)) (a b : Int) (x y : Nat) : mvB T (l ++ [[a, b]]) x y = (mvB T l x y || (T a b == ((x : Int), (y : Int)))) := by
  rw [mvB, mvB, List.any_append]
  simp
theorem mem_cells {M : List Int} {a b : Nat} (ha : a < 16) (hb : b < 16) (h : bitB M a b = true) : [(a : Int), (b : Int)] ∈ mCells M := by
  rw [mCells, cellsTo]
  refine List.mem_map.2 ⟨16 * b + a, List.mem_filter.2 ⟨List.mem_range.2 (by omega), ?_⟩, ?_⟩
  · rw [show (16 * b + a) % 16 = a by omega, show (16 * b + a) / 16 = b by omega]
    exact h
  · rw [show (16 * b + a) % 16 = a by omega, show (16 * b + a) / 16 = b by omega]
theorem cells_mem {M : List Int} {c : List Int} (h : c ∈ mCells M) : ∃ a b : Nat, a < 16 ∧ b < 16 ∧ bitB M a b = true ∧ c = [(a : Int), (b : Int)] := by
  rw [mCells, cellsTo] at h
  obtain ⟨j, hj, rfl⟩ := List.mem_map.1 h
  obtain ⟨h1, h2⟩ := List.mem_filter.1 hj
  have := List.mem_range.1 h1
  exact ⟨j % 16, j / 16, by omega, by omega, h2, rfl⟩
theorem mvB_iff {T : Int → Int → Int × Int} {M : List Int} {x y : Nat} : mvB T (mCells M) x y = true ↔ ∃ a b : Nat, a < 16 ∧ b < 16 ∧ bitB M a b = true ∧ T a b = ((x : Int), (y : Int)) := by
  rw [mvB, List.any_eq_true]
  constructor
  · rintro ⟨c, hc, h⟩
    obtain ⟨a, b, ha, hb, hM, rfl⟩ := cells_mem hc
    exact ⟨a, b, ha, hb, hM, beq_iff_eq.1 h⟩
  · rintro ⟨a, b, ha, hb, hM, h⟩
    exact ⟨_, mem_cells ha hb hM, beq_iff_eq.2 h⟩
def turnT (x y : Int) : Int × Int := (15 - y, x)
def mirT (x y : Int) : Int × Int := (15 - x, y)
def shT (dx dy : Int) (x y : Int) : Int × Int := (x + dx, y + dy)
theorem mv_turn {M : List Int} {x y : Nat} (hx : x < 16) (hy : y < 16) : mvB turnT (mCells M) x y = bitB M y (15 - x) := by
  rw [Bool.eq_iff_iff, mvB_iff]
  constructor
  · rintro ⟨a, b, ha, hb, hM, h⟩
    simp only [turnT, Prod.mk.injEq] at h
    rwa [show y = a by omega, show 15 - x = b by omega]
  · intro h
    refine ⟨y, 15 - x, hy, by omega, h, ?_⟩
    exact Prod.ext (show (15 : Int) - _ = _ by omega) rfl
theorem mv_mir {M : List Int} {x y : Nat} (hx : x < 16) (hy : y < 16) : mvB mirT (mCells M) x y = bitB M (15 - x) y := by
  rw [Bool.eq_iff_iff, mvB_iff]
  constructor
  · rintro ⟨a, b, ha, hb, hM, h⟩
    simp only [mirT, Prod.mk.injEq] at h
    rwa [show y = b by omega, show 15 - x = a by omega]
  · intro h
    refine ⟨15 - x, y, by omega, hy, h, ?_⟩
    exact Prod.ext (show (15 : Int) - _ = _ by omega) rfl
theorem mv_sh {M : List Int} {dx dy : Int} {x y : Nat} : mvB (shT dx dy) (mCells M) x y = (decide (0 ≤ (x : Int) - dx ∧ (x : Int) - dx < 16 ∧ 0 ≤ (y : Int) - dy ∧ (y : Int) - dy < 16) && bitB M ((x : Int) - dx).toNat ((y : Int) - dy).toNat) := by
  rw [Bool.eq_iff_iff, mvB_iff, Bool.and_eq_true, decide_eq_true_iff]
  constructor
  · rintro ⟨a, b, ha, hb, hM, h⟩
    simp only [shT, Prod.mk.injEq] at h
    exact ⟨by omega, by rwa [show ((x : Int) - dx).toNat = a by omega, show ((y : Int) - dy).toNat = b by omega]⟩
  · rintro ⟨h, hM⟩
    refine ⟨_, _, by omega, by omega, hM, ?_⟩
    simp only [shT, Prod.mk.injEq]
    omega
/-! ### counted -/
def cnt (f : Nat → Nat → Bool) (n : Nat) : Nat := (List.range n).countP fun j => f (j % 16) (j / 16)
theorem cnt_cells (M : List Int) (n : Nat) : (cellsTo M n).length = cnt (bitB M) n := by
  rw [cellsTo, List.length_map, cnt, List.countP_eq_length_filter]
theorem cnt_le (f : Nat → Nat → Bool) (n : Nat) : cnt f n ≤ n := by
  have := List.countP_le_length (p := fun j => f (j % 16) (j / 16)) (l := List.range n)
  rwa [List.length_range] at this
theorem cnt_congr {f g : Nat → Nat → Bool} (h : ∀ x y, x < 16 → y < 16 → f x y = g x y) : cnt f 256 = cnt g 256 := by
  rw [cnt, cnt]
  refine List.countP_congr fun j hj => ?_
  have := List.mem_range.1 hj
  rw [h _ _ (by omega) (by omega)]
theorem countP_sum {α : Type} (p q : α → Bool) : ∀ l : List α, (l.countP fun x => p x || q x) + (l.countP fun x => p x && q x) = l.countP p + l.countP q
  | [] => rfl
  | x :: l => by
    have ih := countP_sum p q l
    simp only [List.countP_cons]
    cases p x <;> cases q x <;> simp <;> omega
theorem cnt_sum (f g : Nat → Nat → Bool) (n : Nat) : cnt (fun x y => f x y || g x y) n + cnt (fun x y => f x y && g x y) n = cnt f n + cnt g n := countP_sum _ _ _
theorem cnt_none (n : Nat) : cnt (fun _ _ => false) n = 0 := by
  rw [cnt, List.countP_eq_zero]
  simp
theorem perm_turn : ((List.range 256).map fun j => j / 16 + 16 * (15 - j % 16)).isPerm (List.range 256) = true := by decide +kernel
theorem cnt_turn (f : Nat → Nat → Bool) : cnt (fun x y => f y (15 - x)) 256 = cnt f 256 := by
  have hp : ((List.range 256).map fun j => j / 16 + 16 * (15 - j % 16)).Perm (List.range 256) := List.isPerm_iff.1 perm_turn
  have h := hp.countP_eq (fun j => f (j % 16) (j / 16))
  rw [List.countP_map] at h
  rw [cnt, cnt, ← h]
  refine List.countP_congr fun j hj => ?_
  have hj := List.mem_range.1 hj
  show f _ _ = true ↔ f _ _ = true
  rw [show (j / 16 + 16 * (15 - j % 16)) % 16 = j / 16 by omega, show (j / 16 + 16 * (15 - j % 16)) / 16 = 15 - j % 16 by omega]
theorem cnt_one {a b : Nat} (ha : a < 16) (hb : b < 16) : cnt (fun x y => decide (x = a) && decide (y = b)) 256 = 1 := by
  have h : (List.range 256).countP (fun j => j == 16 * b + a) = 1 := by
    have h1 : (List.range 256).count (16 * b + a) = if 16 * b + a < 256 then 1 else 0 := List.count_range ..
    rw [if_pos (by omega)] at h1
    exact h1
  rw [cnt, ← h]
  refine List.countP_congr fun j hj => ?_
  rw [Bool.and_eq_true, decide_eq_true_iff, decide_eq_true_iff, beq_iff_eq]
  omega
theorem cnt_set {f : Nat → Nat → Bool} {a b : Nat} (ha : a < 16) (hb : b < 16) (h : f a b = false) : cnt (fun x y => f x y || (decide (x = a) && decide (y = b))) 256 = cnt f 256 + 1 := by
  have h1 := cnt_sum f (fun x y => decide (x = a) && decide (y = b)) 256
  have h2 : cnt (fun x y => f x y && (decide (x = a) && decide (y = b))) 256 = 0 := by
    rw [← cnt_none 256]
    refine cnt_congr fun x y _ _ => ?_
    by_cases e : x = a ∧ y = b
    · obtain ⟨rfl, rfl⟩ := e
      rw [h, Bool.false_and]
    · rw [Bool.and_eq_false_iff, Bool.and_eq_false_iff, decide_eq_false_iff_not, decide_eq_false_iff_not]
      refine .inr ?_
      omega
  rw [h2, cnt_one ha hb] at h1
  omega
end Go.Proofs.YtmagaapdijapiaaDoor
