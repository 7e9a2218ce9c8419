/- Whether a picture has a cell: the reference, and the program. -/
import Derived.Test.YtmagaapdijapiaaDoorRows
import Derived.Test.YtmagaapdijapiaaDoorMq
import Derived.Test.YtmagaapdijapiaaDoorCj
namespace Go.Proofs.YtmagaapdijapiaaDoor
open Go.ChangeShapes Go.WideShapes Go.ChangeAt Go.RowKit
theorem maskAt_no {l : List Bl} {key : List Int} (h : ∀ b ∈ l, key ≠ b.1) : maskAt l key = zr16 := by
  rw [maskAt, List.find?_eq_none.2 (fun b hb => by rw [beq_iff_eq]; exact h b hb)]
theorem maskAt_take {l : List Bl} {key : List Int} {k : Nat} (hk : k < l.length) (h : ∀ b ∈ l.take k, key ≠ b.1) (he : key = l[k].1) : maskAt l key = l[k].2 := by
  have hf : l.find? (fun b => key == b.1) = some l[k] := by
    rw [List.find?_eq_some_iff_getElem]
    refine ⟨by rw [beq_iff_eq]; exact he, k, hk, rfl, fun j hj => ?_⟩
    have := h l[j] (by rw [List.mem_take_iff_getElem]; exact ⟨j, by omega, rfl⟩)
    simpa using this
  rw [maskAt, hf]
section
attribute [local go_sem ↓] exec_ldCorner
attribute [local go_sem] run_ldCorner
end
def holdsB (l : List Bl) (x y : Int) : Bool := cellB x y && hasB l x y
theorem cellB_in {x y : Int} (h : cellB x y = true) : (-1000000 ≤ x ∧ x ≤ 1000000) ∧ (-1000000 ≤ y ∧ y ≤ 1000000) := by
  simp only [cellB, inB, Bool.and_eq_true, decide_eq_true_iff] at h
  exact h
/-- corners in order -/
def ltC (a b : Bl) : Prop := a.1.getD 1 0 < b.1.getD 1 0 ∨ (a.1.getD 1 0 = b.1.getD 1 0 ∧ a.1.getD 0 0 < b.1.getD 0 0)
theorem befB_iff (a b : Bl) : befB a b = true ↔ ltC a b := by
  rw [befB, cmpC_lt, ltC]
  split
  · exact ⟨fun _ => .inl (by assumption), fun _ => rfl⟩
  · split
    · rw [decide_eq_true_iff]
      omega
    · exact ⟨fun h => absurd h (by decide), fun h => by omega⟩
theorem ltC_trans {a b c : Bl} (h1 : ltC a b) (h2 : ltC b c) : ltC a c := by
  unfold ltC at *
  omega
def Rising (l : List Bl) : Prop := l.Pairwise ltC
theorem rising_of_vpB {l : List Bl} (h : vpB l = true) : Rising l := by
  have hs : ∀ k (hk : k + 1 < l.length), ltC l[k] l[k + 1] := fun k hk => by
    rw [vpB, Bool.and_eq_true, vpTo, List.all_eq_true] at h
    have := h.1 (k + 1) (List.mem_range.2 hk)
    rw [blkAt, Bool.and_eq_true, Nat.add_sub_cancel, getDB_at hk, getDB_at (show k < l.length by omega)] at this
    rw [← befB_iff]
    simpa using this.1
  rw [Rising, List.pairwise_iff_getElem]
  intro i j hi hj hij
  obtain ⟨d, rfl⟩ : ∃ d, j = i + 1 + d := ⟨j - i - 1, by omega⟩
  clear hij
  induction d with
  | zero => exact hs i hj
  | succ d ih => exact ltC_trans (ih (by omega)) (hs (i + 1 + d) hj)
theorem apart_of_rising {l : List Bl} (h : Rising l) : Apart l := List.Pairwise.imp (fun {a b} hab e => by
  rw [ltC, e] at hab
  omega) h
/-- what is told of a cell -/
def hasV (l : List Bl) (x y : Int) : Bool × Int := if vpB l then (if cellB x y then (hasB l x y, 0) else (false, 2)) else (false, 1)
theorem iPictureHas_any (A : Option Addr) (n c : Nat) (l : List Bl) (hl : l.length = n) (hrow : Bls l) (h16 : ∀ b ∈ l, is16 b.2) (h32 : ∀ b ∈ l, ∀ x ∈ b.1, -2147483648 ≤ x ∧ x ≤ 2147483647) (x y : Int) (hn : n ≤ 1048576) (w : World) (hR : Rd w w.heap.size 18 A n (bcs l)) :
    Calls Tryd.prog 14 #[.slice A n c, .int .i64 x, .int .i64 y] w fun e w' => e = .returned (.tuple #[.bool (hasV l x y).1, .int .i64 (hasV l x y).2]) ∧ Below w.heap.size w w' := by
  have ho := fun W h => iValidPicture_any A n c l hl hrow h16 h32 hn W h
  have hc := fun W => isCell_any x y W
  have hap : vpB l = true → Apart l := fun h => apart_of_rising (rising_of_vpB h)
  have hm := fun h W hR => masksOf_any A n c l hl hrow (hap h) hn W hR
  have hh := fun (h : cellB x y = true) g c W h1 h2 => has_any g l hrow h16 x y (by have := (cellB_in h).1; omega) (by have := (cellB_in h).2; omega) c W h1 h2
  rw [hasV]
  clear hap hl hrow h16 h32
  generalize vpB l = ok at *
  generalize cellB x y = ce at *
  generalize hasB l x y = r at *
  cases ok
  · clear hh hm
    go_enter Tryd.func14, Tryd.ntmps14
    go_wp2_with (first
      | (go_at_call 36; refine (ho _ (hR.more (by first | exact Nat.le_refl _ | omega))).mono ?_; rintro e w1 ⟨rfl, b1⟩))
    go_ret2
    exact ⟨rfl, b1⟩
  · cases ce
    · clear hh hm
      go_enter Tryd.func14, Tryd.ntmps14
      go_wp2_with (first
        | (go_at_call 36; refine (ho _ (hR.more (by first | exact Nat.le_refl _ | omega))).mono ?_; rintro e w1 ⟨rfl, b1⟩)
        | (go_at_call 47; refine (hc _).mono ?_; rintro e w1 ⟨rfl, rfl⟩))
      go_ret2
      exact ⟨rfl, b1⟩
    · have hm' := hm rfl
      have hh' := hh rfl
      clear hm hh
      go_enter Tryd.func14, Tryd.ntmps14
      go_wp2_with (first
        | (go_at_call 36; refine (ho _ (hR.more (by first | exact Nat.le_refl _ | omega))).mono ?_; rintro e w1 ⟨rfl, b1⟩)
        | (go_at_call 47; refine (hc _).mono ?_; rintro e w1 ⟨rfl, rfl⟩)
        | (go_at_call 40; refine (hm' _ ((hR.below b1 (Nat.le_refl _)).more b1.size)).mono ?_; rintro e w2 ⟨g, rfl, hg1, hg2, hg3, b2⟩)
        | (go_at_call 43; refine (hh' _ _ _ hg3 hg2).mono ?_; rintro e w3 ⟨rfl, b3⟩))
      go_ret2
      exact ⟨rfl, (b1.trans (b2.mono b1.size)).trans (b3.mono (Nat.le_trans b1.size b2.size))⟩
end Go.Proofs.YtmagaapdijapiaaDoor
