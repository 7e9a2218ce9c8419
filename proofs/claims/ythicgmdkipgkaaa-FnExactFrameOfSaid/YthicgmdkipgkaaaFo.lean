/- The frame of a picture: the least and the greatest column and row of some cells. No program in sight. -/
import Derived.Test.YthicgmdkipgkaaaRows
import Derived.Test.YthicgmdkipgkaaaCn
import Derived.Test.YthicgmdkipgkaaaTv
namespace Go.Proofs.Ythicgmdkipgkaaa
open Go.ChangeShapes Go.WideShapes Go.ChangeAt Go.RowKit
def crd (C : List (List Int)) (i k : Nat) : Int := (C.getD i []).getD k 0
def loN (C : List (List Int)) (k : Nat) : Nat → Int
  | 0 => crd C 0 k
  | n + 1 => min (loN C k n) (crd C n k)
def hiN (C : List (List Int)) (k : Nat) : Nat → Int
  | 0 => crd C 0 k
  | n + 1 => max (hiN C k n) (crd C n k)
/-- number j's column, or row, is looked at where it is less than d -/
def loP (C : List (List Int)) (i d k : Nat) : Int := if k < d then loN C k (i + 1) else loN C k i
def hiP (C : List (List Int)) (i d k : Nat) : Int := if k < d then hiN C k (i + 1) else hiN C k i
theorem loN_in {C : List (List Int)} {k : Nat} {a b : Int} (h : ∀ i, a ≤ crd C i k ∧ crd C i k ≤ b) : ∀ n, a ≤ loN C k n ∧ loN C k n ≤ b
  | 0 => h 0
  | n + 1 => by
    have h1 := loN_in h n
    have h2 := h n
    rw [loN]
    omega
theorem hiN_in {C : List (List Int)} {k : Nat} {a b : Int} (h : ∀ i, a ≤ crd C i k ∧ crd C i k ≤ b) : ∀ n, a ≤ hiN C k n ∧ hiN C k n ≤ b
  | 0 => h 0
  | n + 1 => by
    have h1 := hiN_in h n
    have h2 := h n
    rw [hiN]
    omega
def loL (C : List (List Int)) (i d : Nat) : List Int := [loP C i d 0, loP C i d 1]
def hiL (C : List (List Int)) (i d : Nat) : List Int := [hiP C i d 0, hiP C i d 1]
theorem two_case {d : Nat} (h : d < 2) : d = 0 ∨ d = 1 := by omega
theorem loL_getD {C : List (List Int)} {i d : Nat} (h : d < 2) : (loL C i d).getD d 0 = loN C d i := by rcases two_case h with rfl | rfl <;> rfl
theorem hiL_getD {C : List (List Int)} {i d : Nat} (h : d < 2) : (hiL C i d).getD d 0 = hiN C d i := by rcases two_case h with rfl | rfl <;> rfl
theorem loL_set {C : List (List Int)} {i d : Nat} (h : d < 2) : (loL C i d).set d (loN C d (i + 1)) = loL C i (d + 1) := by rcases two_case h with rfl | rfl <;> rfl
theorem hiL_set {C : List (List Int)} {i d : Nat} (h : d < 2) : (hiL C i d).set d (hiN C d (i + 1)) = hiL C i (d + 1) := by rcases two_case h with rfl | rfl <;> rfl
theorem loL_same {C : List (List Int)} {i d : Nat} (h : d < 2) (e : loN C d (i + 1) = loN C d i) : loL C i d = loL C i (d + 1) := by
  rw [← loL_set h, e]
  rcases two_case h with rfl | rfl <;> rfl
theorem hiL_same {C : List (List Int)} {i d : Nat} (h : d < 2) (e : hiN C d (i + 1) = hiN C d i) : hiL C i d = hiL C i (d + 1) := by
  rw [← hiL_set h, e]
  rcases two_case h with rfl | rfl <;> rfl
theorem loL_next (C : List (List Int)) (i : Nat) : loL C i 2 = loL C (i + 1) 0 := rfl
theorem hiL_next (C : List (List Int)) (i : Nat) : hiL C i 2 = hiL C (i + 1) 0 := rfl
theorem loL_zero {C : List (List Int)} {x y : Int} (hi : 0 < C.length) (h : C[0] = [x, y]) : loL C 0 0 = [x, y] ∧ hiL C 0 0 = [x, y] := by
  obtain ⟨a, b⟩ : crd C 0 0 = x ∧ crd C 0 1 = y := by
    rw [crd, crd, getD_nil hi, h]
    exact ⟨rfl, rfl⟩
  refine ⟨?_, ?_⟩
  · show [crd C 0 0, crd C 0 1] = _
    rw [a, b]
  · show [crd C 0 0, crd C 0 1] = _
    rw [a, b]
theorem pvs_cell {l : List (List Int)} (h : Rows_ 2 l) {k : Nat} (hk : k < l.length) {w : World} {B b n : Nat} (hR : Rd w B 2 (some ⟨b, 0, none⟩) n (pvs l)) (hn : n = l.length) {d : Nat} (hd : d < 2) : w.cell? ⟨b, k * 2 + d, none⟩ = some (.int .i32 (crd l k d)) := by
  obtain ⟨b', o', he', hb, hc⟩ := hR.at_ (by omega)
  cases he'
  have h2 := Rd.rangeAt (i := k * 2) (s := 2) hc
  obtain ⟨x, y, he⟩ : ∃ x y, l[k] = [x, y] := ⟨_, _, two_of (h.at_ hk)⟩
  rw [pvs, ← List.map_drop, ← List.map_take, flat_row h hk, he] at h2
  have e : crd l k d = [x, y].getD d 0 := by rw [crd, getD_nil hk, he]
  have h3 := h2 d (.int .i32 (crd l k d)) (by rw [e]; rcases two_case hd with rfl | rfl <;> rfl)
  rwa [Nat.zero_add] at h3
theorem pvs_first {l : List (List Int)} (h : Rows_ 2 l) (hk : 0 < l.length) {w : World} {B b n : Nat} (hR : Rd w B 2 (some ⟨b, 0, none⟩) n (pvs l)) (hn : n = l.length) {x y : Int} (he : l[0] = [x, y]) : w.rangeAt b 0 [.int .i32 x, .int .i32 y] := by
  obtain ⟨b', o', he', hb, hc⟩ := hR.at_ (by omega)
  cases he'
  have h2 := Rd.rangeAt (i := 0 * 2) (s := 2) hc
  rw [pvs, ← List.map_drop, ← List.map_take, flat_row h hk, he] at h2
  exact h2
def frmL (l : List Bl) : List Int := if vpB l then (if (specC l).length = 0 then [0, 0] else loL (specC l) (specC l).length 0) else [0, 0]
def frmH (l : List Bl) : List Int := if vpB l then (if (specC l).length = 0 then [0, 0] else hiL (specC l) (specC l).length 0) else [0, 0]
def frmK (l : List Bl) : Int := if vpB l then (if (specC l).length = 0 then 6 else 0) else 1
theorem frmL_length (l : List Bl) : (frmL l).length = 2 := by
  rw [frmL]
  split
  · split <;> rfl
  · rfl
theorem frmH_length (l : List Bl) : (frmH l).length = 2 := by
  rw [frmH]
  split
  · split <;> rfl
  · rfl
theorem crd_at {C : List (List Int)} {i : Nat} (hi : i < C.length) {x y : Int} (h : C[i] = [x, y]) : crd C i 0 = x ∧ crd C i 1 = y := by
  rw [crd, crd, getD_nil hi, h]
  exact ⟨rfl, rfl⟩
/-- a picture without cells has no blocks -/
theorem VPic.cells_zero {l : List Bl} (h : VPic l) : (specC l).length = 0 ↔ l.length = 0 := by
  constructor
  · intro h0
    rcases Nat.eq_zero_or_pos l.length with h1 | h1
    · exact h1
    · have hb := List.getElem_mem h1
      obtain ⟨x, y, hx, hy, hbit⟩ := some_bit (h.pic.bls _ hb).2 (h.pic.m16 _ hb) (h.pic.noVoid _ hb)
      have h2 := has_of_mem h.pic.apart hb (h.pic.bls _ hb).1 hx hy
      rw [hbit] at h2
      have h3 := (spec_mem h.pic.apart h.pic.bls [16 * (l[0]).1.getD 0 0 + (x : Int), 16 * (l[0]).1.getD 1 0 + (y : Int)]).2 ⟨rfl, h2⟩
      rw [List.length_eq_zero_iff.1 h0] at h3
      cases h3
  · intro h0
    rw [List.length_eq_zero_iff.1 h0]
    have := specC_length []
    simp only [List.length_nil, Nat.mul_zero] at this
    omega
end Go.Proofs.Ythicgmdkipgkaaa
