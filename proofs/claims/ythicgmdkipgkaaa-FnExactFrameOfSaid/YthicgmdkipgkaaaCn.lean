/- Cells counted and told: the walks. -/
import Derived.Test.YthicgmdkipgkaaaRows
import Derived.Test.YthicgmdkipgkaaaCz
namespace Go.Proofs.Ythicgmdkipgkaaa
open Go.ChangeShapes Go.WideShapes Go.ChangeAt Go.RowKit
/-- what is told of a picture's cells -/
def cntV (l : List Bl) : Int × Int := if vpB l then (((specC l).length : Int), 0) else (0, 1)
def toldL (l : List Bl) : List (List Int) := if vpB l then (if (specC l).length ≤ 1024 then specC l else []) else []
def toldK (l : List Bl) : Int := if vpB l then (if (specC l).length ≤ 1024 then 0 else 3) else 1
def GivesToldC (L : List (List Int)) (k : Int) (w : World) (e : Ending) (w' : World) : Prop :=
  ∃ A c, e = .returned (.tuple #[.slice A L.length c, .int .i64 k]) ∧ Own w' w.heap.size w'.heap.size 42 2 A L.length c (pvs L) ∧ Below w.heap.size w w'
theorem GivesToldC.nil {w w' : World} {k : Int} (hb : Below w.heap.size w w') : GivesToldC [] k w (.returned (.tuple #[.slice none 0 0, .int .i64 k])) w' := ⟨none, 0, rfl, ⟨rfl, .inl ⟨rfl, rfl, rfl⟩⟩, hb⟩
theorem GivesToldC.lit {w w1 : World} {k : Int} (hb : Below w.heap.size w w1) : GivesToldC [] k w (.returned (.tuple #[.slice (some ⟨w1.heap.size, 0, none⟩) 0 0, .int .i64 k])) (w1.alloc (.cells #[] 42)) := by
  have h0 := World.ownsRow_lit (e := 42) (base := w.heap.size) (size := 2) w1 #[] 0 hb.size (by unfold maxLen; omega) rfl
  obtain ⟨A, c, he, ho⟩ := Own.of_row h0
  cases he
  exact ⟨_, _, rfl, ho, hb.alloc hb.size _⟩
theorem toldL_rows (l : List Bl) : Rows_ 2 (toldL l) := by
  rw [toldL]
  split
  · split
    · exact specC_rows l
    · exact fun f hf => by cases hf
  · exact fun f hf => by cases hf
theorem toldL_length (l : List Bl) : (toldL l).length ≤ 1024 := by
  rw [toldL]
  split
  · split
    · assumption
    · exact Nat.zero_le _
  · exact Nat.zero_le _
set_option maxRecDepth 20000 in
theorem sCountPicture_any (A : Option Addr) (n c : Nat) (l : List Bl) (hl : l.length = n) (hrow : Bls l) (h16 : ∀ b ∈ l, is16 b.2) (h32 : ∀ b ∈ l, ∀ x ∈ b.1, -2147483648 ≤ x ∧ x ≤ 2147483647) (hn : n ≤ 1048576) (w : World) (hR : Rd w w.heap.size 18 A n (bcs l)) :
    Calls Try.prog 19 #[.slice A n c] w fun e w' => e = .returned (.tuple #[.int .i64 (cntV l).1, .int .i64 (cntV l).2]) ∧ Below w.heap.size w w' := by
  have ho := fun W h => l07Ok_any A n c l hl hrow h16 h32 hn W h
  have hv := fun h => vpic_of hrow h16 h
  have hc := fun h W hW => l07Cells_any A n c l hl (hv h) W hW
  have hlen := fun h => (hv h).count
  rw [cntV]
  clear hl hrow h16 h32 hv
  generalize specC l = S at *
  generalize vpB l = ok at *
  cases ok
  · clear hc
    go_enter Try.func19, Try.ntmps19
    go_wp2_with (go_at_call 41; refine (ho _ (hR.more (by first | exact Nat.le_refl _ | omega))).mono ?_; rintro e w1 ⟨rfl, b1⟩)
    go_ret2
    exact ⟨rfl, b1⟩
  · have hc' := hc rfl
    have hl' := hlen rfl
    clear hc hlen
    go_enter Try.func19, Try.ntmps19
    go_wp2_with (first
      | (go_at_call 41; refine (ho _ (hR.more (by first | exact Nat.le_refl _ | omega))).mono ?_; rintro e w1 ⟨rfl, b1⟩)
      | (go_at_call 54; refine (hc' _ ((hR.below b1 (Nat.le_refl _)).more b1.size)).mono ?_; rintro e w2 ⟨g, cc, rfl, hO, b2⟩))
    go_ret2
    exact ⟨rfl, b1.trans (b2.mono b1.size)⟩
set_option maxRecDepth 20000 in
theorem iCountPicture_any (A : Option Addr) (n c : Nat) (l : List Bl) (hl : l.length = n) (hrow : Bls l) (h16 : ∀ b ∈ l, is16 b.2) (h32 : ∀ b ∈ l, ∀ x ∈ b.1, -2147483648 ≤ x ∧ x ≤ 2147483647) (hn : n ≤ 1048576) (w : World) (hR : Rd w w.heap.size 18 A n (bcs l)) :
    Calls Try.prog 20 #[.slice A n c] w fun e w' => e = .returned (.tuple #[.int .i64 (cntV l).1, .int .i64 (cntV l).2]) ∧ Below w.heap.size w w' := by
  have ho := fun W h => iValidPicture_any A n c l hl hrow h16 h32 hn W h
  have hv := fun h => vpic_of hrow h16 h
  have hc := fun h W hW => cellsOf_any A n c l hl (hv h) W hW
  have hlen := fun h => (hv h).count
  rw [cntV]
  clear hl hrow h16 h32 hv
  generalize specC l = S at *
  generalize vpB l = ok at *
  cases ok
  · clear hc
    go_enter Try.func20, Try.ntmps20
    go_wp2_with (go_at_call 15; refine (ho _ (hR.more (by first | exact Nat.le_refl _ | omega))).mono ?_; rintro e w1 ⟨rfl, b1⟩)
    go_ret2
    exact ⟨rfl, b1⟩
  · have hc' := hc rfl
    have hl' := hlen rfl
    clear hc hlen
    go_enter Try.func20, Try.ntmps20
    go_wp2_with (first
      | (go_at_call 15; refine (ho _ (hR.more (by first | exact Nat.le_refl _ | omega))).mono ?_; rintro e w1 ⟨rfl, b1⟩)
      | (go_at_call 55; refine (hc' _ ((hR.below b1 (Nat.le_refl _)).more b1.size)).mono ?_; rintro e w2 ⟨g, cc, rfl, hO, b2⟩))
    go_ret2
    exact ⟨rfl, b1.trans (b2.mono b1.size)⟩
set_option maxRecDepth 20000 in
theorem sCellsOfPicture_any (A : Option Addr) (n c : Nat) (l : List Bl) (hl : l.length = n) (hrow : Bls l) (h16 : ∀ b ∈ l, is16 b.2) (h32 : ∀ b ∈ l, ∀ x ∈ b.1, -2147483648 ≤ x ∧ x ≤ 2147483647) (hn : n ≤ 1048576) (w : World) (hR : Rd w w.heap.size 18 A n (bcs l)) :
    Calls Try.prog 32 #[.slice A n c] w (GivesToldC (toldL l) (toldK l) w) := by
  have ho := fun W h => l07Ok_any A n c l hl hrow h16 h32 hn W h
  have hv := fun h => vpic_of hrow h16 h
  have hc := fun h W hW => l07Cells_any A n c l hl (hv h) W hW
  have hlen := fun h => (hv h).count
  rw [toldL, toldK]
  clear hl hrow h16 h32 hv
  generalize specC l = S at *
  generalize vpB l = ok at *
  cases ok
  · clear hc
    go_enter Try.func32, Try.ntmps32
    go_wp2_with (go_at_call 41; refine (ho _ (hR.more (by first | exact Nat.le_refl _ | omega))).mono ?_; rintro e w1 ⟨rfl, b1⟩)
    go_ret2
    exact GivesToldC.lit b1
  · have hc' := hc rfl
    have hl' := hlen rfl
    clear hc hlen
    simp only [if_true]
    by_cases hS : S.length ≤ 1024
    · rw [if_pos hS, if_pos hS]
      have hSI : (S.length : Int) ≤ 1024 := by omega
      go_enter Try.func32, Try.ntmps32
      go_wp2_with (first
        | (go_at_call 41; refine (ho _ (hR.more (by first | exact Nat.le_refl _ | omega))).mono ?_; rintro e w1 ⟨rfl, b1⟩)
        | (go_at_call 54; refine (hc' _ ((hR.below b1 (Nat.le_refl _)).more b1.size)).mono ?_; rintro e w2 ⟨g, cc, rfl, hO, b2⟩))
      go_ret2
      exact ⟨_, _, rfl, hO.less b1.size, b1.trans (b2.mono b1.size)⟩
    · rw [if_neg hS, if_neg hS]
      have hSI : 1024 < (S.length : Int) := by omega
      go_enter Try.func32, Try.ntmps32
      go_wp2_with (first
        | (go_at_call 41; refine (ho _ (hR.more (by first | exact Nat.le_refl _ | omega))).mono ?_; rintro e w1 ⟨rfl, b1⟩)
        | (go_at_call 54; refine (hc' _ ((hR.below b1 (Nat.le_refl _)).more b1.size)).mono ?_; rintro e w2 ⟨g, cc, rfl, hO, b2⟩))
      go_ret2
      exact GivesToldC.lit (b1.trans (b2.mono b1.size))
set_option maxRecDepth 20000 in
theorem iCellsOfPicture_any (A : Option Addr) (n c : Nat) (l : List Bl) (hl : l.length = n) (hrow : Bls l) (h16 : ∀ b ∈ l, is16 b.2) (h32 : ∀ b ∈ l, ∀ x ∈ b.1, -2147483648 ≤ x ∧ x ≤ 2147483647) (hn : n ≤ 1048576) (w : World) (hR : Rd w w.heap.size 18 A n (bcs l)) :
    Calls Try.prog 33 #[.slice A n c] w (GivesToldC (toldL l) (toldK l) w) := by
  have ho := fun W h => iValidPicture_any A n c l hl hrow h16 h32 hn W h
  have hv := fun h => vpic_of hrow h16 h
  have hc := fun h W hW => cellsOf_any A n c l hl (hv h) W hW
  have hlen := fun h => (hv h).count
  rw [toldL, toldK]
  clear hl hrow h16 h32 hv
  generalize specC l = S at *
  generalize vpB l = ok at *
  cases ok
  · clear hc
    go_enter Try.func33, Try.ntmps33
    go_wp2_with (go_at_call 15; refine (ho _ (hR.more (by first | exact Nat.le_refl _ | omega))).mono ?_; rintro e w1 ⟨rfl, b1⟩)
    go_ret2
    exact GivesToldC.nil b1
  · have hc' := hc rfl
    have hl' := hlen rfl
    clear hc hlen
    simp only [if_true]
    by_cases hS : S.length ≤ 1024
    · rw [if_pos hS, if_pos hS]
      have hSI : (S.length : Int) ≤ 1024 := by omega
      go_enter Try.func33, Try.ntmps33
      go_wp2_with (first
        | (go_at_call 15; refine (ho _ (hR.more (by first | exact Nat.le_refl _ | omega))).mono ?_; rintro e w1 ⟨rfl, b1⟩)
        | (go_at_call 55; refine (hc' _ ((hR.below b1 (Nat.le_refl _)).more b1.size)).mono ?_; rintro e w2 ⟨g, cc, rfl, hO, b2⟩))
      go_ret2
      exact ⟨_, _, rfl, hO.less b1.size, b1.trans (b2.mono b1.size)⟩
    · rw [if_neg hS, if_neg hS]
      have hSI : 1024 < (S.length : Int) := by omega
      go_enter Try.func33, Try.ntmps33
      go_wp2_with (first
        | (go_at_call 15; refine (ho _ (hR.more (by first | exact Nat.le_refl _ | omega))).mono ?_; rintro e w1 ⟨rfl, b1⟩)
        | (go_at_call 55; refine (hc' _ ((hR.below b1 (Nat.le_refl _)).more b1.size)).mono ?_; rintro e w2 ⟨g, cc, rfl, hO, b2⟩))
      go_ret2
      exact GivesToldC.nil (b1.trans (b2.mono b1.size))
end Go.Proofs.Ythicgmdkipgkaaa
