/- The picture of some cells: the reference's walk, whole. -/
import Derived.Test.YthicgmdkipgkaaaRows
import Derived.Test.YthicgmdkipgkaaaPg
namespace Go.Proofs.Ythicgmdkipgkaaa
open Go.ChangeShapes Go.WideShapes Go.ChangeAt Go.RowKit
set_option maxRecDepth 20000 in
set_option maxHeartbeats 6400000 in
theorem sPictureOf_any (A : Option Addr) (n c : Nat) (l : List (List Int)) (hl : l.length = n) (hrow : Rows_ 2 l) (h32 : ∀ f ∈ l, ∀ x ∈ f, -2147483648 ≤ x ∧ x ≤ 2147483647) (hn : n ≤ 1048576) (w : World) (hR : Rd w w.heap.size 2 A n (pvs l)) :
    Calls Try.prog 22 #[.slice A n c] w (GivesToldB (pofL l) (pofK l) w) := by
  rw [pofL, pofK, hl]
  by_cases hbig : 1024 < n
  · have hI : (1024 : Int) < n := by omega
    rw [if_pos hbig, if_pos hbig]
    clear hR h32
    go_enter Try.func22, Try.ntmps22
    go_wp2
    go_ret2
    exact GivesToldB.lit (Below.refl _ _)
  · have hI : (n : Int) ≤ 1024 := by omega
    rw [if_neg hbig, if_neg hbig]
    obtain ⟨R, K, hR1, hR2, hR0⟩ : ∃ R K, (okCells l = false → R = [] ∧ K = 2) ∧ (okCells l = true → R = picR (picOf (toldM l)) ∧ K = picK (picOf (toldM l))) ∧ (R = (if okCells l then picR (picOf (toldM l)) else []) ∧ K = (if okCells l then picK (picOf (toldM l)) else (2 : Int))) := by
      refine ⟨_, _, fun h => ?_, fun h => ?_, rfl, rfl⟩
      · simp [h]
      · simp [h]
    rw [← hR0.1, ← hR0.2]
    have HR1 := Lib.hid hR1
    have HR2 := Lib.hid hR2
    have HR := Lib.hid hR
    have HL := Lib.hid hl
    have HROW := Lib.hid hrow
    have H32 := Lib.hid h32
    clear hR0 hR1 hR2 hR hl hrow h32
    go_enter Try.func22, Try.ntmps22
    go_wp2
    go_loopw [4] (fun i wr => ∃ k : Nat, k ≤ n ∧ i = .int .i64 k ∧ Hid (∀ f ∈ l.take k, okC f = true) ∧ Hid (Below w.heap.size w wr)) (fun i _ => n - (intOf i).toNat)
    case atStart => exact ⟨0, by omega, rfl, Lib.hid (fun f hf => by simp at hf), Lib.hid (Below.refl _ _)⟩
    case round =>
      obtain ⟨k, hk, rfl, HOK, HB⟩ := hrel
      by_cases hlt : k < n
      · have hkl : k < l.length := by have := HL.out; omega
        have hkI : (k : Int) < n := by omega
        have hk0 : (0 : Int) ≤ k := by omega
        obtain ⟨b, o, rfl, hbB, _⟩ := HR.out.at_ (by omega)
        have hrg := pvs_row HROW.out hkl (HR.out.below HB.out (Nat.le_refl _)) HL.out.symm
        have h2 := HROW.out.at_ hkl
        have hno := fun h => okCells_no hkl h
        have hyes : okC l[k] = true → ∀ f ∈ l.take (k + 1), okC f = true := fun h f hf => by
          rw [List.take_succ_eq_append_getElem hkl, List.mem_append, List.mem_singleton] at hf
          rcases hf with hf | rfl
          · exact HOK.out f hf
          · exact h
        have h32 := H32.out _ (List.getElem_mem hkl)
        obtain ⟨F, hF⟩ : ∃ F, F = l[k] := ⟨_, rfl⟩
        rw [← hF] at hrg h2 hno hyes h32
        obtain ⟨x, y, rfl⟩ : ∃ x y, F = [x, y] := ⟨_, _, two_of h2⟩
        have hx32 := h32 x (by simp)
        have hy32 := h32 y (by simp)
        have hx0 := hx32.1
        have hx1 := hx32.2
        have hy0 := hy32.1
        have hy1 := hy32.2
        have hrg' : wr.drew.rangeAt b (o + k * 2) [.int .i32 x, .int .i32 y] := hrg
        have d0 : wr.drew.cell? ⟨b, o + k * 2, none⟩ = some (.int .i32 x) := hrg' 0 _ rfl
        have d1 : wr.drew.cell? ⟨b, o + k * 2 + 1, none⟩ = some (.int .i32 y) := hrg' 1 _ rfl
        have e0 : wr.cell? ⟨b, o + k * 2, none⟩ = some (.int .i32 x) := hrg' 0 _ rfl
        have e1 : wr.cell? ⟨b, o + k * 2 + 1, none⟩ = some (.int .i32 y) := hrg' 1 _ rfl
        have hok : okC [x, y] = cellB x y := rfl
        rw [hok] at hno hyes
        have HNO := Lib.hid hno
        have HYES := Lib.hid hyes
        have hcl := fun W => l07Cell_any x y W
        have hwx : IntKind.i64.wrap x = x := by rw [IntKind.wrap_i64]; omega
        have hwy : IntKind.i64.wrap y = y := by rw [IntKind.wrap_i64]; omega
        clear hF hrg hrg' h2 hno hyes hok h32 hx32 hy32
        cases hxy : cellB x y
        · rw [hxy] at hcl
          have HNO2 := Lib.hid (HNO.out hxy)
          clear hxy HNO HYES
          go_wp2_with fail
          go_region_law (go_simp; go_at_call 50; refine (hcl _).mono ?_; rintro e w3 ⟨rfl, rfl⟩)
          all_goals
            go_wp2
            go_ret2
            rw [(HR1.out HNO2.out).1, (HR1.out HNO2.out).2]
            exact GivesToldB.lit (below_drew HB.out)
        · rw [hxy] at hcl
          have HYES2 := Lib.hid (HYES.out hxy)
          clear hxy HNO HYES
          go_wp2_with fail
          go_region_law (go_simp; go_at_call 50; refine (hcl _).mono ?_; rintro e w3 ⟨rfl, rfl⟩)
          all_goals
            go_wp2
            exact ⟨⟨k + 1, by omega, by go_num, HYES2, Lib.hid (below_drew HB.out)⟩, by simp [intOf]; omega⟩
      · obtain rfl : k = n := by omega
        have hok := HOK.out
        rw [List.take_of_length_le (by have := HL.out; omega)] at hok
        have HP := Lib.hid (l07Picture_any A k c l HL.out HROW.out hok (by omega) wr ((HR.out.below HB.out (Nat.le_refl _)).more HB.out.size))
        have HRR := Lib.hid (HR2.out (okCells_all hok))
        clear hok HOK
        go_wp2_with (first
          | (go_at_call 57; refine HP.out.mono ?_; rintro e w8 ⟨A8, c8, L, rfl, hs8, o8, b8⟩; have hLn : L.length ≤ 1048576 := (by have := hs8.2.1; omega); have HE : Hid (picOf (toldM l) = L) := Lib.hid (picOf_eq hs8.1 (fun key => by rw [hs8.2.2, List.take_of_length_le (by have := HL.out; omega)])); have HO8 := Lib.hid (o8.less HB.out.size); have HB8 := Lib.hid (HB.out.trans (b8.mono HB.out.size)); have HTO := Lib.hid (l07Told_any A8 L.length c8 L rfl hLn w.heap.size w8 HB8.out.size HO8.out); clear hs8 o8 b8)
          | (go_at_call 56; refine HTO.out.mono ?_; rintro e w9 ⟨A9, c9, rfl, o9, b9⟩; have HO9 := Lib.hid o9; have HB9 := Lib.hid (HB8.out.trans (b9.mono HB8.out.size)); clear o9 b9))
        go_ret2
        rw [HRR.out.1, HRR.out.2]
        exact ⟨A9, c9, by rw [HE.out]; rfl, by rw [HE.out]; exact HO9.out, HB9.out⟩
end Go.Proofs.Ythicgmdkipgkaaa
