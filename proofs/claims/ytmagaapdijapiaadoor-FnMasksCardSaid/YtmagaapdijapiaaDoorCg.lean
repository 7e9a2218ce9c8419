/- A list looked through by the function that tells cells out of bounds. -/
import Derived.Test.YtmagaapdijapiaaDoorRows
import Derived.Test.YtmagaapdijapiaaDoorCf
namespace Go.Proofs.YtmagaapdijapiaaDoor
open Go.ChangeShapes Go.WideShapes Go.ChangeAt Go.RowKit
def okCells (l : List (List Int)) : Bool := l.all fun f => cellB (f.getD 0 0) (f.getD 1 0)
def small2 (l : List (List Int)) : Prop := ∀ f ∈ l, (-2147483648 ≤ f.getD 0 0 ∧ f.getD 0 0 ≤ 2147483647) ∧ (-2147483648 ≤ f.getD 1 0 ∧ f.getD 1 0 ≤ 2147483647)
set_option maxHeartbeats 1600000 in
theorem indexFunc_any (A : Option Addr) (n c : Nat) (l : List (List Int)) (hl : l.length = n) (hrow : Rows_ 2 l) (hs : small2 l) (hn : n ≤ 1000000) (w : World) (hR : Rd w w.heap.size 2 A n (pvs l)) :
    Calls Tryd.prog 82 #[.slice A n c, .func (.func 71) #[] #[]] w fun e w' => (∃ r : Int, e = .returned (.int .i64 r) ∧ (0 ≤ r ↔ okCells l = false)) ∧ Below w.heap.size w w' := by
  have HR := Lib.hid hR
  have HROW := Lib.hid hrow
  clear hR hrow
  go_enter Tryd.func82, Tryd.ntmps82
  go_wp2
  go_loopw [8] (fun i wr => ∃ k : Nat, k ≤ n ∧ i = .int .i64 k ∧ Hid (okCells (l.take k) = true) ∧ Below w.heap.size w wr) (fun i _ => n - (intOf i).toNat)
  case atStart => exact ⟨0, by omega, rfl, Lib.hid rfl, Below.refl _ _⟩
  case round =>
    obtain ⟨k, hk, rfl, hv, hb⟩ := hrel
    by_cases hlt : k < n
    · have hkl : k < l.length := by omega
      have hz := hb.size
      obtain ⟨b, o, rfl, hbB, hc⟩ := (HR.out.below hb (Nat.le_refl _)).at_ (by omega)
      have hrg : wr.rangeAt b (o + k * 2) ((l[k]).map (.int .i32)) := by
        have := Rd.rangeAt (i := k * 2) (s := 2) hc
        rw [pvs, ← List.map_drop, ← List.map_take, flat_row HROW.out hkl] at this
        exact this
      have h2 := two_eq (HROW.out.at_ hkl)
      obtain ⟨hx, hy⟩ := hs _ (List.getElem_mem hkl)
      have hsn : okCells (l.take (k + 1)) = (okCells (l.take k) && cellB (l[k].getD 0 0) (l[k].getD 1 0)) := by
        rw [okCells, okCells, List.take_succ_eq_append_getElem hkl, List.all_append]
        simp
      have hno : cellB (l[k].getD 0 0) (l[k].getD 1 0) = false → okCells l = false := fun h => by
        rw [okCells, List.all_eq_false]
        exact ⟨l[k], List.getElem_mem hkl, by rw [h]; decide⟩
      rw [h2] at hrg
      generalize l[k].getD 0 0 = x at *
      generalize l[k].getD 1 0 = y at *
      have HRG : Hid (wr.rangeAt b (o + k * 2) [.int .i32 x, .int .i32 y]) := Lib.hid hrg
      have HV := Lib.hid (fun W => vp1_any x y hx hy W)
      have hlt' : (k : Int) < n := by omega
      have HSN := Lib.hid hsn
      have HNO := Lib.hid hno
      have HB := Lib.hid hb
      clear hc hbB hrg h2 hsn hno hb hkl
      cases hcb : cellB x y
      · rw [hcb] at HV
        have HF := Lib.hid (HNO.out hcb)
        clear hcb HSN HNO
        go_wp2_with (first
          | refine wpList_load_mid rfl _ _ rfl b (o + k * 2) (by rfl) [.int .i32 x, .int .i32 y] _ HRG.out Tryd.underlying35 rfl size35 ?_
          | (go_at_call 71; refine (HV.out _).mono ?_; rintro e w2 ⟨rfl, hb2⟩; have HB2 := Lib.hid (HB.out.trans (hb2.mono hz)); clear hb2))
        go_ret
        exact ⟨⟨_, rfl, by rw [HF.out]; simp⟩, HB2.out⟩
      · rw [hcb] at HV HSN
        clear hcb HNO
        go_wp2_with (first
          | refine wpList_load_mid rfl _ _ rfl b (o + k * 2) (by rfl) [.int .i32 x, .int .i32 y] _ HRG.out Tryd.underlying35 rfl size35 ?_
          | (go_at_call 71; refine (HV.out _).mono ?_; rintro e w2 ⟨rfl, hb2⟩; have HB2 := Lib.hid (HB.out.trans (hb2.mono hz)); clear hb2))
        exact ⟨⟨k + 1, by omega, by go_num, Lib.hid (by rw [HSN.out, hv.out]; rfl), HB2.out⟩, by simp [intOf]; omega⟩
    · obtain rfl : k = n := by omega
      have hall : okCells l = true := by have := hv.out; rwa [List.take_of_length_le (by omega)] at this
      have HA := Lib.hid hall
      clear hall hv
      go_wp2
      go_ret
      exact ⟨⟨_, rfl, by rw [HA.out]; simp⟩, hb⟩
theorem containsFunc_any (A : Option Addr) (n c : Nat) (l : List (List Int)) (hl : l.length = n) (hrow : Rows_ 2 l) (hs : small2 l) (hn : n ≤ 1000000) (w : World) (hR : Rd w w.heap.size 2 A n (pvs l)) :
    Calls Tryd.prog 69 #[.slice A n c, .func (.func 71) #[] #[]] w fun e w' => e = .returned (.bool (!okCells l)) ∧ Below w.heap.size w w' := by
  have HX := Lib.hid (indexFunc_any A n c l hl hrow hs hn w hR)
  clear hR hrow hs hl
  go_enter Tryd.func69, Tryd.ntmps69
  go_wp2_with (go_at_call 82; refine HX.out.mono ?_; rintro e w2 ⟨⟨r, rfl, hr⟩, hb2⟩; have HB2 := Lib.hid hb2; have HRR := Lib.hid hr; clear hb2 hr)
  go_ret
  refine ⟨?_, HB2.out⟩
  have hr := HRR.out
  cases h : okCells l
  · have : 0 ≤ r := hr.2 h
    simp [this]
  · have : ¬ 0 ≤ r := fun e => by have := hr.1 e; rw [h] at this; cases this
    simp; omega
end Go.Proofs.YtmagaapdijapiaaDoor
