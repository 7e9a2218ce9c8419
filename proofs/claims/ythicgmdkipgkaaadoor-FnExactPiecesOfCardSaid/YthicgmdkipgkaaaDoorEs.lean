/- Edges: the reference's walk. -/
import Derived.Test.YthicgmdkipgkaaaDoorRows
import Derived.Test.YthicgmdkipgkaaaDoorPu
import Derived.Test.YthicgmdkipgkaaaDoorTv
import Derived.Test.YthicgmdkipgkaaaDoorCz
namespace Go.Proofs.YthicgmdkipgkaaaDoor
open Go.ChangeShapes Go.WideShapes Go.ChangeAt Go.RowKit
theorem pvs_cells {l : List (List Int)} (h : Rows_ 2 l) {k : Nat} (hk : k < l.length) {w : World} {B b o n : Nat} (hR : Rd w B 2 (some ⟨b, o, none⟩) n (pvs l)) (hn : n = l.length) {x y : Int} (he : l[k] = [x, y]) : w.cell? ⟨b, o + k * 2, none⟩ = some (.int .i32 x) ∧ w.cell? ⟨b, o + k * 2 + 1, none⟩ = some (.int .i32 y) := by
  obtain ⟨b', o', he', hb, hc⟩ := hR.at_ (by omega)
  cases he'
  have h2 := Rd.rangeAt (i := k * 2) (s := 2) hc
  rw [pvs, ← List.map_drop, ← List.map_take, flat_row h hk, he] at h2
  exact ⟨h2 0 _ rfl, h2 1 _ rfl⟩
theorem Rising.nodup_take {l : List Bl} (h : Rising l) (k : Nat) (hk : k < (specC l).length) : (specC l)[k] ∉ (specC l).take k := fun hm => by
  obtain ⟨j, hj, he⟩ := List.getElem_of_mem hm
  rw [List.length_take] at hj
  rw [List.getElem_take] at he
  have := List.pairwise_iff_getElem.1 (spec_nodup h) j k (by omega) hk (by omega)
  exact this he
set_option maxRecDepth 20000 in
set_option maxHeartbeats 6400000 in
theorem sEdgeOf_any (A : Option Addr) (n c : Nat) (l : List Bl) (hl : l.length = n) (hrow : Bls l) (h16 : ∀ b ∈ l, is16 b.2) (h32 : ∀ b ∈ l, ∀ x ∈ b.1, -2147483648 ≤ x ∧ x ≤ 2147483647) (hn : n ≤ 1048576) (w : World) (hR : Rd w w.heap.size 18 A n (bcs l)) :
    Calls Tryd.prog 7 #[.slice A n c] w (GivesToldB (edgL l) (edgK l) w) := by
  have ho := fun W h => l07Ok_any A n c l hl hrow h16 h32 hn W h
  have hv := fun h => vpic_of hrow h16 h
  have hh := fun X Y W h => l07Holds_any A n c l hl hrow h16 X Y W hn h
  rw [edgL, edgK]
  cases hok : vpB l
  · rw [hok] at ho
    clear hh hv hok hrow h16 h32 hl
    go_enter Tryd.func7, Tryd.ntmps7
    go_wp2_with (go_at_call 20; refine (ho _ (hR.more (by first | exact Nat.le_refl _ | omega))).mono ?_; rintro e w1 ⟨rfl, b1⟩)
    go_ret2
    exact GivesToldB.lit b1
  · rw [hok] at ho
    have hV := hv hok
    have HV := Lib.hid hV
    have HCS := Lib.hid (fun W h => l07Cells_any A n c l hl hV W h)
    have HH : Hid (∀ X Y W, Rd W W.heap.size 18 A n (bcs l) → Calls Tryd.prog 22 #[.slice A n c, .int .i64 X, .int .i64 Y] W fun e w' => e = .returned (.bool (hasB l X Y)) ∧ Below W.heap.size W w') := Lib.hid fun X Y W h => by
      have := hh X Y W h
      rwa [hV.holds] at this
    have HO := Lib.hid ho
    have HR := Lib.hid hR
    have hcnt := hV.count
    clear ho hv hh hok hrow h16 h32 hl hV hR
    simp only [if_true]
    go_enter Tryd.func7, Tryd.ntmps7
    go_wp2_with (first
      | (go_at_call 20; refine (HO.out _ HR.out).mono ?_; rintro e w1 ⟨rfl, b1⟩; have B1 := Lib.hid b1; clear b1)
      | (go_at_call 21; refine (HCS.out _ ((HR.out.below B1.out (Nat.le_refl _)).more B1.out.size)).mono ?_; rintro e w2 ⟨g, cc, rfl, hO2, b2⟩; have HCL := Lib.hid hO2.rd; have B2 := Lib.hid (B1.out.trans (b2.mono B1.out.size)); clear hO2 b2))
    obtain ⟨S, hS⟩ : ∃ S, S = specC l := ⟨_, rfl⟩
    have HSS := Lib.hid hS
    rw [← hS] at HCL hcnt ⊢
    clear hS
    have h0 := World.ownsRow_lit (e := 50) (base := w.heap.size) (size := 18) w2 #[] 0 B2.out.size (by unfold maxLen; omega) rfl
    obtain ⟨A0, c0, hv0, ho0⟩ := Own.of_row h0
    cases hv0
    have L0 := Lib.hid (And.intro ho0 ((Below.refl w2.heap.size w2).alloc (Nat.le_refl _) (.cells #[] 50)))
    clear h0 ho0
    go_loopw [5, 6] (fun v i wr => ∃ k : Nat, k ≤ S.length ∧ i = .int .i64 k ∧ ∃ L, Hid (EdgeS l k L) ∧ ∃ A' c', v = .slice A' L.length c' ∧ Hid (Own wr w.heap.size wr.heap.size 50 18 A' L.length c' (bcs L)) ∧ Hid (Below w2.heap.size w2 wr)) (fun _ i _ => S.length - (intOf i).toNat)
    case atStart => exact ⟨0, by omega, rfl, [], Lib.hid (edgeS_zero l), _, _, rfl, Lib.hid L0.out.1, Lib.hid L0.out.2⟩
    case round =>
      clear L0
      obtain ⟨k, hk, rfl, L, HE, A', c', rfl, HOW, HB⟩ := hrel
      by_cases hlt : k < S.length
      · have hkI : (k : Int) < S.length := by omega
        have hk0 : (0 : Int) ≤ k := by omega
        have hkl : k < (specC l).length := by rw [← HSS.out]; exact hlt
        have hrows := specC_rows l
        have hLn : L.length ≤ 1048576 := by have := HE.out.2.1; omega
        obtain ⟨x, y, hxy⟩ : ∃ x y, (specC l)[k] = [x, y] := ⟨_, _, two_of (hrows.at_ hkl)⟩
        have hmem : hasB l x y = true := by
          have h := (spec_mem HV.out.pic.apart HV.out.pic.bls [x, y]).1 (by rw [← hxy]; exact List.getElem_mem hkl)
          exact h.2
        obtain ⟨⟨hx2, hx3⟩, ⟨hy2, hy3⟩⟩ := cellB_in (HV.out.cells hmem)
        have hcl := HCL.out.below HB.out (Nat.le_refl _)
        rw [HSS.out] at hcl
        obtain ⟨d0, d1⟩ := pvs_cells hrows hkl hcl rfl hxy
        simp only [Nat.zero_add] at d0 d1
        have HNO := Lib.hid (fun h => edgeS_no hkl HE.out hxy h)
        have HYES := Lib.hid (fun L' h h2 => edgeS_yes (L' := L') hkl HE.out hxy h h2)
        have HPUT := Lib.hid (fun W (hlo : w.heap.size ≤ W.heap.size) hO => l07Put_any A' L.length c' L rfl HE.out.1 hLn x y ⟨hx2, hx3⟩ ⟨hy2, hy3⟩ w.heap.size W hlo hO)
        have hin : insideB (hasB l) x y = (hasB l (x + 1) y && (hasB l (x - 1) y && (hasB l x (y + 1) && hasB l x (y - 1)))) := rfl
        have HIN := Lib.hid hin
        have BR : Hid (Below wr.heap.size wr wr) := Lib.hid (Below.refl _ _)
        clear hcl hrows hmem hin hkl hxy
        have hcase : (insideB (hasB l) x y = true ∧ hasB l (x - 1) y = true ∧ hasB l (x + 1) y = true ∧ hasB l x (y - 1) = true ∧ hasB l x (y + 1) = true) ∨ (insideB (hasB l) x y = false ∧ (hasB l (x - 1) y = false ∨ (hasB l (x - 1) y = true ∧ (hasB l (x + 1) y = false ∨ (hasB l (x + 1) y = true ∧ (hasB l x (y - 1) = false ∨ (hasB l x (y - 1) = true ∧ hasB l x (y + 1) = false))))))) := by
          rw [HIN.out]
          cases hasB l (x - 1) y <;> cases hasB l (x + 1) y <;> cases hasB l x (y - 1) <;> cases hasB l x (y + 1) <;> simp
        rcases hcase with ⟨hi, e1, e2, e3, e4⟩ | ⟨hi, h⟩
        · have HNO2 := Lib.hid (HNO.out hi)
          clear hi HNO HYES HIN HPUT
          go_wp2_with (go_at_call 22; refine (HH.out _ _ _ ((HR.out.below (B2.out.trans ((HB.out.trans (BR.out.mono HB.out.size)).mono B2.out.size)) (Nat.le_refl _)).more (B2.out.trans ((HB.out.trans (BR.out.mono HB.out.size)).mono B2.out.size)).size)).mono ?_; rintro e w5 ⟨rfl, b5⟩; have BR := Lib.hid (BR.out.trans (b5.mono BR.out.size)); clear b5)
          exact ⟨⟨k + 1, by omega, by go_num, L, HNO2, A', c', rfl, Lib.hid ((HOW.out.below BR.out (Nat.le_refl _)).more BR.out.size), Lib.hid (HB.out.trans (BR.out.mono HB.out.size))⟩, by simp [intOf]; omega⟩
        · have HYES2 := Lib.hid (fun L' h2 => HYES.out L' hi h2)
          clear hi HNO HYES HIN
          rcases h with e1 | ⟨e1, e2 | ⟨e2, e3 | ⟨e3, e4⟩⟩⟩
          all_goals
            go_wp2_with (first
              | (go_at_call 22; refine (HH.out _ _ _ ((HR.out.below (B2.out.trans ((HB.out.trans (BR.out.mono HB.out.size)).mono B2.out.size)) (Nat.le_refl _)).more (B2.out.trans ((HB.out.trans (BR.out.mono HB.out.size)).mono B2.out.size)).size)).mono ?_; rintro e w5 ⟨rfl, b5⟩; have BR := Lib.hid (BR.out.trans (b5.mono BR.out.size)); clear b5)
              | (go_at_call 23; refine (HPUT.out _ (B2.out.trans ((HB.out.trans (BR.out.mono HB.out.size)).mono B2.out.size)).size ((HOW.out.below BR.out (Nat.le_refl _)).more BR.out.size)).mono ?_; rintro e w8 ⟨A8, c8, L8, rfl, h8, o8, b8⟩; have HA8 := Lib.hid (HYES2.out L8 h8); have HO8 := Lib.hid o8; have HB8 := Lib.hid (HB.out.trans ((BR.out.trans (b8.mono BR.out.size)).mono HB.out.size)); clear h8 o8 b8))
            exact ⟨⟨k + 1, by omega, by go_num, L8, HA8, A8, c8, rfl, HO8, HB8⟩, by simp [intOf]; omega⟩
      · obtain rfl : k = S.length := by omega
        have HF : Hid (picHas (edgeB (hasB l)) = L) := Lib.hid (edgeS_all HV.out.pic (by have := HE.out; rw [HSS.out] at this; exact this))
        go_wp2
        go_ret2
        exact ⟨A', c', by rw [HF.out]; rfl, by rw [HF.out]; exact HOW.out, B2.out.trans (HB.out.mono B2.out.size)⟩
end Go.Proofs.YthicgmdkipgkaaaDoor
