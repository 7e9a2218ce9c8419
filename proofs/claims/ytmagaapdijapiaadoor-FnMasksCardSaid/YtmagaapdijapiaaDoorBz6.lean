/- Yk, Eqb, Yl in one text. -/
import Derived.Test.YtmagaapdijapiaaDoorRows
import Derived.Test.YtmagaapdijapiaaDoorYd
import Derived.Test.YtmagaapdijapiaaDoorUb
import Derived.Test.YtmagaapdijapiaaDoorUd
import Derived.Test.YtmagaapdijapiaaDoorYe
namespace Go.Proofs.YtmagaapdijapiaaDoor
open Go.ChangeShapes Go.WideShapes Go.ChangeAt Go.RowKit
theorem results_row_tmpY {P : Program} {fn : Func} {p u : Tmp} {ty : TypeId} (h : fn.results = #[.cell p ty, .tmp u]) (tmps : Array Value) (w : World) (g : Nat) (t : TypeId) (cs : Array Value) (fr : Nat × Nat) (d : TypeDesc)
    (hp : tmps.getD p undef = .pointer (some ⟨g, 0, none⟩)) (hg : w.heap[g]? = some (.cells cs t fr))
    (hu : P.underlying ty = some d) (hd : (match d with | .struct _ | .array _ _ => true | _ => false) = true) (hi : (P.info? ty).map (·.size) = some cs.size) :
    (results fn tmps).run P w = .ok (.tuple #[.agg cs, tmps.getD u undef]) w := by
  have hp' : tmps[p]?.getD undef = .pointer (some ⟨g, 0, none⟩) := by simpa using hp
  simp [results, h, hp', asAddr, run_loadVar_row w g t ty cs fr d hg hu hd hi]
/-- a mask and whether it could be read -/
def GivesU (M : List Int) (C : Int) (w : World) (e : Ending) (w' : World) : Prop :=
  e = .returned (.tuple #[.agg (ivs .u16 M), .int .i64 C]) ∧ Below w.heap.size w w'
theorem setK_blk {w : World} {g : Nat} {M : List Int} (h : Blk w g 44 (ivs .u16 M)) (a : Nat) : Blk (w.setCell ⟨g, a / 16, none⟩ (.int .u16 (orF (M.getD (a / 16) 0) (2 ^ (a % 16))))) g 44 (ivs .u16 (setK M a)) := by
  rw [setK, setOr]
  exact h.setI _ _
end Go.Proofs.YtmagaapdijapiaaDoor
namespace Go.Proofs.YtmagaapdijapiaaDoor
open Go.ChangeShapes Go.WideShapes Go.ChangeAt Go.RowKit
set_option maxRecDepth 20000 in
set_option maxHeartbeats 1600000 in
theorem equalB_any (A A' : Option Addr) (n n' c c' : Nat) (l l' : List Int) (hl : l.length = n) (hl' : l'.length = n') (hn : n ≤ 100000000) (w : World) (hR : Rd w w.heap.size 1 A n (l.map (.int .u8))) (hR' : Rd w w.heap.size 1 A' n' (l'.map (.int .u8))) :
    Calls Tryd.prog 49 #[.slice A n c, .slice A' n' c'] w fun e w' => e = .returned (.bool (l == l')) ∧ Below w.heap.size w w' := by
  by_cases hnn : n = n'
  · subst hnn
    have HR := Lib.hid hR
    have HR' := Lib.hid hR'
    have Hl := Lib.hid hl
    have Hl' := Lib.hid hl'
    clear hR hR' hl hl'
    go_enter Tryd.func49, Tryd.ntmps49
    go_wp2
    go_loopw [5, 13] (fun _ i wr => ∃ k : Nat, k ≤ n ∧ i = .int .i64 k ∧ Hid (l.take k = l'.take k) ∧ Below w.heap.size w wr) (fun _ i _ => n - (intOf i).toNat)
    case atStart => exact ⟨0, by omega, rfl, Lib.hid (by simp), Below.refl _ _⟩
    case round =>
      obtain ⟨k, hk, rfl, htk, hb⟩ := hrel
      by_cases hlt : k < n
      · obtain ⟨b, o, rfl, hbB, hc⟩ := (HR.out.below hb (Nat.le_refl _)).at_ (by omega)
        obtain ⟨b', o', rfl, hbB', hc'⟩ := (HR'.out.below hb (Nat.le_refl _)).at_ (by omega)
        have hkl : k < l.length := by rw [Hl.out]; exact hlt
        have hkl' : k < l'.length := by rw [Hl'.out]; exact hlt
        have c1 := hc k (.int .u8 l[k]) (by rw [List.getElem?_map, List.getElem?_eq_getElem hkl]; rfl)
        have c2 := hc' k (.int .u8 l'[k]) (by rw [List.getElem?_map, List.getElem?_eq_getElem hkl']; rfl)
        by_cases he : l[k] = l'[k]
        · have htk2 := Lib.hid (take_eq_succ hkl hkl' htk.out he)
          rw [← he] at c2
          generalize l[k] = x at *
          have hi1 : (k : Int) < (n : Int) := by omega
          clear hc hbB hc' hbB' he hkl hkl' htk
          go_wp2_with fail
          go_quiet (fail)
          go_wp2
          exact ⟨⟨k + 1, by omega, by go_num, htk2, below_drewN hb _⟩, by simp [intOf]; omega⟩
        · have hfin := Lib.hid (bne_of_at hkl hkl' he)
          generalize l[k] = x at *
          generalize l'[k] = y at *
          have hi1 : (k : Int) < (n : Int) := by omega
          clear hc hbB hc' hbB' hkl hkl' htk
          go_wp2_with fail
          go_quiet (fail)
          go_wp2
          go_ret
          exact ⟨by rw [hfin.out]; rfl, below_drewN hb _⟩
      · have : k = n := by omega
        subst this
        have hfin := Lib.hid (beq_of_takes Hl.out Hl'.out htk.out)
        clear htk
        go_wp2
        go_ret
        exact ⟨by rw [hfin.out]; rfl, hb⟩
  · have hne : (l == l') = false := by
      rw [beq_eq_false_iff_ne]
      rintro rfl
      exact hnn (hl.symm.trans hl')
    rw [hne]
    clear hne hl hl' hR hR'
    go_enter Tryd.func49, Tryd.ntmps49
    go_wp2
    go_ret
    exact ⟨rfl, Below.refl _ _⟩
end Go.Proofs.YtmagaapdijapiaaDoor
namespace Go.Proofs.YtmagaapdijapiaaDoor
open Go.ChangeShapes Go.WideShapes Go.ChangeAt Go.RowKit
/-- where the first rounds lead, and what they fill -/
def atE (D : List Int) (n k : Nat) : Nat := if k ≤ n then atK D k else 256
def mkE (D : List Int) (n k : Nat) : List Int := if k ≤ n then decK D k else decA D
theorem mkE_succ {D : List Int} {n k : Nat} (hl : D.length = n) (hk : k ≤ n) : mkE D n (k + 1) = if oddB k then fillK (mkE D n k) (atE D n k) (atE D n (k + 1) - atE D n k) else mkE D n k := by
  rw [mkE, mkE, atE, atE, if_pos hk, if_pos hk]
  by_cases h : k + 1 ≤ n
  · rw [if_pos h, if_pos h]; rfl
  · obtain rfl : k = n := by omega
    rw [if_neg h, if_neg h, decA, hl]
theorem mkE_ok (D : List Int) (n k : Nat) : (mkE D n k).length = 16 ∧ is16 (mkE D n k) := by
  rw [mkE]
  split
  · exact decK_ok _ _
  · exact decA_ok _
theorem atE_le (D : List Int) (n k : Nat) : atE D n k ≤ 256 := by
  rw [atE]
  split
  · exact atK_le _ _
  · exact Nat.le_refl _
theorem atE_mono {D : List Int} {n k : Nat} (hk : k ≤ n) : atE D n k ≤ atE D n (k + 1) := by
  rw [atE, atE, if_pos hk]
  split
  · exact atK_mono _ _
  · exact atK_le _ _
theorem atE_next {D : List Int} {n k : Nat} (hl : D.length = n) (hk : k < n) : atE D n (k + 1) = min 256 (atE D n k + (D[k]'(by omega)).toNat) := by
  have h := sumN_succ (l := D) (k := k) (by omega)
  rw [atE, atE, if_pos (by omega), if_pos (by omega), atK, atK, h]
  omega
set_option maxRecDepth 20000 in
set_option maxHeartbeats 3200000 in
theorem iUnpackMask_any (A : Option Addr) (n c : Nat) (D : List Int) (hl : D.length = n) (h255 : is255 D) (hn : n ≤ 256) (w : World) (hR : Rd w w.heap.size 1 A n (D.map (.int .u8))) :
    Calls Tryd.prog 19 #[.slice A n c] w (GivesU (unM D) (unC D) w) := by
  have HR := Lib.hid hR
  have HL := Lib.hid hl
  have H255 := Lib.hid h255
  clear hR hl h255
  have hmin : min (n : Int) 256 = n := by omega
  go_enter Tryd.func19, Tryd.ntmps19
  go_wp2
  go_loopw [5, 6, 14] (fun a s i wr => ∃ k : Nat, k ≤ n + 1 ∧ a = .int .i64 ((atE D n k : Nat) : Int) ∧ s = .bool (oddB k) ∧ i = .int .i64 k ∧ Hid (Blk wr w.heap.size 44 (ivs .u16 zr16)) ∧ Hid (Blk wr (w.heap.size + 1) 44 (ivs .u16 (mkE D n k))) ∧ Hid (Below w.heap.size w wr)) (fun _ _ i _ => n + 1 - (intOf i).toNat)
  case atStart => exact ⟨0, by omega, by rw [atE, if_pos (Nat.zero_le _)]; rfl, rfl, rfl, Lib.hid ((Blk.newAt rfl rfl).alloc _), Lib.hid (by have h := Blk.new (w.alloc (.cells (ivs .u16 zr16) 44)) 44 (ivs .u16 zr16); rw [size_alloc] at h; rw [mkE, if_pos (Nat.zero_le _)]; exact h), Lib.hid (((Below.refl _ _).alloc (Nat.le_refl _) _).alloc (by simp) _)⟩
  case round =>
    obtain ⟨k, hk, rfl, rfl, rfl, H0, H1, HB⟩ := hrel
    by_cases hlt : k ≤ n
    · have hm := mkE_ok D n k
      have hms := mkE_succ HL.out hlt
      have h1 := atE_le D n k
      have h2 := atE_le D n (k + 1)
      have h3 := atE_mono (D := D) hlt
      have hox : oddB (k + 1) = !oddB k := oddB_succ k
      have HM := Lib.hid hm
      have HMS := Lib.hid hms
      have hcs : (k < n ∧ ∃ x : Nat, x ≤ 255 ∧ D[k]? = some (x : Int) ∧ atE D n (k + 1) = min 256 (atE D n k + x)) ∨ (k = n ∧ atE D n (k + 1) = 256) := by
        by_cases hkn : k < n
        · have hkl : k < D.length := by rw [HL.out]; exact hkn
          have hx := H255.out _ (List.getElem_mem hkl)
          refine .inl ⟨hkn, (D[k]).toNat, by omega, ?_, atE_next HL.out hkn⟩
          rw [List.getElem?_eq_getElem hkl]
          congr 1
          omega
        · exact .inr ⟨by omega, by rw [atE, if_neg (by omega)]⟩
      clear hm hms
      generalize atE D n k = s at *
      generalize mkE D n k = M0 at *
      obtain ⟨e, he⟩ : ∃ e, e = atE D n (k + 1) := ⟨_, rfl⟩
      rw [← he] at HMS h2 h3 hcs
      obtain ⟨M1, hM1⟩ : ∃ M, M = mkE D n (k + 1) := ⟨_, rfl⟩
      rw [← hM1] at HMS
      generalize oddB k = od at *
      have hk0 : (0 : Int) ≤ k := by omega
      have hki : (k : Int) < (n : Int) + 1 := by omega
      have HE : Hid (Hid (e = atE D n (k + 1)) ∧ Hid (M1 = mkE D n (k + 1)) ∧ Hid (oddB (k + 1) = !od)) := Lib.hid ⟨Lib.hid he, Lib.hid hM1, Lib.hid hox⟩
      clear he hM1 hox
      rcases hcs with ⟨hkn, x, hx, hDx, hex⟩ | ⟨hkn, hex⟩
      · obtain ⟨b, o, hA, hbB, hc⟩ := (HR.out.below HB.out (Nat.le_refl _)).at_ (by omega)
        subst hA
        have cb := hc k (.int .u8 x) (by rw [List.getElem?_map, hDx]; rfl)
        have hkn' : (k : Int) < (n : Int) := by omega
        clear hc hbB hDx
        by_cases hsx : s + x < 256
        · have hE : (s : Int) + x = e := by omega
          have hsxi : (s : Int) + x < 256 := by omega
          clear hex
          go_wp2
          go_loopw [5] (fun a wi => ∃ j : Nat, s + j ≤ e ∧ a = .int .i64 ((s + j : Nat) : Int) ∧ Hid (Blk wi w.heap.size 44 (ivs .u16 zr16)) ∧ Hid (Blk wi (w.heap.size + 1) 44 (ivs .u16 (if od then fillK M0 s j else M0))) ∧ Hid (Below w.heap.size w wi)) (fun a _ => e - (intOf a).toNat)
          case atStart => exact ⟨0, by omega, rfl, H0, by cases od <;> exact H1, HB⟩
          case round =>
            clear H0 H1 HB
            obtain ⟨j, hsj, rfl, H0, H1, HB⟩ := hrel
            by_cases hje : s + j < e
            · have hjei : (s : Int) + j < (s : Int) + x := by omega
              cases od
              · rw [if_neg (by decide)] at H1
                go_wp2
                exact ⟨⟨j + 1, by omega, by go_num, H0, H1, HB⟩, by simp [intOf]; omega⟩
              · rw [if_pos rfl] at H1
                obtain ⟨m1, m2⟩ := fillK_ok HM.out.1 HM.out.2 s j
                have HM1 := Lib.hid m1
                have hfl : fillK M0 s (j + 1) = setK (fillK M0 s j) (s + j) := rfl
                have HFL := Lib.hid hfl
                clear m1 m2 hfl
                generalize fillK M0 s j = M at *
                obtain ⟨a, ha⟩ : ∃ a, s + j = a := ⟨_, rfl⟩
                rw [ha] at HFL hsj hje ⊢
                have H3 := Lib.hid (setK_blk H1.out a)
                have h6a : (a : Int) < (s : Int) + x := by omega
                have ha0 : (0 : Int) ≤ a := by omega
                obtain ⟨u, hu⟩ : ∃ u : Nat, (a : Int) % 16 = u := ⟨a % 16, by omega⟩
                obtain ⟨v, hv⟩ : ∃ v : Nat, (a : Int) / 16 = v := ⟨a / 16, by omega⟩
                rw [show a % 16 = u by omega, show a / 16 = v by omega] at H3
                have hv16 : v < 16 := by omega
                have hu16 : u < 16 := by omega
                have c8 := H1.out.getAtG (i := v) (by rw [HM1.out]; exact hv16)
                have f8 := H1.out.frozen v
                generalize M.getD v 0 = m8 at *
                have hvI : (v : Int) < 16 := by omega
                have hv0 : (0 : Int) ≤ v := by omega
                have huI : (u : Int) < 16 := by omega
                have hu0 : (0 : Int) ≤ u := by omega
                have hp16 := pow_16 hu16
                have hwp : IntKind.u16.wrap (2 ^ u) = 2 ^ u := by rw [IntKind.wrap_u16]; omega
                have HA := Lib.hid ha
                clear hp16 ha
                go_wp2
                go_region
                go_wp2
                have H3' : Hid (Blk (wr.setCell ⟨w.heap.size + 1, v, none⟩ (.int .u16 (bits .or .u16 m8 (2 ^ u)))) (w.heap.size + 1) 44 (ivs .u16 (setK M a))) := H3
                exact ⟨⟨j + 1, by have := HA.out; omega, by rw [show s + (j + 1) = a + 1 by have := HA.out; omega]; go_num, Lib.hid ((H0.out.far (p := ⟨w.heap.size + 1, v, none⟩) (show w.heap.size ≠ w.heap.size + 1 by omega) _).drew), by rw [HFL.out]; exact Lib.hid H3'.out.drew, Lib.hid (below_drew (HB.out.setCell (p := ⟨w.heap.size + 1, v, none⟩) (show w.heap.size ≤ w.heap.size + 1 by omega) _))⟩, by simp [intOf]; omega⟩
            · have he2 : e = s + j := by omega
              have he3 : ¬ (s : Int) + j < (s : Int) + x := by omega
              go_wp2
              obtain ⟨e1, e2, e3⟩ := HE.out
              exact ⟨⟨k + 1, by omega, by rw [← e1.out, he2], by rw [e3.out], by go_num, H0, Lib.hid (by
                rw [← e2.out, HMS.out, he2, Nat.add_sub_cancel_left]
                exact H1.out), HB⟩, by simp [intOf]; omega⟩
        · have hE : (256 : Int) = e := by omega
          have hsxi : ¬ (s : Int) + x < 256 := by omega
          have hsxj : (256 : Int) ≤ (s : Int) + x := by omega
          clear hex
          go_wp2
          go_loopw [5] (fun a wi => ∃ j : Nat, s + j ≤ e ∧ a = .int .i64 ((s + j : Nat) : Int) ∧ Hid (Blk wi w.heap.size 44 (ivs .u16 zr16)) ∧ Hid (Blk wi (w.heap.size + 1) 44 (ivs .u16 (if od then fillK M0 s j else M0))) ∧ Hid (Below w.heap.size w wi)) (fun a _ => e - (intOf a).toNat)
          case atStart => exact ⟨0, by omega, rfl, H0, by cases od <;> exact H1, HB⟩
          case round =>
            clear H0 H1 HB
            obtain ⟨j, hsj, rfl, H0, H1, HB⟩ := hrel
            by_cases hje : s + j < e
            · have hjei : (s : Int) + j < 256 := by omega
              cases od
              · rw [if_neg (by decide)] at H1
                go_wp2
                exact ⟨⟨j + 1, by omega, by go_num, H0, H1, HB⟩, by simp [intOf]; omega⟩
              · rw [if_pos rfl] at H1
                obtain ⟨m1, m2⟩ := fillK_ok HM.out.1 HM.out.2 s j
                have HM1 := Lib.hid m1
                have hfl : fillK M0 s (j + 1) = setK (fillK M0 s j) (s + j) := rfl
                have HFL := Lib.hid hfl
                clear m1 m2 hfl
                generalize fillK M0 s j = M at *
                obtain ⟨a, ha⟩ : ∃ a, s + j = a := ⟨_, rfl⟩
                rw [ha] at HFL hsj hje ⊢
                have H3 := Lib.hid (setK_blk H1.out a)
                have h6a : (a : Int) < 256 := by omega
                have ha0 : (0 : Int) ≤ a := by omega
                obtain ⟨u, hu⟩ : ∃ u : Nat, (a : Int) % 16 = u := ⟨a % 16, by omega⟩
                obtain ⟨v, hv⟩ : ∃ v : Nat, (a : Int) / 16 = v := ⟨a / 16, by omega⟩
                rw [show a % 16 = u by omega, show a / 16 = v by omega] at H3
                have hv16 : v < 16 := by omega
                have hu16 : u < 16 := by omega
                have c8 := H1.out.getAtG (i := v) (by rw [HM1.out]; exact hv16)
                have f8 := H1.out.frozen v
                generalize M.getD v 0 = m8 at *
                have hvI : (v : Int) < 16 := by omega
                have hv0 : (0 : Int) ≤ v := by omega
                have huI : (u : Int) < 16 := by omega
                have hu0 : (0 : Int) ≤ u := by omega
                have hp16 := pow_16 hu16
                have hwp : IntKind.u16.wrap (2 ^ u) = 2 ^ u := by rw [IntKind.wrap_u16]; omega
                have HA := Lib.hid ha
                clear hp16 ha
                go_wp2
                go_region
                go_wp2
                have H3' : Hid (Blk (wr.setCell ⟨w.heap.size + 1, v, none⟩ (.int .u16 (bits .or .u16 m8 (2 ^ u)))) (w.heap.size + 1) 44 (ivs .u16 (setK M a))) := H3
                exact ⟨⟨j + 1, by have := HA.out; omega, by rw [show s + (j + 1) = a + 1 by have := HA.out; omega]; go_num, Lib.hid ((H0.out.far (p := ⟨w.heap.size + 1, v, none⟩) (show w.heap.size ≠ w.heap.size + 1 by omega) _).drew), by rw [HFL.out]; exact Lib.hid H3'.out.drew, Lib.hid (below_drew (HB.out.setCell (p := ⟨w.heap.size + 1, v, none⟩) (show w.heap.size ≤ w.heap.size + 1 by omega) _))⟩, by simp [intOf]; omega⟩
            · have he2 : e = s + j := by omega
              have he3 : ¬ (s : Int) + j < 256 := by omega
              go_wp2
              obtain ⟨e1, e2, e3⟩ := HE.out
              exact ⟨⟨k + 1, by omega, by rw [← e1.out, he2], by rw [e3.out], by go_num, H0, Lib.hid (by
                rw [← e2.out, HMS.out, he2, Nat.add_sub_cancel_left]
                exact H1.out), HB⟩, by simp [intOf]; omega⟩
      · have hkn' : ¬ (k : Int) < (n : Int) := by omega
        have hE : (256 : Int) = e := by omega
        clear hex
        go_wp2
        go_loopw [5] (fun a wi => ∃ j : Nat, s + j ≤ e ∧ a = .int .i64 ((s + j : Nat) : Int) ∧ Hid (Blk wi w.heap.size 44 (ivs .u16 zr16)) ∧ Hid (Blk wi (w.heap.size + 1) 44 (ivs .u16 (if od then fillK M0 s j else M0))) ∧ Hid (Below w.heap.size w wi)) (fun a _ => e - (intOf a).toNat)
        case atStart => exact ⟨0, by omega, rfl, H0, by cases od <;> exact H1, HB⟩
        case round =>
          clear H0 H1 HB
          obtain ⟨j, hsj, rfl, H0, H1, HB⟩ := hrel
          by_cases hje : s + j < e
          · have hjei : (s : Int) + j < 256 := by omega
            cases od
            · rw [if_neg (by decide)] at H1
              go_wp2
              exact ⟨⟨j + 1, by omega, by go_num, H0, H1, HB⟩, by simp [intOf]; omega⟩
            · rw [if_pos rfl] at H1
              obtain ⟨m1, m2⟩ := fillK_ok HM.out.1 HM.out.2 s j
              have HM1 := Lib.hid m1
              have hfl : fillK M0 s (j + 1) = setK (fillK M0 s j) (s + j) := rfl
              have HFL := Lib.hid hfl
              clear m1 m2 hfl
              generalize fillK M0 s j = M at *
              obtain ⟨a, ha⟩ : ∃ a, s + j = a := ⟨_, rfl⟩
              rw [ha] at HFL hsj hje ⊢
              have H3 := Lib.hid (setK_blk H1.out a)
              have h6a : (a : Int) < 256 := by omega
              have ha0 : (0 : Int) ≤ a := by omega
              obtain ⟨u, hu⟩ : ∃ u : Nat, (a : Int) % 16 = u := ⟨a % 16, by omega⟩
              obtain ⟨v, hv⟩ : ∃ v : Nat, (a : Int) / 16 = v := ⟨a / 16, by omega⟩
              rw [show a % 16 = u by omega, show a / 16 = v by omega] at H3
              have hv16 : v < 16 := by omega
              have hu16 : u < 16 := by omega
              have c8 := H1.out.getAtG (i := v) (by rw [HM1.out]; exact hv16)
              have f8 := H1.out.frozen v
              generalize M.getD v 0 = m8 at *
              have hvI : (v : Int) < 16 := by omega
              have hv0 : (0 : Int) ≤ v := by omega
              have huI : (u : Int) < 16 := by omega
              have hu0 : (0 : Int) ≤ u := by omega
              have hp16 := pow_16 hu16
              have hwp : IntKind.u16.wrap (2 ^ u) = 2 ^ u := by rw [IntKind.wrap_u16]; omega
              have HA := Lib.hid ha
              clear hp16 ha
              go_wp2
              go_region
              go_wp2
              have H3' : Hid (Blk (wr.setCell ⟨w.heap.size + 1, v, none⟩ (.int .u16 (bits .or .u16 m8 (2 ^ u)))) (w.heap.size + 1) 44 (ivs .u16 (setK M a))) := H3
              exact ⟨⟨j + 1, by have := HA.out; omega, by rw [show s + (j + 1) = a + 1 by have := HA.out; omega]; go_num, Lib.hid ((H0.out.far (p := ⟨w.heap.size + 1, v, none⟩) (show w.heap.size ≠ w.heap.size + 1 by omega) _).drew), by rw [HFL.out]; exact Lib.hid H3'.out.drew, Lib.hid (below_drew (HB.out.setCell (p := ⟨w.heap.size + 1, v, none⟩) (show w.heap.size ≤ w.heap.size + 1 by omega) _))⟩, by simp [intOf]; omega⟩
          · have he2 : e = s + j := by omega
            have he3 : ¬ (s : Int) + j < 256 := by omega
            go_wp2
            obtain ⟨e1, e2, e3⟩ := HE.out
            exact ⟨⟨k + 1, by omega, by rw [← e1.out, he2], by rw [e3.out], by go_num, H0, Lib.hid (by
              rw [← e2.out, HMS.out, he2, Nat.add_sub_cancel_left]
              exact H1.out), HB⟩, by simp [intOf]; omega⟩
    · obtain rfl : k = n + 1 := by omega
      have hM : mkE D n (n + 1) = decA D := by rw [mkE, if_neg (by omega)]
      rw [hM] at H1
      clear hM
      have HPK := Lib.hid (fun W => iPackMask_any (decA D) (decA_ok D).1 (decA_ok D).2 W)
      have HDM := Lib.hid (decA_ok D)
      have HP255 := Lib.hid (pmL_in (decA D))
      have hPl := pmL_length (decA D)
      have HCS : Hid ((pmL (decA D) = D ∧ unM D = decA D ∧ unC D = 0) ∨ (pmL (decA D) ≠ D ∧ unM D = zr16 ∧ unC D = 5)) := Lib.hid (by
        by_cases e : pmL (decA D) = D
        · exact .inl ⟨e, by rw [unM, if_pos e], by rw [unC, if_pos e]⟩
        · exact .inr ⟨e, by rw [unM, if_neg e], by rw [unC, if_neg e]⟩)
      generalize unM D = RM at *
      generalize unC D = RC at *
      generalize hP : pmL (decA D) = P at *
      have hcs : (P == D) = true ∧ Hid (RM = decA D ∧ RC = 0) ∨ (P == D) = false ∧ Hid (RM = zr16 ∧ RC = 5) := by
        rcases HCS.out with ⟨h, e⟩ | ⟨h, e⟩
        · exact .inl ⟨by rw [h]; exact beq_self_eq_true _, Lib.hid e⟩
        · exact .inr ⟨beq_eq_false_iff_ne.2 h, Lib.hid e⟩
      clear HCS hP
      have hni : ¬ ((n : Int) + 1) < (n : Int) + 1 := by omega
      have HEQ := Lib.hid (fun (A1 : Option Addr) (c1 : Nat) (W : World) (h1 : Rd W W.heap.size 1 A1 P.length (P.map (.int .u8))) (h2 : Rd W W.heap.size 1 A n (D.map (.int .u8))) => equalB_any A1 A P.length n c1 c P D rfl HL.out (by omega) W h1 h2)
      rcases hcs with ⟨hpd, HE⟩ | ⟨hpd, HE⟩
      · rw [hpd] at HEQ
        go_wp2_with (first
          | refine wpList_load_row rfl _ _ rfl (w.heap.size + 1) rfl 44 (ivs .u16 (decA D)) (0, 0) _ H1.out Tryd.underlying44 rfl (by rw [ivs_size, HDM.out.1]; exact size44) ?_
          | (go_at_call 20; refine (HPK.out _).mono ?_; rintro e w2 ⟨g2, c2, rfl, hO2, hb2⟩; have HO2 := Lib.hid hO2.rd; have HB2 := Lib.hid (HB.out.trans (hb2.mono HB.out.size)); have R0 := Lib.hid (H0.out.below hb2 (by have := H1.out.lt; omega)); have R1 := Lib.hid (H1.out.below hb2 H1.out.lt); clear hO2 hb2)
          | (go_at_call 49; refine (HEQ.out _ _ _ HO2.out ((HR.out.below HB2.out (Nat.le_refl _)).more HB2.out.size)).mono ?_; rintro e w3 ⟨rfl, hb3⟩; have HB3 := Lib.hid (HB2.out.trans (hb3.mono HB2.out.size)); have S0 := Lib.hid (R0.out.below hb3 (by have := R1.out.lt; omega)); have S1 := Lib.hid (R1.out.below hb3 R1.out.lt); clear hb3)
          | refine wpList_load_row rfl _ _ rfl (w.heap.size + 1) rfl 44 (ivs .u16 (decA D)) (0, 0) _ S1.out Tryd.underlying44 rfl (by rw [ivs_size, HDM.out.1]; exact size44) ?_
          | refine wpList_store_row rfl _ _ _ rfl w.heap.size (ivs .u16 (decA D)) rfl rfl 44 _ S0.out (by rw [ivs_size, HDM.out.1]; exact size44) (by rw [ivs_size, ivs_size, HDM.out.1]; rfl) ivs_one ?_)
        exact bodyPost_ret (results_row_tmpY rfl _ _ w.heap.size 44 (ivs .u16 (decA D)) (0, 0) _ rfl (S0.out.row _) Tryd.underlying44 rfl (by rw [ivs_size, HDM.out.1]; exact size44)) rfl ⟨by rw [HE.out.1, HE.out.2]; rfl, below_setRow HB3.out (by omega) _⟩
      · rw [hpd] at HEQ
        go_wp2_with (first
          | refine wpList_load_row rfl _ _ rfl (w.heap.size + 1) rfl 44 (ivs .u16 (decA D)) (0, 0) _ H1.out Tryd.underlying44 rfl (by rw [ivs_size, HDM.out.1]; exact size44) ?_
          | (go_at_call 20; refine (HPK.out _).mono ?_; rintro e w2 ⟨g2, c2, rfl, hO2, hb2⟩; have HO2 := Lib.hid hO2.rd; have HB2 := Lib.hid (HB.out.trans (hb2.mono HB.out.size)); have R0 := Lib.hid (H0.out.below hb2 (by have := H1.out.lt; omega)); have R1 := Lib.hid (H1.out.below hb2 H1.out.lt); clear hO2 hb2)
          | (go_at_call 49; refine (HEQ.out _ _ _ HO2.out ((HR.out.below HB2.out (Nat.le_refl _)).more HB2.out.size)).mono ?_; rintro e w3 ⟨rfl, hb3⟩; have HB3 := Lib.hid (HB2.out.trans (hb3.mono HB2.out.size)); have S0 := Lib.hid (R0.out.below hb3 (by have := R1.out.lt; omega)); have S1 := Lib.hid (R1.out.below hb3 R1.out.lt); clear hb3)
          | refine wpList_store_row rfl _ _ _ rfl w.heap.size (ivs .u16 zr16) rfl rfl 44 _ S0.out (by exact size44) rfl ivs_one ?_)
        exact bodyPost_ret (results_row_tmpY rfl _ _ w.heap.size 44 (ivs .u16 zr16) (0, 0) _ rfl (S0.out.row _) Tryd.underlying44 rfl (by exact size44)) rfl ⟨by rw [HE.out.1, HE.out.2]; rfl, below_setRow HB3.out (by omega) _⟩
end Go.Proofs.YtmagaapdijapiaaDoor
