/- Yw, Yd, Yk, Ye, Yh, Yi, Yj in one text. -/
import Derived.Test.YtmagaapdijapiaaRows
import Derived.Test.YtmagaapdijapiaaKb1
import Derived.Test.YtmagaapdijapiaaKb2
import Derived.Test.YtmagaapdijapiaaYa
import Derived.Test.YtmagaapdijapiaaSb
import Derived.Test.YtmagaapdijapiaaUb
import Derived.Test.YtmagaapdijapiaaYc
import Derived.Test.YtmagaapdijapiaaMq
import Derived.Test.YtmagaapdijapiaaPl
import Derived.Test.YtmagaapdijapiaaPk
import Derived.Test.YtmagaapdijapiaaCj
namespace Go.Proofs.Ytmagaapdijapiaa
open Go.ChangeShapes Go.WideShapes Go.ChangeAt Go.RowKit
theorem opData_255Y {l : List (List Int)} (h : ∀ f ∈ l, is255 f) : is255 (opData l) := fun x hx => by
  unfold opData at hx
  split at hx
  · exact dataOf_255 h x (List.mem_of_mem_take hx)
  · cases hx
theorem opHead_255Y {l : List (List Int)} (h : ∀ f ∈ l, is255 f) : is255 (opHead l) := by
  cases l with
  | nil => intro x hx; cases hx
  | cons f r => exact h f (List.mem_cons_self ..)
theorem opCount_rangeY {l : List (List Int)} (h : ∀ f ∈ l, is255 f) : 0 ≤ opCount l ∧ opCount l ≤ 4294967295 := by
  unfold opCount
  split
  · exact numAt_range (opHead_255Y h) 4
  · omega
theorem Rd.partY {w : World} {B n b o : Nat} {D : List Int} (h : Rd w B 1 (some ⟨b, o, none⟩) n (D.map (.int .u8))) (i m : Nat) (hi : i + m ≤ n) : Rd w B 1 (some ⟨b, o + i, none⟩) m (((D.drop i).take m).map (.int .u8)) := by
  have hl : D.length = n := by have := h.1; rwa [List.length_map, Nat.mul_one] at this
  refine ⟨by rw [List.length_map, List.length_take, List.length_drop]; omega, fun hn => ?_⟩
  obtain ⟨b', o', e, hb, hc⟩ := h.2 (by omega)
  cases e
  refine ⟨b, o + i, rfl, hb, fun j u hu => ?_⟩
  rw [List.map_take, List.map_drop, List.getElem?_take] at hu
  split at hu
  · rw [List.getElem?_drop] at hu
    rw [Nat.add_assoc]
    exact hc _ _ hu
  · cases hu
/-! ### what is told -/
theorem rdTo_far {d : List Int} : ∀ {k : Nat} {out : List Bl} {a : Nat}, rdTo d k = some (out, a) → 9 * k ≤ a
  | 0, out, a, h => by omega
  | k + 1, out, a, h => by
    cases hp : rdTo d k with
    | none => rw [rdTo, hp] at h; cases h
    | some p =>
      obtain ⟨o, q⟩ := p
      have i1 := rdTo_far hp
      cases ho : okD d q
      · rw [rdTo_no hp ho] at h; cases h
      · rw [rdTo_yes hp ho] at h
        cases h
        omega
section
variable {l : List (List Int)} (hC : opCode l = 0)
theorem rp_code (hC : opCode l ≠ 0) : rpL l = [] ∧ rpC l = opCode l := by
  rw [rpL, rpX, if_neg (fun h => hC h.1), rpC, if_neg hC]
  exact ⟨rfl, rfl⟩
include hC
theorem rp_kind (hK : opKind l ≠ 2) : rpL l = [] ∧ rpC l = 5 := by
  rw [rpL, rpC, if_pos hC, rpX, if_neg (fun h => hK h.2)]
  exact ⟨rfl, rfl⟩
theorem rp_none (h : rdTo (opData l) (opCount l).toNat = none) : rpL l = [] ∧ rpC l = 5 := by
  by_cases hK : opKind l = 2
  · rw [rpL, rpC, if_pos hC, rpX, if_pos ⟨hC, hK⟩, h]
    exact ⟨rfl, rfl⟩
  · exact rp_kind hC hK
theorem rp_bad {out : List Bl} {p : Nat} (h : rdTo (opData l) (opCount l).toNat = some (out, p)) (hb : vpB out = false ∨ picD out ≠ opData l) : rpL l = [] ∧ rpC l = 5 := by
  by_cases hK : opKind l = 2
  · have hf : (vpB out && (picD out == opData l)) = false := by
      rcases hb with hb | hb
      · rw [hb]; rfl
      · rw [beq_eq_false_iff_ne.2 hb, Bool.and_false]
    rw [rpL, rpC, if_pos hC, rpX, if_pos ⟨hC, hK⟩, h]
    simp only [hf]
    exact ⟨rfl, rfl⟩
  · exact rp_kind hC hK
theorem rp_yes (hK : opKind l = 2) {out : List Bl} {p : Nat} (h : rdTo (opData l) (opCount l).toNat = some (out, p)) (hv : vpB out = true) (hd : picD out = opData l) : rpL l = out ∧ rpC l = 0 := by
  have hf : (vpB out && (picD out == opData l)) = true := by rw [hv, hd, beq_self_eq_true]; rfl
  rw [rpL, rpC, if_pos hC, rpX, if_pos ⟨hC, hK⟩, h]
  simp only [hf]
  exact ⟨rfl, rfl⟩
end
end Go.Proofs.Ytmagaapdijapiaa
namespace Go.Proofs.Ytmagaapdijapiaa
open Go.ChangeShapes Go.WideShapes Go.ChangeAt Go.RowKit
def GivesPk (D : List Int) (w : World) (e : Ending) (w' : World) : Prop :=
  ∃ g c, e = .returned (.slice (some ⟨g, 0, none⟩) D.length c) ∧ Own w' w.heap.size w'.heap.size 5 1 (some ⟨g, 0, none⟩) D.length c (D.map (.int .u8)) ∧ Below w.heap.size w w'
theorem pm_same {M : List Int} {k : Nat} {O : List Int} {f : Nat} {s : Bool} (h : pmTo M k = (O, f, s)) (hb : bitK M k = s) : pmTo M (k + 1) = (O, f, s) := by rw [pmTo_same (by rw [h]; exact hb), h]
theorem pm_turn {M : List Int} {k r : Nat} {O : List Int} {f : Nat} {s : Bool} (h : pmTo M k = (O, f, s)) (hr : f + r = k) (hb : ¬ bitK M k = s) : pmTo M (k + 1) = (O ++ [(r : Int)], k, !s) := by
  rw [pmTo_turn (by rw [h]; exact hb), h]
  show (O ++ [((k - f : Nat) : Int)], k, !s) = _
  rw [show k - f = r by omega]
theorem pm_len {M : List Int} {k : Nat} {O : List Int} {f : Nat} {s : Bool} (h : pmTo M k = (O, f, s)) : O.length ≤ k := by
  have := pmTo_length M k
  rw [h] at this
  exact this
set_option maxRecDepth 20000 in
set_option maxHeartbeats 3200000 in
theorem sPackMask_any (M : List Int) (hM : M.length = 16) (h16 : is16 M) (w : World) :
    Calls Try.prog 45 #[.agg (ivs .u16 M)] w (GivesPk (pmL M) w) := by
  obtain ⟨i0, hi, iz0, iz1, iz2⟩ := info_parts Byte_info
  have h0 : Blk (w.alloc (.cells (ivs .u16 M) 76)) w.heap.size 76 (ivs .u16 M) := Blk.newAt rfl rfl
  have H0 := Lib.hid h0
  clear h0
  go_enter Try.func45, Try.ntmps45
  go_wp2
  go_loopw [3, 4, 5, 6] (fun v o q i wr => ∃ (k : Nat) (O : List Int) (f : Nat) (s : Bool) (r : Nat) (g cc : Nat), k ≤ 256 ∧ v = .slice (some ⟨g, 0, none⟩) O.length cc ∧ o = .bool s ∧ q = .int .i64 r ∧ i = .int .i64 k ∧ Hid (pmTo M k = (O, f, s)) ∧ Hid (f + r = k) ∧ Hid (wr.ownsRow (w.heap.size + 1) 5 1 (.slice (some ⟨g, 0, none⟩) O.length cc) O.length (O.map (.int .u8))) ∧ Hid (Blk wr w.heap.size 76 (ivs .u16 M)) ∧ w.heap.size + 1 ≤ wr.heap.size ∧ Hid (Below w.heap.size w wr)) (fun _ _ _ i _ => 256 - (intOf i).toNat)
  case atStart =>
    refine ⟨0, [], 0, false, 0, _, _, by omega, rfl, rfl, rfl, rfl, Lib.hid rfl, Lib.hid rfl, Lib.hid ?_, Lib.hid (H0.out.alloc _), by simp, Lib.hid (((Below.refl _ _).alloc (Nat.le_refl _) _).alloc (by simp) _)⟩
    have := World.ownsRow_lit (e := 5) (base := w.heap.size + 1) (size := 1) (w.alloc (.cells (ivs .u16 M) 76)) #[] 0 (by simp) (by unfold maxLen; omega) rfl
    rw [size_alloc] at this
    exact this
  case round =>
    clear H0
    obtain ⟨k, O, f, s, r, g, cc, hk, rfl, rfl, rfl, rfl, HP, HF, HO, H0, hz, HB⟩ := hrel
    have hlen := pm_len HP.out
    by_cases hlt : k < 256
    · have hkI : (k : Int) < 256 := by omega
      have hk0 : (0 : Int) ≤ k := by omega
      have hr255 : (r : Int) ≤ 255 := by have := HF.out; omega
      have hr0 : (0 : Int) ≤ r := by omega
      obtain ⟨u, hu⟩ : ∃ u : Nat, (k : Int) % 16 = u := ⟨k % 16, by omega⟩
      obtain ⟨v, hv⟩ : ∃ v : Nat, (k : Int) / 16 = v := ⟨k / 16, by omega⟩
      have HX := Lib.hid (l07Has_any w.heap.size M hM h16 u v (by omega) (by omega) wr H0.out)
      have hbk : bitB M u v = bitK M k := by rw [bitK, show k % 16 = u by omega, show k / 16 = v by omega]
      rw [hbk] at HX
      have HSM := Lib.hid (fun h => pm_same HP.out h)
      have HTN := Lib.hid (fun h => pm_turn HP.out HF.out h)
      have HF1 : Hid (f + (r + 1) = k + 1) := Lib.hid (by have := HF.out; omega)
      clear HP HF hbk
      by_cases hbs : bitK M k = s
      · have HS2 := Lib.hid (HSM.out hbs)
        rw [hbs] at HX
        clear HSM HTN hbs
        cases s
        all_goals
          go_wp2_with (go_at_call 89; refine HX.out.mono ?_; rintro e w2 ⟨rfl, hb2⟩; have hz2 := hb2.size; have HO2 := Lib.hid (own_below HO.out hb2 (Nat.le_refl _)); have H2 := Lib.hid (H0.out.below hb2 H0.out.lt); have HB2 := Lib.hid (HB.out.trans (hb2.mono (by omega))); clear hb2)
          exact ⟨⟨k + 1, O, f, _, r + 1, g, cc, by omega, rfl, rfl, by go_num, by go_num, HS2, HF1, HO2, H2, by omega, HB2⟩, by simp [intOf]; omega⟩
      · have HT2 := Lib.hid (HTN.out hbs)
        have hne : bitK M k = !s := by cases hq : bitK M k <;> cases s <;> first | rfl | exact absurd hq hbs
        rw [hne] at HX
        clear HSM HTN hbs hne HF1
        cases s
        all_goals
          go_wp2_with (first
            | (go_at_call 89; refine HX.out.mono ?_; rintro e w2 ⟨rfl, hb2⟩; have hz2 := hb2.size; have HO2 := Lib.hid (own_below HO.out hb2 (Nat.le_refl _)); have H2 := Lib.hid (H0.out.below hb2 H0.out.lt); have HB2 := Lib.hid (HB.out.trans (hb2.mono (by omega))); clear hb2; have HN2 := Lib.hid (Blk.news (k := .u8) (l := [(r : Int)]) (t := 5) (w := w2.alloc (.cells #[.int .u8 (r : Int)] 5)) (g := w2.heap.size) (Blk.newAt rfl rfl)))
            | (at_builtin; refine wpList_append_own _ rfl _ _ 40 rfl (w.heap.size + 1) 5 i0 _ 1 1 Try.underlying40 hi iz0 iz1 iz2 rfl (by decide) (.slice (some ⟨g, 0, none⟩) O.length cc) O.length _ rfl (HO2.out.alloc _) ⟨w2.heap.size, 0, none⟩ 1 1 ([(r : Int)].map (.int .u8)) rfl rfl HN2.out ints_one (by unfold maxLen; omega) (by omega) (by rw [size_alloc]; omega) ?_; intro v' w3 hown' hgrow _; rw [← List.map_append] at hown'; have HOWN := Lib.hid hown'; have HGR := Lib.hid hgrow; clear hown' hgrow))
          obtain ⟨A1, c1', hve, hOO⟩ := Own.of_row HOWN.out
          obtain ⟨g2, cur1, hA1, _⟩ := hOO.at_ (by omega)
          subst hve hA1
          have hne := fun j e => (HO2.out.lt j e).1
          exact ⟨⟨k + 1, O ++ [(r : Int)], k, _, 1, g2, c1', by omega, by rw [List.length_append]; rfl, rfl, by go_num, by go_num, HT2, Lib.hid rfl, Lib.hid (by rw [List.length_append]; exact HOWN.out), Lib.hid ((H2.out.alloc _).grown HGR.out (fun e => by have := hne _ e.symm; omega)), by have := HGR.out.size; rw [size_alloc] at this; omega, Lib.hid ((HB2.out.alloc (by omega) _).grown HGR.out (by rw [size_alloc]; omega) (fun j e => by have := hne j e; omega))⟩, by simp [intOf]; omega⟩
    · obtain rfl : k = 256 := by omega
      have HE : Hid (pmL M = O) := Lib.hid (by rw [pmL, HP.out])
      obtain ⟨A1, c1', hve, hO⟩ := Own.of_row HO.out
      cases hve
      have HOO := Lib.hid hO
      clear hO
      go_wp2
      go_ret
      exact ⟨g, cc, by rw [HE.out]; rfl, by rw [HE.out]; exact HOO.out.less (by omega), HB.out⟩
end Go.Proofs.Ytmagaapdijapiaa
namespace Go.Proofs.Ytmagaapdijapiaa
open Go.ChangeShapes Go.WideShapes Go.ChangeAt Go.RowKit
theorem results_row_tmpY {P : Program} {fn : Func} {p u : Tmp} {ty : TypeId} (h : fn.results = #[.cell p ty, .tmp u]) (tmps : Array Value) (w : World) (g : Nat) (t : TypeId) (cs : Array Value) (fr : Nat × Nat) (d : TypeDesc)
    (hp : tmps.getD p undef = .pointer (some ⟨g, 0, none⟩)) (hg : w.heap[g]? = some (.cells cs t fr))
    (hu : P.underlying ty = some d) (hd : (match d with | .struct _ | .array _ _ => true | _ => false) = true) (hi : (P.info? ty).map (·.size) = some cs.size) :
    (results fn tmps).run P w = .ok (.tuple #[.agg cs, tmps.getD u undef]) w := by
  have hp' : tmps[p]?.getD undef = .pointer (some ⟨g, 0, none⟩) := by simpa using hp
  simp [results, h, hp', asAddr, run_loadVar_row w g t ty cs fr d hg hu hd hi]
/-- a mask and whether it could be read -/
def GivesU (M : List Int) (C : Int) (w : World) (e : Ending) (w' : World) : Prop :=
  e = .returned (.tuple #[.agg (ivs .u16 M), .int .i64 C]) ∧ Below w.heap.size w w'
theorem setK_blk {w : World} {g : Nat} {M : List Int} (h : Blk w g 76 (ivs .u16 M)) (a : Nat) : Blk (w.setCell ⟨g, a / 16, none⟩ (.int .u16 (orF (M.getD (a / 16) 0) (2 ^ (a % 16))))) g 76 (ivs .u16 (setK M a)) := by
  rw [setK, setOr]
  exact h.setI _ _
set_option maxRecDepth 20000 in
set_option maxHeartbeats 3200000 in
theorem sUnpackMask_any (A : Option Addr) (n c : Nat) (D : List Int) (hl : D.length = n) (h255 : is255 D) (hn : n ≤ 256) (w : World) (hR : Rd w w.heap.size 1 A n (D.map (.int .u8))) :
    Calls Try.prog 54 #[.slice A n c] w (GivesU (unM D) (unC D) w) := by
  have HR := Lib.hid hR
  have HL := Lib.hid hl
  have H255 := Lib.hid h255
  clear hR hl h255
  go_enter Try.func54, Try.ntmps54
  go_wp2
  go_loopw [5, 6] (fun a i wr => ∃ k : Nat, k ≤ n ∧ a = .int .i64 ((sumN D k : Nat) : Int) ∧ i = .int .i64 k ∧ sumN D k ≤ 256 ∧ Hid (Blk wr w.heap.size 76 (ivs .u16 zr16)) ∧ Hid (Blk wr (w.heap.size + 1) 76 (ivs .u16 (decK D k))) ∧ Hid (Below w.heap.size w wr)) (fun _ i _ => n - (intOf i).toNat)
  case atStart => refine ⟨0, by omega, by rw [sumN_zero]; rfl, rfl, by rw [sumN_zero]; omega, Lib.hid ((Blk.newAt rfl rfl).alloc _), Lib.hid (by have h := Blk.new (w.alloc (.cells (ivs .u16 zr16) 76)) 76 (ivs .u16 zr16); rw [size_alloc] at h; exact h), Lib.hid (((Below.refl _ _).alloc (Nat.le_refl _) _).alloc (by simp) _)⟩
  case round =>
    obtain ⟨k, hk, rfl, rfl, hs, H0, H1, HB⟩ := hrel
    by_cases hlt : k < n
    · obtain ⟨b, o, hA, hbB, hc⟩ := (HR.out.below HB.out (Nat.le_refl _)).at_ (by omega)
      subst hA
      have hkl : k < D.length := by rw [HL.out]; exact hlt
      have hsm := sumN_succ hkl
      have hx := H255.out _ (List.getElem_mem hkl)
      have hM := decK_ok D k
      have hdk : decK D (k + 1) = if oddB k then fillK (decK D k) (atK D k) (atK D (k + 1) - atK D k) else decK D k := rfl
      have hal : atK D k = sumN D k := by unfold atK; omega
      obtain ⟨x, hxe⟩ : ∃ x : Nat, D[k] = x := ⟨(D[k]).toNat, by omega⟩
      have cb := hc k (.int .u8 x) (by rw [List.getElem?_map, List.getElem?_eq_getElem hkl, ← hxe]; rfl)
      have HX : Hid (D[k]? = some (x : Int)) := Lib.hid (by rw [List.getElem?_eq_getElem hkl, hxe])
      rw [hxe] at hx hsm
      have HSM := Lib.hid hsm
      have HDK := Lib.hid hdk
      have HAL := Lib.hid hal
      have HM := Lib.hid hM
      have hbB2 : b < w.heap.size + 1 := by omega
      clear hc hxe hsm hdk hal hM hkl
      obtain ⟨s, hse⟩ : ∃ s, sumN D k = s := ⟨_, rfl⟩
      rw [hse] at HSM HAL hs ⊢
      have hk0 : (0 : Int) ≤ k := by omega
      have hki : (k : Int) < n := by omega
      go_wp2
      go_loopw [5, 7] (fun a i wi => ∃ j : Nat, j ≤ x ∧ a = .int .i64 ((s + j : Nat) : Int) ∧ i = .int .i64 j ∧ s + j ≤ 256 ∧ Hid (Blk wi w.heap.size 76 (ivs .u16 zr16)) ∧ Hid (Blk wi (w.heap.size + 1) 76 (ivs .u16 (if oddB k then fillK (decK D k) s j else decK D k))) ∧ Hid (Below w.heap.size w wi)) (fun _ i _ => x - (intOf i).toNat)
      case atStart => exact ⟨0, by omega, by rw [Nat.add_zero], rfl, by omega, H0, Lib.hid (by have := H1.out; cases oddB k <;> exact this), HB⟩
      case round =>
        clear H0 H1 HB
        obtain ⟨j, hj, rfl, rfl, hsj, H0, H1, HB⟩ := hrel
        obtain ⟨b', o', hA', hbB', hc'⟩ := (HR.out.below HB.out (Nat.le_refl _)).at_ (by omega)
        cases hA'
        have cb1 := hc' k (.int .u8 x) (by rw [List.getElem?_map, HX.out]; rfl)
        clear hc' hbB'
        have hj0 : (0 : Int) ≤ j := by omega
        have hxi : (x : Int) ≤ 255 := hx.2
        by_cases hjx : j < x
        · have hjxi : (j : Int) < x := by omega
          by_cases h6 : s + j = 256
          · rw [h6]
            have hbad : pmL (decA D) ≠ D := un_long (.inl (by have := sumN_mono D (show k + 1 ≤ D.length by have := HL.out; omega); have := HSM.out; omega))
            have EM : unM D = zr16 := by rw [unM, if_neg hbad]
            have EC : unC D = 5 := by rw [unC, if_neg hbad]
            have HEM := Lib.hid EM
            have HEC := Lib.hid EC
            clear hbad EM EC
            go_wp2_with (refine wpList_store_row rfl _ _ _ rfl w.heap.size (ivs .u16 zr16) rfl rfl 76 _ H0.out (by exact size76) rfl ivs_one ?_)
            exact bodyPost_ret (results_row_tmpY rfl _ _ w.heap.size 76 (ivs .u16 zr16) (0, 0) _ rfl (H0.out.row _) Try.underlying76 rfl (by exact size76)) rfl ⟨by rw [HEM.out, HEC.out]; rfl, below_setRow HB.out (by omega) _⟩
          · have h6i : ¬ ((s : Int) + j) = 256 := by omega
            cases hod : oddB k
            · have hrm : (k : Int) % 2 = 0 := by unfold oddB at hod; simp at hod; omega
              rw [hod] at H1
              go_wp2
              exact ⟨⟨j + 1, by omega, by go_num, by go_num, by omega, H0, H1, HB⟩, by simp [intOf]; omega⟩
            · have hrm : (k : Int) % 2 = 1 := by unfold oddB at hod; simp at hod; omega
              rw [hod, if_pos rfl] at H1
              obtain ⟨m1, m2⟩ := fillK_ok HM.out.1 HM.out.2 s j
              have HM1 := Lib.hid m1
              have HM2 := Lib.hid m2
              have hfl : fillK (decK D k) s (j + 1) = setK (fillK (decK D k) s j) (s + j) := rfl
              have HFL := Lib.hid hfl
              clear m1 m2 hfl
              generalize fillK (decK D k) s j = M at *
              obtain ⟨a, ha⟩ : ∃ a, s + j = a := ⟨_, rfl⟩
              rw [ha] at HFL hsj h6 ⊢
              have H3 := Lib.hid (setK_blk H1.out a)
              have h6a : ¬ (a : Int) = 256 := by omega
              have ha0 : (0 : Int) ≤ a := by omega
              obtain ⟨u, hu⟩ : ∃ u : Nat, (a : Int) % 16 = u := ⟨a % 16, by omega⟩
              obtain ⟨v, hv⟩ : ∃ v : Nat, (a : Int) / 16 = v := ⟨a / 16, by omega⟩
              rw [show a % 16 = u by omega, show a / 16 = v by omega] at H3
              have hv16 : v < 16 := by omega
              have hu16 : u < 16 := by omega
              have c8 := H1.out.getAtG (i := v) (by rw [HM1.out]; exact hv16)
              have f8 := H1.out.frozen v
              generalize M.getD v 0 = m8 at *
              have hvI : (v : Int) < 16 := by omega
              have hv0 : (0 : Int) ≤ v := by omega
              have huI : (u : Int) < 16 := by omega
              have hu0 : (0 : Int) ≤ u := by omega
              have hp16 := pow_16 hu16
              have hwp : IntKind.u16.wrap (2 ^ u) = 2 ^ u := by rw [IntKind.wrap_u16]; omega
              have HA := Lib.hid ha
              clear hp16 ha
              go_wp2
              have H3' : Hid (Blk (wr.setCell ⟨w.heap.size + 1, v, none⟩ (.int .u16 (bits .or .u16 m8 (2 ^ u)))) (w.heap.size + 1) 76 (ivs .u16 (setK M a))) := H3
              exact ⟨⟨j + 1, by omega, by rw [show s + (j + 1) = a + 1 by have := HA.out; omega]; go_num, by go_num, by have := HA.out; omega, Lib.hid (H0.out.far (p := ⟨w.heap.size + 1, v, none⟩) (show w.heap.size ≠ w.heap.size + 1 by omega) _), by rw [HFL.out]; exact H3', Lib.hid (HB.out.setCell (p := ⟨w.heap.size + 1, v, none⟩) (show w.heap.size ≤ w.heap.size + 1 by omega) _)⟩, by simp [intOf]; omega⟩
        · obtain rfl : j = x := by omega
          go_wp2
          exact ⟨⟨k + 1, by omega, by rw [HSM.out]; rfl, by go_num, by rw [HSM.out]; exact hsj, H0, Lib.hid (by
            have h := H1.out
            have e2 : atK D (k + 1) - atK D k = j := by rw [HAL.out, atK, HSM.out]; simp only [Int.toNat_natCast]; omega
            rw [HDK.out, e2, HAL.out]
            exact h), HB⟩, by simp [intOf]; omega⟩
    · obtain rfl : k = n := by omega
      have hM := decK_ok D k
      have hal : atK D k = sumN D k := by unfold atK; omega
      have hda : decA D = if oddB k then fillK (decK D k) (atK D k) (256 - atK D k) else decK D k := by rw [decA, HL.out]
      rw [hal] at hda
      have HM := Lib.hid hM
      have HDA := Lib.hid hda
      clear hM hal hda
      obtain ⟨s, hse⟩ : ∃ s, sumN D k = s := ⟨_, rfl⟩
      rw [hse] at HDA hs ⊢
      generalize decK D k = M0 at *
      go_wp2
      go_loopw [5] (fun a wi => ∃ j : Nat, a = .int .i64 ((s + j : Nat) : Int) ∧ s + j ≤ 256 ∧ (oddB k = false → j = 0) ∧ Hid (Blk wi w.heap.size 76 (ivs .u16 zr16)) ∧ Hid (Blk wi (w.heap.size + 1) 76 (ivs .u16 (fillK M0 s j))) ∧ Hid (Below w.heap.size w wi)) (fun a _ => 256 - (intOf a).toNat)
      case atStart => exact ⟨0, by rw [Nat.add_zero], by omega, fun _ => rfl, H0, H1, HB⟩
      case round =>
        clear H0 H1 HB
        obtain ⟨j, rfl, hsj, hz, H0, H1, HB⟩ := hrel
        have hk0 : (0 : Int) ≤ k := by omega
        have hcs : (oddB k = true ∧ s + j < 256) ∨ ((oddB k = false ∨ (oddB k = true ∧ s + j = 256)) ∧ fillK M0 s j = decA D) := by
          rw [HDA.out]
          cases hod : oddB k
          · obtain rfl := hz hod
            exact .inr ⟨.inl rfl, rfl⟩
          · by_cases h6 : s + j = 256
            · exact .inr ⟨.inr ⟨rfl, h6⟩, by rw [if_pos rfl, show 256 - s = j by omega]⟩
            · exact .inl ⟨rfl, by omega⟩
        rcases hcs with ⟨hod, h6⟩ | ⟨hcs, hdec⟩
        · have hrm : (k : Int) % 2 = 1 := by unfold oddB at hod; simp at hod; omega
          obtain ⟨m1, m2⟩ := fillK_ok HM.out.1 HM.out.2 s j
          have HM1 := Lib.hid m1
          have hfl : fillK M0 s (j + 1) = setK (fillK M0 s j) (s + j) := rfl
          have HFL := Lib.hid hfl
          have HOD := Lib.hid hod
          clear m1 m2 hfl hz hod
          generalize fillK M0 s j = M at *
          obtain ⟨a, ha⟩ : ∃ a, s + j = a := ⟨_, rfl⟩
          rw [ha] at HFL hsj h6 ⊢
          have H3 := Lib.hid (setK_blk H1.out a)
          have h6a : (a : Int) < 256 := by omega
          have ha0 : (0 : Int) ≤ a := by omega
          obtain ⟨u, hu⟩ : ∃ u : Nat, (a : Int) % 16 = u := ⟨a % 16, by omega⟩
          obtain ⟨v, hv⟩ : ∃ v : Nat, (a : Int) / 16 = v := ⟨a / 16, by omega⟩
          rw [show a % 16 = u by omega, show a / 16 = v by omega] at H3
          have hv16 : v < 16 := by omega
          have hu16 : u < 16 := by omega
          have c8 := H1.out.getAtG (i := v) (by rw [HM1.out]; exact hv16)
          have f8 := H1.out.frozen v
          generalize M.getD v 0 = m8 at *
          have hvI : (v : Int) < 16 := by omega
          have hv0 : (0 : Int) ≤ v := by omega
          have huI : (u : Int) < 16 := by omega
          have hu0 : (0 : Int) ≤ u := by omega
          have hp16 := pow_16 hu16
          have hwp : IntKind.u16.wrap (2 ^ u) = 2 ^ u := by rw [IntKind.wrap_u16]; omega
          have HA := Lib.hid ha
          clear hp16 ha
          go_wp2
          have H3' : Hid (Blk (wr.setCell ⟨w.heap.size + 1, v, none⟩ (.int .u16 (bits .or .u16 m8 (2 ^ u)))) (w.heap.size + 1) 76 (ivs .u16 (setK M a))) := H3
          exact ⟨⟨j + 1, by rw [show s + (j + 1) = a + 1 by have := HA.out; omega]; go_num, by have := HA.out; omega, fun h => absurd (HOD.out.symm.trans h) (by decide), Lib.hid (H0.out.far (p := ⟨w.heap.size + 1, v, none⟩) (show w.heap.size ≠ w.heap.size + 1 by omega) _), by rw [HFL.out]; exact H3', Lib.hid (HB.out.setCell (p := ⟨w.heap.size + 1, v, none⟩) (show w.heap.size ≤ w.heap.size + 1 by omega) _)⟩, by simp [intOf]; omega⟩
        · rw [hdec] at H1
          have HPK := Lib.hid (fun W => sPackMask_any (decA D) (decA_ok D).1 (decA_ok D).2 W)
          have HDM := Lib.hid (decA_ok D)
          have hn2 : (s : Int) + j ≤ 256 := by omega
          have hpm : ((oddB k = false) ∧ (k : Int) % 2 = 0) ∨ ((k : Int) % 2 = 1 ∧ (s : Int) + j = 256) := by
            rcases hcs with h | ⟨h, h6⟩
            · exact .inl ⟨h, by unfold oddB at h; simp at h; omega⟩
            · exact .inr ⟨by unfold oddB at h; simp at h; omega, by omega⟩
          have HCS : Hid ((pmL (decA D) = D ∧ (pmL (decA D)).length = k ∧ unM D = decA D ∧ unC D = 0) ∨ (pmL (decA D) ≠ D ∧ unM D = zr16 ∧ unC D = 5)) := Lib.hid (by
            by_cases e : pmL (decA D) = D
            · exact .inl ⟨e, by rw [e]; exact HL.out, by rw [unM, if_pos e], by rw [unC, if_pos e]⟩
            · exact .inr ⟨e, by rw [unM, if_neg e], by rw [unC, if_neg e]⟩)
          clear hcs hz hdec HDA HM
          generalize unM D = RM at *
          generalize unC D = RC at *
          by_cases hln : (pmL (decA D)).length = k
          · generalize hP : pmL (decA D) = P at *
            have HP255 : Hid (is255 P) := Lib.hid (by rw [← hP]; exact pmL_in _)
            have HRR := HR
            rcases hpm with ⟨-, hrm⟩ | ⟨hrm, h6⟩
            all_goals
              go_wp2_with (first
                | refine wpList_load_row rfl _ _ rfl (w.heap.size + 1) rfl 76 (ivs .u16 (decA D)) (0, 0) _ H1.out Try.underlying76 rfl (by rw [ivs_size, HDM.out.1]; exact size76) ?_
                | (go_at_call 45; refine (HPK.out _).mono ?_; rintro e w2 ⟨g2, c2, rfl, hO2, hb2⟩; have HO2 := Lib.hid hO2.rd; have HB2 := Lib.hid (HB.out.trans (hb2.mono HB.out.size)); have R0 := Lib.hid (H0.out.below hb2 (by have := H1.out.lt; omega)); have R1 := Lib.hid (H1.out.below hb2 H1.out.lt); clear hO2 hb2))
              go_loopw [9] (fun i wi => ∃ m : Nat, m ≤ k ∧ i = .int .i64 m ∧ Hid (P.take m = D.take m) ∧ Hid (Rd wi w2.heap.size 1 (some ⟨g2, 0, none⟩) P.length (P.map (.int .u8))) ∧ Hid (Blk wi w.heap.size 76 (ivs .u16 zr16)) ∧ Hid (Blk wi (w.heap.size + 1) 76 (ivs .u16 (decA D))) ∧ Hid (Below w.heap.size w wi)) (fun i _ => k - (intOf i).toNat)
              case atStart => exact ⟨0, by omega, rfl, Lib.hid rfl, HO2, R0, R1, HB2⟩
              case round =>
                clear HO2 R0 R1 HB2
                obtain ⟨m, hm, rfl, HEQ, HO2, R0, R1, HB2⟩ := hrel
                by_cases hmk : m < k
                · have hmi : (m : Int) < k := by omega
                  have hm0 : (0 : Int) ≤ m := by omega
                  have hmP : m < P.length := by omega
                  have hmD : m < D.length := by have := HL.out; omega
                  have hmPi : (m : Int) < (P.length : Int) := by omega
                  obtain ⟨b, o, rfl, hbB, hc⟩ := (HR.out.below HB2.out (Nat.le_refl _)).at_ (by omega)
                  obtain ⟨g9, o9, hA9, hbB9, hc9⟩ := HO2.out.at_ (by omega)
                  cases hA9
                  have c1 := hc m (.int .u8 D[m]) (by rw [List.getElem?_map, List.getElem?_eq_getElem hmD]; rfl)
                  have c2 := hc9 m (.int .u8 P[m]) (by rw [List.getElem?_map, List.getElem?_eq_getElem hmP]; rfl)
                  rw [Nat.zero_add] at c2
                  have hx := H255.out _ (List.getElem_mem hmD)
                  have hy := HP255.out _ (List.getElem_mem hmP)
                  have hst : P[m] = D[m] → P.take (m + 1) = D.take (m + 1) := fun e => by
                    rw [List.take_succ_eq_append_getElem hmP, List.take_succ_eq_append_getElem hmD, HEQ.out, e]
                  have hno : ¬ P[m] = D[m] → P ≠ D := fun h e => h (by subst e; rfl)
                  have HST := Lib.hid hst
                  have HNO := Lib.hid hno
                  clear hst hno hc hc9 hbB hbB9
                  generalize P[m] = y at *
                  generalize D[m] = x at *
                  by_cases hxy : y = x
                  · subst hxy
                    have HS2 := Lib.hid (HST.out rfl)
                    clear HST HNO
                    go_wp2
                    go_quiet (fail)
                    go_wp2
                    exact ⟨⟨m + 1, by omega, by go_num, HS2, Lib.hid (HO2.out.drewN _), Lib.hid (R0.out.drewN _), Lib.hid (R1.out.drewN _), Lib.hid (below_drewN HB2.out _)⟩, by simp [intOf]; omega⟩
                  · have HE : Hid (RM = zr16 ∧ RC = 5) := Lib.hid (by
                      rcases HCS.out with ⟨e, _, _⟩ | ⟨_, e⟩
                      · exact absurd e (HNO.out hxy)
                      · exact e)
                    go_wp2
                    go_quiet (fail)
                    go_wp2_with (refine wpList_store_row rfl _ _ _ rfl w.heap.size (ivs .u16 zr16) rfl rfl 76 _ (R0.out.drewN _) (by exact size76) rfl ivs_one ?_)
                    exact bodyPost_ret (results_row_tmpY rfl _ _ w.heap.size 76 (ivs .u16 zr16) (0, 0) _ rfl ((R0.out.drewN _).row _) Try.underlying76 rfl (by exact size76)) rfl ⟨by rw [HE.out.1, HE.out.2]; rfl, below_setRow (below_drewN HB2.out _) (by omega) _⟩
                · obtain rfl : m = k := by omega
                  have hpd : P = D := by
                    have h1 := HEQ.out
                    rwa [List.take_of_length_le (by omega), List.take_of_length_le (by have := HL.out; omega)] at h1
                  have HE : Hid (RM = decA D ∧ RC = 0) := Lib.hid (by
                    rcases HCS.out with ⟨_, _, e⟩ | ⟨e, _⟩
                    · exact e
                    · exact absurd hpd e)
                  go_wp2_with (first
                    | refine wpList_load_row rfl _ _ rfl (w.heap.size + 1) rfl 76 (ivs .u16 (decA D)) (0, 0) _ R1.out Try.underlying76 rfl (by rw [ivs_size, HDM.out.1]; exact size76) ?_
                    | refine wpList_store_row rfl _ _ _ rfl w.heap.size (ivs .u16 (decA D)) rfl rfl 76 _ R0.out (by rw [ivs_size, HDM.out.1]; exact size76) (by rw [ivs_size, ivs_size, HDM.out.1]; rfl) ivs_one ?_)
                  exact bodyPost_ret (results_row_tmpY rfl _ _ w.heap.size 76 (ivs .u16 (decA D)) (0, 0) _ rfl (R0.out.row _) Try.underlying76 rfl (by rw [ivs_size, HDM.out.1]; exact size76)) rfl ⟨by rw [HE.out.1, HE.out.2]; rfl, below_setRow HB2.out (by omega) _⟩
          · have HE : Hid (RM = zr16 ∧ RC = 5) := Lib.hid (by
              rcases HCS.out with ⟨_, e, _⟩ | ⟨_, e⟩
              · exact absurd e hln
              · exact e)
            have hlni : ¬ ((pmL (decA D)).length : Int) = (k : Int) := by omega
            rcases hpm with ⟨-, hrm⟩ | ⟨hrm, h6⟩
            all_goals
              go_wp2_with (first
                | refine wpList_load_row rfl _ _ rfl (w.heap.size + 1) rfl 76 (ivs .u16 (decA D)) (0, 0) _ H1.out Try.underlying76 rfl (by rw [ivs_size, HDM.out.1]; exact size76) ?_
                | (go_at_call 45; refine (HPK.out _).mono ?_; rintro e w2 ⟨g2, c2, rfl, hO2, hb2⟩; have HB2 := Lib.hid (HB.out.trans (hb2.mono HB.out.size)); have R0 := Lib.hid (H0.out.below hb2 (by have := H1.out.lt; omega)); clear hO2 hb2)
                | refine wpList_store_row rfl _ _ _ rfl w.heap.size (ivs .u16 zr16) rfl rfl 76 _ R0.out (by exact size76) rfl ivs_one ?_)
              exact bodyPost_ret (results_row_tmpY rfl _ _ w.heap.size 76 (ivs .u16 zr16) (0, 0) _ rfl (R0.out.row _) Try.underlying76 rfl (by exact size76)) rfl ⟨by rw [HE.out.1, HE.out.2]; rfl, below_setRow HB2.out (by omega) _⟩
end Go.Proofs.Ytmagaapdijapiaa
namespace Go.Proofs.Ytmagaapdijapiaa
open Go.ChangeShapes Go.WideShapes Go.ChangeAt Go.RowKit
set_option maxHeartbeats 1600000 in
theorem isSet_any (M : List Int) (hM : M.length = 16) (h16 : is16 M) (k : Nat) (hk : k < 256) (w : World) :
    Calls Try.prog 132 #[.agg (ivs .u16 M), .int .i64 k] w fun e w' => e = .returned (.bool (bitK M k)) ∧ Below w.heap.size w w' := by
  obtain ⟨u, hu⟩ : ∃ u : Nat, (k : Int) % 16 = u := ⟨k % 16, by omega⟩
  obtain ⟨v, hv⟩ : ∃ v : Nat, (k : Int) / 16 = v := ⟨k / 16, by omega⟩
  have hbk : bitK M k = bitB M u v := by rw [bitK, show k % 16 = u by omega, show k / 16 = v by omega]
  have h0 : Blk (w.alloc (.cells (ivs .u16 M) 76)) w.heap.size 76 (ivs .u16 M) := Blk.newAt rfl rfl
  have hv16 : v < 16 := by omega
  have hu16 : u < 16 := by omega
  have c1 := h0.getAtG (i := v) (by omega)
  obtain ⟨v0, v1⟩ := h16.getD v
  have hb : bitB M u v = decide (M.getD v 0 / 2 ^ u % 2 = 1) := rfl
  rw [hbk, hb]
  generalize M.getD v 0 = z at *
  have hkI : (k : Int) < 256 := by omega
  have hk0 : (0 : Int) ≤ k := by omega
  have hx0 : (0 : Int) ≤ u := by omega
  have hx1 : (u : Int) < 16 := by omega
  have hy0 : (0 : Int) ≤ v := by omega
  have hy1 : (v : Int) < 16 := by omega
  clear h0 hb hbk h16
  go_enter Try.func132, Try.ntmps132
  go_wp2
  go_ret
  rw [bit_eq v0 v1]
  exact ⟨rfl, (Below.refl _ _).alloc (Nat.le_refl _) _⟩
set_option maxRecDepth 20000 in
set_option maxHeartbeats 3200000 in
theorem iPackMask_any (M : List Int) (hM : M.length = 16) (h16 : is16 M) (w : World) :
    Calls Try.prog 94 #[.agg (ivs .u16 M)] w (GivesPk (pmL M) w) := by
  obtain ⟨i0, hi, iz0, iz1, iz2⟩ := info_parts Byte_info
  have h0 : Blk (w.alloc (.cells (ivs .u16 M) 76)) w.heap.size 76 (ivs .u16 M) := Blk.newAt rfl rfl
  have H0 := Lib.hid h0
  clear h0
  go_enter Try.func94, Try.ntmps94
  go_wp2
  go_loopw [3, 4, 5, 8] (fun v q o i wr => ∃ (k : Nat) (O : List Int) (f : Nat) (s : Bool) (r : Nat) (g cc : Nat), k ≤ 256 ∧ v = .slice (some ⟨g, 0, none⟩) O.length cc ∧ o = .bool s ∧ q = .int .i64 f ∧ i = .int .i64 k ∧ Hid (pmTo M k = (O, f, s)) ∧ Hid (f + r = k) ∧ Hid (wr.ownsRow (w.heap.size + 1) 5 1 (.slice (some ⟨g, 0, none⟩) O.length cc) O.length (O.map (.int .u8))) ∧ Hid (Blk wr w.heap.size 76 (ivs .u16 M)) ∧ w.heap.size + 1 ≤ wr.heap.size ∧ Hid (Below w.heap.size w wr)) (fun _ _ _ i _ => 256 - (intOf i).toNat)
  case atStart =>
    refine ⟨0, [], 0, false, 0, _, _, by omega, rfl, rfl, rfl, rfl, Lib.hid rfl, Lib.hid rfl, Lib.hid ?_, Lib.hid (H0.out.alloc _), by simp, Lib.hid (((Below.refl _ _).alloc (Nat.le_refl _) _).alloc (by simp) _)⟩
    have := World.ownsRow_lit (e := 5) (base := w.heap.size + 1) (size := 1) (w.alloc (.cells (ivs .u16 M) 76)) #[] 0 (by simp) (by unfold maxLen; omega) rfl
    rw [size_alloc] at this
    exact this
  case round =>
    clear H0
    obtain ⟨k, O, f, s, r, g, cc, hk, rfl, rfl, rfl, rfl, HP, HF, HO, H0, hz, HB⟩ := hrel
    have hlen := pm_len HP.out
    by_cases hlt : k < 256
    · have hkI : (k : Int) < 256 := by omega
      have hk0 : (0 : Int) ≤ k := by omega
      have hr255 : (r : Int) ≤ 255 := by have := HF.out; omega
      have hr0 : (0 : Int) ≤ r := by omega
      have hkf : (k : Int) - (f : Int) = (r : Int) := by have := HF.out; omega
      have HX := Lib.hid (isSet_any M hM h16 k hlt wr)
      have HSM := Lib.hid (fun h => pm_same HP.out h)
      have HTN := Lib.hid (fun h => pm_turn HP.out HF.out h)
      have HF1 : Hid (f + (r + 1) = k + 1) := Lib.hid (by have := HF.out; omega)
      clear HP HF
      by_cases hbs : bitK M k = s
      · have HS2 := Lib.hid (HSM.out hbs)
        rw [hbs] at HX
        clear HSM HTN hbs
        cases s
        all_goals
          go_wp2_with (first
            | refine wpList_load_row rfl _ _ rfl w.heap.size rfl 76 (ivs .u16 M) (0, 0) _ H0.out Try.underlying76 rfl (by rw [ivs_size, hM]; exact size76) ?_
            | (go_at_call 132; refine HX.out.mono ?_; rintro e w2 ⟨rfl, hb2⟩; have hz2 := hb2.size; have HO2 := Lib.hid (own_below HO.out hb2 (Nat.le_refl _)); have H2 := Lib.hid (H0.out.below hb2 H0.out.lt); have HB2 := Lib.hid (HB.out.trans (hb2.mono (by omega))); clear hb2))
          exact ⟨⟨k + 1, O, f, _, r + 1, g, cc, by omega, rfl, rfl, rfl, by go_num, HS2, HF1, HO2, H2, by omega, HB2⟩, by simp [intOf]; omega⟩
      · have HT2 := Lib.hid (HTN.out hbs)
        have hne : bitK M k = !s := by cases hq : bitK M k <;> cases s <;> first | rfl | exact absurd hq hbs
        rw [hne] at HX
        clear HSM HTN hbs hne HF1
        cases s
        all_goals
          go_wp2_with (first
            | refine wpList_load_row rfl _ _ rfl w.heap.size rfl 76 (ivs .u16 M) (0, 0) _ H0.out Try.underlying76 rfl (by rw [ivs_size, hM]; exact size76) ?_
            | (go_at_call 132; refine HX.out.mono ?_; rintro e w2 ⟨rfl, hb2⟩; have hz2 := hb2.size; have HO2 := Lib.hid (own_below HO.out hb2 (Nat.le_refl _)); have H2 := Lib.hid (H0.out.below hb2 H0.out.lt); have HB2 := Lib.hid (HB.out.trans (hb2.mono (by omega))); clear hb2; have HN2 := Lib.hid (Blk.news (k := .u8) (l := [(r : Int)]) (t := 5) (w := w2.alloc (.cells #[.int .u8 (r : Int)] 5)) (g := w2.heap.size) (Blk.newAt rfl rfl)))
            | (at_builtin; refine wpList_append_own _ rfl _ _ 40 rfl (w.heap.size + 1) 5 i0 _ 1 1 Try.underlying40 hi iz0 iz1 iz2 rfl (by decide) (.slice (some ⟨g, 0, none⟩) O.length cc) O.length _ rfl (HO2.out.alloc _) ⟨w2.heap.size, 0, none⟩ 1 1 ([(r : Int)].map (.int .u8)) rfl rfl HN2.out ints_one (by unfold maxLen; omega) (by omega) (by rw [size_alloc]; omega) ?_; intro v' w3 hown' hgrow _; rw [← List.map_append] at hown'; have HOWN := Lib.hid hown'; have HGR := Lib.hid hgrow; clear hown' hgrow))
          obtain ⟨A1, c1', hve, hOO⟩ := Own.of_row HOWN.out
          obtain ⟨g2, cur1, hA1, _⟩ := hOO.at_ (by omega)
          subst hve hA1
          have hne := fun j e => (HO2.out.lt j e).1
          exact ⟨⟨k + 1, O ++ [(r : Int)], k, _, 1, g2, c1', by omega, by rw [List.length_append]; rfl, rfl, rfl, by go_num, HT2, Lib.hid rfl, Lib.hid (by rw [List.length_append]; exact HOWN.out), Lib.hid ((H2.out.alloc _).grown HGR.out (fun e => by have := hne _ e.symm; omega)), by have := HGR.out.size; rw [size_alloc] at this; omega, Lib.hid ((HB2.out.alloc (by omega) _).grown HGR.out (by rw [size_alloc]; omega) (fun j e => by have := hne j e; omega))⟩, by simp [intOf]; omega⟩
    · obtain rfl : k = 256 := by omega
      have HE : Hid (pmL M = O) := Lib.hid (by rw [pmL, HP.out])
      obtain ⟨A1, c1', hve, hO⟩ := Own.of_row HO.out
      cases hve
      have HOO := Lib.hid hO
      clear hO
      go_wp2
      go_ret
      exact ⟨g, cc, by rw [HE.out]; rfl, by rw [HE.out]; exact HOO.out.less (by omega), HB.out⟩
end Go.Proofs.Ytmagaapdijapiaa
namespace Go.Proofs.Ytmagaapdijapiaa
open Go.ChangeShapes Go.WideShapes Go.ChangeAt Go.RowKit
theorem addr_add0Y (b j : Nat) : (⟨b, 0, none⟩ : Addr).add j = ⟨b, j, none⟩ := by unfold Addr.add; split <;> simp_all
theorem Own.newsY {w : World} {lo hi g : Nat} {e : TypeId} {size n c : Nat} {xs : List Value} (h : Own w lo hi e size (some ⟨g, 0, none⟩) n c xs) : ∀ j u, xs[j]? = some u → w.cell? ((⟨g, 0, none⟩ : Addr).add j) = some u := fun j u hu => by
  rw [addr_add0Y]
  exact (h.cellV hu).1
theorem own_someY {w : World} {base : Nat} {e : TypeId} {size n : Nat} {v : Value} {xs : List Value} (h : w.ownsRow base e size v n xs) (hn : 0 < n) : ∃ g c, v = .slice (some ⟨g, 0, none⟩) n c := by
  rcases h.2 with ⟨_, rfl⟩ | ⟨g, cap, cur, rfl, _⟩
  · omega
  · exact ⟨g, cap, rfl⟩
theorem rd_cornerY {w : World} {B b o n : Nat} {l : List Bl} (h : Rd w B 18 (some ⟨b, o, none⟩) n (bcs l)) (hl : Bls l) (hn : l.length = n) {k : Nat} (hk : k < l.length) :
    w.cell? ⟨b, o + k * 18, none⟩ = some (.int .i32 ((l[k]).1.getD 0 0)) ∧ w.cell? ⟨b, o + k * 18 + 1, none⟩ = some (.int .i32 ((l[k]).1.getD 1 0)) ∧ w.rangeAt b (o + k * 18 + 2) ((l[k]).2.map (.int .u16)) := by
  have hr := h.block hl (by omega) hk
  have h1 := (hl.at_ hk).1
  refine ⟨?_, ?_, fun j v hv => ?_⟩
  · exact hr 0 _ (by rw [bvs, List.getElem?_append_left (by rw [List.length_map, h1]; omega), List.getElem?_map, List.getD_eq_getElem?_getD, List.getElem?_eq_getElem (by omega)]; rfl)
  · exact hr 1 _ (by rw [bvs, List.getElem?_append_left (by rw [List.length_map, h1]; omega), List.getElem?_map, List.getD_eq_getElem?_getD, List.getElem?_eq_getElem (by omega)]; rfl)
  · rw [Nat.add_assoc (o + k * 18)]
    exact hr (2 + j) v (by rw [bvs, List.getElem?_append_right (by rw [List.length_map, h1]; omega), List.length_map, h1, Nat.add_sub_cancel_left]; exact hv)
theorem append32D (n : Int) (v : Value) (D : List Int) (m : Nat) (B : Nat) (w : World) (hm : D.length = m) (hB : B ≤ w.heap.size) (hown : w.ownsRow B 5 1 v m (D.map (.int .u8))) (hlen : m ≤ 1000000000) :
    Calls Try.prog 93 #[.agg #[], v, .int .u32 n] w fun e w' => ∃ g c, e = .returned (.slice (some ⟨g, 0, none⟩) (m + 4) c) ∧ w'.ownsRow B 5 1 (.slice (some ⟨g, 0, none⟩) (m + 4) c) (m + 4) ((D ++ four n).map (.int .u8)) ∧ w.grownBy w' v.ownBlock := by
  subst hm
  refine (append32_any n v D B w hB hown hlen).mono ?_
  rintro e w' ⟨v', he, ho, hg⟩
  obtain ⟨g, c, rfl⟩ := own_someY ho (by omega)
  exact ⟨g, c, he, by rw [List.map_append]; exact ho, hg⟩
theorem blk_ne {w : World} {base : Nat} {e t : TypeId} {size n c q g : Nat} {xs : List Value} {cs : Array Value} (h : w.ownsRow base e size (.slice (some ⟨q, 0, none⟩) n c) n xs) (hb : Blk w g t cs) (he : e ≠ t) : g ≠ q := fun e2 => by
  subst e2
  rcases h.2 with ⟨h1, _⟩ | ⟨g2, _, cur, h3, _, h4, _⟩
  · cases h1
  · cases h3
    unfold Blk at hb
    rw [hb] at h4
    injection h4 with h4
    injection h4 with _ h4
    exact he h4.symm
theorem four_len (n : Int) : (four n).length = 4 := rfl
def GivesD (D : List Int) (w : World) (e : Ending) (w' : World) : Prop :=
  ∃ g c, e = .returned (.slice (some ⟨g, 0, none⟩) D.length c) ∧ Own w' w.heap.size w'.heap.size 5 1 (some ⟨g, 0, none⟩) D.length c (D.map (.int .u8)) ∧ Below w.heap.size w w'
set_option maxRecDepth 20000 in
set_option maxHeartbeats 6400000 in
theorem pictureData_any (A : Option Addr) (n c : Nat) (l : List Bl) (hl : l.length = n) (hrow : Bls l) (h16 : ∀ b ∈ l, is16 b.2) (hn : n ≤ 1048576) (w : World) (hR : Rd w w.heap.size 18 A n (bcs l)) :
    Calls Try.prog 48 #[.slice A n c] w (GivesD (picD l) w) := by
  obtain ⟨i0, hi, iz0, iz1, iz2⟩ := info_parts Byte_info
  have HR := Lib.hid hR
  have HROW := Lib.hid hrow
  have H16 := Lib.hid h16
  have HL := Lib.hid hl
  have h0 : (w.alloc (.cells #[] 5)).ownsRow w.heap.size 5 1 (.slice (some ⟨w.heap.size, 0, none⟩) 0 0) 0 ((picD (l.take 0)).map (.int .u8)) := World.ownsRow_lit (e := 5) (base := w.heap.size) (size := 1) w #[] 0 (Nat.le_refl _) (by unfold maxLen; omega) rfl
  have H0 := Lib.hid h0
  clear hR hrow h16 hl h0
  go_enter Try.func48, Try.ntmps48
  go_wp2
  go_loopw [3, 10] (fun v i wr => ∃ (k : Nat) (D : List Int) (g cc : Nat), k ≤ n ∧ i = .int .i64 k ∧ v = .slice (some ⟨g, 0, none⟩) D.length cc ∧ Hid (D = picD (l.take k)) ∧ Hid (wr.ownsRow w.heap.size 5 1 (.slice (some ⟨g, 0, none⟩) D.length cc) D.length (D.map (.int .u8))) ∧ Hid (Below w.heap.size w wr)) (fun _ i _ => n - (intOf i).toNat)
  case atStart => exact ⟨0, [], _, _, Nat.zero_le _, rfl, rfl, Lib.hid rfl, H0, Lib.hid ((Below.refl _ _).alloc (Nat.le_refl _) _)⟩
  case round =>
    clear H0
    obtain ⟨k, D, g, cc, hk, rfl, rfl, HD, HO, HB⟩ := hrel
    by_cases hlt : k < n
    · have hkl : k < l.length := by have := HL.out; omega
      have hkI : (k : Int) < n := by omega
      have hk0 : (0 : Int) ≤ k := by omega
      have hRw := HR.out.below HB.out (Nat.le_refl _)
      obtain ⟨b, o, rfl, hbB, hc⟩ := hRw.at_ (by omega)
      have hrg := hRw.block HROW.out (by have := HL.out; omega) hkl
      have hF1 := HROW.out.at_ hkl
      have hF16 := H16.out _ (List.getElem_mem hkl)
      have hsn := picD_snoc hkl
      have hDl : D.length ≤ 277872640 := by
        have h1 := picD_le (l.take k)
        rw [← HD.out, List.length_take] at h1
        omega
      rw [← HD.out] at hsn
      obtain ⟨F, hF⟩ : ∃ F, F = l[k] := ⟨_, rfl⟩
      rw [← hF] at hrg hF1 hF16 hsn
      obtain ⟨C, M⟩ := F
      obtain ⟨X, Y, rfl⟩ : ∃ X Y, C = [X, Y] := ⟨_, _, two_of hF1.1⟩
      have hbd : blkD ([X, Y], M) = four (X % 4294967296) ++ four (Y % 4294967296) ++ [((pmL M).length : Int) % 256] ++ pmL M := rfl
      rw [hbd] at hsn
      have HSN := Lib.hid hsn
      have HRG := Lib.hid hrg
      have HF1 := Lib.hid hF1
      have hpl := pmL_length M
      have HPM := Lib.hid (fun W => iPackMask_any M hF1.2 hF16 W)
      have HGL := Lib.hid (HO.out.lt g rfl)
      have hzw := HB.out.size
      clear hRw hc hbB hrg hF1 hF16 hF hsn hbd HD
      generalize pmL M = PL at *
      go_wp2_with (first
        | refine wpList_load_mid rfl _ _ rfl b (o + k * 18) (by rfl) (bvs ([X, Y], M)) _ HRG.out Try.underlying78 rfl (by rw [bvs_length HF1.out]; exact size78) ?_
        | (refine wpList_store_row rfl _ _ _ rfl wr.heap.size (bav ([X, Y], M)) rfl rfl 78 (bav (zr2, zr16)) (Blk.newAt rfl rfl) (by rw [bav_size HF1.out]; exact size78) (by rw [bav_size HF1.out, bav_size ⟨rfl, rfl⟩]) (bav_one ([X, Y], M)) ?_; generalize hw5 : World.setRow _ _ _ = w5; have G5 : Hid (Blk w5 wr.heap.size 78 (bav ([X, Y], M))) := Lib.hid (by rw [← hw5]; exact (Blk.newAt rfl rfl).row _); have B5r : Hid (Below wr.heap.size wr w5) := Lib.hid (by rw [← hw5]; exact below_setRow ((Below.refl _ _).alloc (Nat.le_refl _) _) (g := wr.heap.size) (Nat.le_refl _) _); have O5 := Lib.hid (own_below HO.out B5r.out (Nat.le_refl _)); have B5 := Lib.hid (HB.out.trans (B5r.out.mono hzw)); have c0 : w5.cell? ⟨wr.heap.size, 0, none⟩ = some (.int .i32 X) := (G5.out.rangeV (bav_at1 HF1.out)) 0 _ rfl; clear hw5)
        | (go_at_call_of 93 Y; refine (append32D (Y % 4294967296) _ (D ++ four (X % 4294967296)) (D.length + 4) w.heap.size _ (by rw [List.length_append, four_len]) B6.out.size O6.out (by omega)).mono ?_; rintro e w7 ⟨g7, c7, rfl, o7, h7⟩; have G7 := Lib.hid (G6.out.grown h7 (fun e => blk_ne O6.out G6.out (by decide) (Option.some.inj e))); have B7 := Lib.hid (B6.out.grown h7 B6.out.size (fun j e => (O6.out.lt j e).1)); have O7 := Lib.hid o7; have RM := Lib.hid (G7.out.rangeV (bav_at2 (b := ([X, Y], M)) HF1.out)); clear o7 h7)
        | (go_at_call_of 93 X; refine (append32D (X % 4294967296) _ D D.length w.heap.size _ rfl B5.out.size O5.out (by omega)).mono ?_; rintro e w6 ⟨g6, c6, rfl, o6, h6⟩; have G6 := Lib.hid (G5.out.grown h6 (fun e => blk_ne O5.out G5.out (by decide) (Option.some.inj e))); have B6 := Lib.hid (B5.out.grown h6 B5.out.size (fun j e => (O5.out.lt j e).1)); have O6 := Lib.hid o6; have c1 : w6.cell? ⟨wr.heap.size, 1, none⟩ = some (.int .i32 Y) := (G6.out.rangeV (bav_at1 HF1.out)) 1 _ rfl; clear o6 h6)
        | refine wpList_load_ivs rfl _ _ rfl wr.heap.size 2 rfl .u16 M _ RM.out Try.underlying76 rfl (by rw [HF1.out.2]; exact size76) ?_
        | (go_at_call 94; refine (HPM.out _).mono ?_; rintro e w8 ⟨g8, c8, rfl, hO8, h8⟩; have O8 := Lib.hid (own_below O7.out h8 (Nat.le_refl _)); have P8 := Lib.hid hO8; have B8 := Lib.hid (B7.out.trans (h8.mono B7.out.size)); have z8 := h8.size; have z7 := B7.out.size; have q7 := (O7.out.lt g7 rfl).2; clear hO8 h8; have HN8 := Lib.hid (Blk.news (k := .u8) (l := [(PL.length : Int) % 256]) (t := 5) (w := w8.alloc (.cells #[.int .u8 ((PL.length : Int) % 256)] 5)) (g := w8.heap.size) (Blk.newAt rfl rfl)))
        | (at_builtin; refine wpList_append_own _ rfl _ _ 40 rfl w.heap.size 5 i0 _ 1 1 Try.underlying40 hi iz0 iz1 iz2 rfl (by decide) (.slice (some ⟨g7, 0, none⟩) (D.length + 4 + 4) c7) (D.length + 4 + 4) _ rfl (O8.out.alloc _) ⟨w8.heap.size, 0, none⟩ 1 1 ([(PL.length : Int) % 256].map (.int .u8)) rfl rfl HN8.out ints_one (by unfold maxLen; omega) (by omega) (by rw [size_alloc]; omega) ?_; intro v9 w9 hown9 hgrow9 _; rw [← List.map_append] at hown9; obtain ⟨g9, c9, rfl⟩ := own_someY hown9 (by omega); have O9 : Hid (w9.ownsRow w.heap.size 5 1 (.slice (some ⟨g9, 0, none⟩) ((D.length + 4 + 4) + 1) c9) ((D.length + 4 + 4) + 1) ((D ++ four (X % 4294967296) ++ four (Y % 4294967296) ++ [(PL.length : Int) % 256]).map (.int .u8))) := Lib.hid hown9; have P9 := Lib.hid ((P8.out.below ((Below.refl w8.heap.size w8).alloc (Nat.le_refl _) (.cells #[.int .u8 ((PL.length : Int) % 256)] 5)) (Nat.le_refl _)).grown hgrow9 (fun j e => by have e2 : g7 = j := Option.some.inj e; exact .inl (by omega))); have B9 := Lib.hid ((B8.out.alloc B8.out.size (.cells #[.int .u8 ((PL.length : Int) % 256)] 5)).grown hgrow9 (by rw [size_alloc]; omega) (fun j e => (O8.out.lt j e).1)); clear hown9 hgrow9)
        | (at_builtin; refine wpList_append_own _ rfl _ _ 40 rfl w.heap.size 5 i0 _ 1 1 Try.underlying40 hi iz0 iz1 iz2 rfl (by decide) (.slice (some ⟨g9, 0, none⟩) ((D.length + 4 + 4) + 1) c9) ((D.length + 4 + 4) + 1) _ rfl O9.out ⟨g8, 0, none⟩ PL.length c8 (PL.map (.int .u8)) rfl (by rw [List.length_map, Nat.mul_one]) P9.out.newsY ints_one (by unfold maxLen; omega) (by omega) (by have := B9.out.size; omega) ?_; intro v10 w10 hown10 hgrow10 _; rw [← List.map_append] at hown10; have O10 := Lib.hid hown10; have B10 := Lib.hid (B9.out.grown hgrow10 B9.out.size (fun j e => (O9.out.lt j e).1)); clear hown10 hgrow10))
      obtain ⟨g10, c10, rfl⟩ := own_someY O10.out (by omega)
      have hfin : (D ++ four (X % 4294967296) ++ four (Y % 4294967296) ++ [(PL.length : Int) % 256]) ++ PL = D ++ (four (X % 4294967296) ++ four (Y % 4294967296) ++ [(PL.length : Int) % 256] ++ PL) := by simp only [List.append_assoc]
      have hlen : (D ++ (four (X % 4294967296) ++ four (Y % 4294967296) ++ [(PL.length : Int) % 256] ++ PL)).length = D.length + 4 + 4 + 1 + PL.length := by rw [← hfin, List.length_append, List.length_append, List.length_append, List.length_append]; rfl
      exact ⟨⟨k + 1, _, g10, c10, by omega, by go_num, by rw [hlen], Lib.hid HSN.out.symm, Lib.hid (by rw [hlen, ← hfin]; exact O10.out), B10⟩, by simp [intOf]; omega⟩
    · obtain rfl : k = n := by omega
      have HE : Hid (picD l = D) := Lib.hid (by rw [HD.out, List.take_of_length_le (by have := HL.out; omega)])
      obtain ⟨A1, c1', hve, hO⟩ := Own.of_row HO.out
      cases hve
      have HOO := Lib.hid hO
      clear hO
      go_wp2
      go_ret
      exact ⟨g, cc, by rw [HE.out]; rfl, by rw [HE.out]; exact HOO.out, HB.out⟩
end Go.Proofs.Ytmagaapdijapiaa
namespace Go.Proofs.Ytmagaapdijapiaa
open Go.ChangeShapes Go.WideShapes Go.ChangeAt Go.RowKit
theorem Own.capY {w : World} {lo hi : Nat} {e : TypeId} {size : Nat} {A : Option Addr} {n c : Nat} {xs : List Value} (h : Own w lo hi e size A n c xs) : c ≤ 9223372036854775807 := by
  rcases h.2 with ⟨_, _, rfl⟩ | ⟨g, cur, h1, h2, h3, h4, h5, h6, _⟩
  · omega
  · unfold maxLen at h6; exact h6
def GivesFp (fs : List (List Int)) (code : Int) (w : World) (e : Ending) (w' : World) : Prop :=
  ∃ A c, e = .returned (.tuple #[.slice A fs.length c, .int .i64 code]) ∧ Own w' w.heap.size w'.heap.size 87 16 A fs.length c (fs.flatten.map (.int .u8)) ∧ Below w.heap.size w w'
theorem GivesFp.nil {w w' : World} {k : Int} (hb : Below w.heap.size w w') : GivesFp [] k w (.returned (.tuple #[.slice none 0 0, .int .i64 k])) w' := ⟨none, 0, rfl, ⟨rfl, .inl ⟨rfl, rfl, rfl⟩⟩, hb⟩
theorem GivesFp.lit {w w1 : World} {k : Int} (hb : Below w.heap.size w w1) : GivesFp [] k w (.returned (.tuple #[.slice (some ⟨w1.heap.size, 0, none⟩) 0 0, .int .i64 k])) (w1.alloc (.cells #[] 87)) := by
  have h0 := World.ownsRow_lit (e := 87) (base := w.heap.size) (size := 16) w1 #[] 0 hb.size (by unfold maxLen; omega) rfl
  obtain ⟨A, c, he, ho⟩ := Own.of_row h0
  cases he
  exact ⟨_, _, rfl, ho, hb.alloc hb.size _⟩
set_option maxRecDepth 20000 in
set_option maxHeartbeats 1600000 in
theorem iPictureFile_any (A : Option Addr) (n c : Nat) (l : List Bl) (hl : l.length = n) (hrow : Bls l) (h16 : ∀ b ∈ l, is16 b.2) (h32 : ∀ b ∈ l, ∀ x ∈ b.1, -2147483648 ≤ x ∧ x ≤ 2147483647) (hn : n ≤ 1048576) (w : World) (hR : Rd w w.heap.size 18 A n (bcs l)) :
    Calls Try.prog 10 #[.slice A n c] w (GivesFp (pfF l) (pfC l) w) := by
  have ho := fun W h => iValidPicture_any A n c l hl hrow h16 h32 hn W h
  cases hok : vpB l
  · have e1 : pfF l = [] := by rw [pfF, hok, if_neg (by simp)]
    have e2 : pfC l = 1 := by rw [pfC, hok]; rfl
    rw [e1, e2]
    rw [hok] at ho
    clear hok hrow h16 h32 hl e1 e2
    go_enter Try.func10, Try.ntmps10
    go_wp2_with (go_at_call 33; refine (ho _ (hR.more (by first | exact Nat.le_refl _ | omega))).mono ?_; rintro e w1 ⟨rfl, b1⟩)
    go_ret2
    exact GivesFp.nil b1
  · rw [hok] at ho
    have hfew := hok
    rw [vpB, Bool.and_eq_true, decide_eq_true_iff] at hfew
    have hn64 : n ≤ 64 := by have := hfew.2; omega
    have HD := Lib.hid (fun W h => pictureData_any A n c l hl hrow h16 hn W h)
    by_cases h8 : (picD l).length ≤ 8192
    · have e1 : pfF l = packOf 2 n (picD l) := by rw [pfF, if_pos ⟨hok, h8⟩, hl]
      have e2 : pfC l = 0 := by rw [pfC, hok, if_pos rfl, if_pos h8]
      rw [e1, e2]
      clear hok hfew hrow h16 h32 hl e1 e2
      generalize picD l = D at *
      have h8I : (D.length : Int) ≤ 8192 := by omega
      go_enter Try.func10, Try.ntmps10
      go_wp2_with (first
        | (go_at_call 33; refine (ho _ (hR.more (by first | exact Nat.le_refl _ | omega))).mono ?_; rintro e w1 ⟨rfl, b1⟩)
        | (go_at_call 48; refine (HD.out _ ((hR.below b1 (Nat.le_refl _)).more b1.size)).mono ?_; rintro e w2 ⟨g2, c2, rfl, hO, b2⟩; have HO := Lib.hid hO; have B2 := Lib.hid (b1.trans (b2.mono b1.size)); clear hO b2)
        | (go_at_call 49; refine (packFrames_any g2 0 D.length c2 2 n (by omega) (by omega) (by omega) (by omega) D rfl h8 HO.out.len HO.out.capY _ HO.out.rd).mono ?_; rintro e w3 ⟨A3, c3, rfl, hO3, b3⟩; have HO3 := Lib.hid hO3; have B3 := Lib.hid (B2.out.trans (b3.mono B2.out.size)); clear hO3 b3))
      go_ret2
      exact ⟨A3, c3, rfl, HO3.out.less B2.out.size, B3.out⟩
    · have e1 : pfF l = [] := by rw [pfF, if_neg (fun h => h8 h.2)]
      have e2 : pfC l = 3 := by rw [pfC, hok, if_pos rfl, if_neg h8]
      rw [e1, e2]
      clear hok hfew hrow h16 h32 hl e1 e2
      generalize picD l = D at *
      have h8I : (8192 : Int) < (D.length : Int) := by omega
      go_enter Try.func10, Try.ntmps10
      go_wp2_with (first
        | (go_at_call 33; refine (ho _ (hR.more (by first | exact Nat.le_refl _ | omega))).mono ?_; rintro e w1 ⟨rfl, b1⟩)
        | (go_at_call 48; refine (HD.out _ ((hR.below b1 (Nat.le_refl _)).more b1.size)).mono ?_; rintro e w2 ⟨g2, c2, rfl, hO, b2⟩; have B2 := Lib.hid (b1.trans (b2.mono b1.size)); clear hO b2))
      go_ret2
      exact GivesFp.nil B2.out
end Go.Proofs.Ytmagaapdijapiaa
namespace Go.Proofs.Ytmagaapdijapiaa
open Go.ChangeShapes Go.WideShapes Go.ChangeAt Go.RowKit
theorem four_news (W : World) (n : Int) : ∀ j u, ((four n).map (Value.int .u8))[j]? = some u → (W.alloc (.cells (ivs .u8 (four n)) 5)).cell? ((⟨W.heap.size, 0, none⟩ : Addr).add j) = some u := Blk.news (k := .u8) (l := four n) (t := 5) (Blk.newAt rfl rfl)
set_option maxRecDepth 20000 in
set_option maxHeartbeats 6400000 in
theorem sPictureFile_any (A : Option Addr) (n c : Nat) (l : List Bl) (hl : l.length = n) (hrow : Bls l) (h16 : ∀ b ∈ l, is16 b.2) (h32 : ∀ b ∈ l, ∀ x ∈ b.1, -2147483648 ≤ x ∧ x ≤ 2147483647) (hn : n ≤ 1048576) (w : World) (hR : Rd w w.heap.size 18 A n (bcs l)) :
    Calls Try.prog 8 #[.slice A n c] w (GivesFp (pfF l) (pfC l) w) := by
  obtain ⟨i0, hi, iz0, iz1, iz2⟩ := info_parts Byte_info
  have ho := fun W h => l07Ok_any A n c l hl hrow h16 h32 hn W h
  cases hok : vpB l
  · have e1 : pfF l = [] := by rw [pfF, hok, if_neg (by simp)]
    have e2 : pfC l = 1 := by rw [pfC, hok]; rfl
    rw [e1, e2]
    rw [hok] at ho
    clear hok hrow h16 h32 hl e1 e2
    go_enter Try.func8, Try.ntmps8
    go_wp2_with (go_at_call 43; refine (ho _ (hR.more (by first | exact Nat.le_refl _ | omega))).mono ?_; rintro e w1 ⟨rfl, b1⟩)
    go_ret2
    exact GivesFp.lit b1
  · rw [hok] at ho
    have hfew := hok
    rw [vpB, Bool.and_eq_true, decide_eq_true_iff] at hfew
    have hn64 : n ≤ 64 := by have := hfew.2; omega
    have HO := Lib.hid ho
    have HR := Lib.hid hR
    have HROW := Lib.hid hrow
    have H16 := Lib.hid h16
    have HL := Lib.hid hl
    have HOK := Lib.hid hok
    clear ho hR hrow h16 h32 hl hok hfew
    go_enter Try.func8, Try.ntmps8
    go_wp2_with (go_at_call 43; refine (HO.out _ HR.out).mono ?_; rintro e w1 ⟨rfl, b1⟩; have B1 := Lib.hid b1; clear b1)
    have h0 : (w1.alloc (.cells #[] 5)).ownsRow w.heap.size 5 1 (.slice (some ⟨w1.heap.size, 0, none⟩) 0 0) 0 ((picD (l.take 0)).map (.int .u8)) := World.ownsRow_lit (e := 5) (base := w.heap.size) (size := 1) w1 #[] 0 B1.out.size (by unfold maxLen; omega) rfl
    have H0 := Lib.hid h0
    clear h0
    go_loopw [4, 5] (fun v i wr => ∃ (k : Nat) (D : List Int) (g cc : Nat), k ≤ n ∧ i = .int .i64 k ∧ v = .slice (some ⟨g, 0, none⟩) D.length cc ∧ Hid (D = picD (l.take k)) ∧ Hid (wr.ownsRow w.heap.size 5 1 (.slice (some ⟨g, 0, none⟩) D.length cc) D.length (D.map (.int .u8))) ∧ Hid (Below w.heap.size w wr)) (fun _ i _ => n - (intOf i).toNat)
    case atStart => exact ⟨0, [], _, _, Nat.zero_le _, rfl, rfl, Lib.hid rfl, H0, Lib.hid (B1.out.alloc B1.out.size _)⟩
    case round =>
      clear H0
      obtain ⟨k, D, g, cc, hk, rfl, rfl, HD, HOW, HB⟩ := hrel
      have hDl : D.length ≤ 277872640 := by
        have h1 := picD_le (l.take k)
        rw [← HD.out, List.length_take] at h1
        omega
      by_cases hlt : k < n
      · have hkl : k < l.length := by have := HL.out; omega
        have hkI : (k : Int) < n := by omega
        have hk0 : (0 : Int) ≤ k := by omega
        obtain ⟨b, o, rfl, hbB, hc⟩ := HR.out.at_ (by omega)
        have hco := fun (W : World) (hb : Below w.heap.size w W) => rd_cornerY (HR.out.below hb (Nat.le_refl _)) HROW.out HL.out hkl
        have hF1 := HROW.out.at_ hkl
        have hF16 := H16.out _ (List.getElem_mem hkl)
        have hsn := picD_snoc hkl
        rw [← HD.out] at hsn
        obtain ⟨F, hF⟩ : ∃ F, F = l[k] := ⟨_, rfl⟩
        rw [← hF] at hco hF1 hF16 hsn
        obtain ⟨C, M⟩ := F
        obtain ⟨X, Y, rfl⟩ : ∃ X Y, C = [X, Y] := ⟨_, _, two_of hF1.1⟩
        have hbd : blkD ([X, Y], M) = four (X % 4294967296) ++ four (Y % 4294967296) ++ [((pmL M).length : Int) % 256] ++ pmL M := rfl
        rw [hbd] at hsn
        have HCO : Hid (∀ (W : World), Below w.heap.size w W → W.cell? ⟨b, o + k * 18, none⟩ = some (.int .i32 X) ∧ W.cell? ⟨b, o + k * 18 + 1, none⟩ = some (.int .i32 Y) ∧ W.rangeAt b (o + k * 18 + 2) (M.map (.int .u16))) := Lib.hid hco
        have HSN := Lib.hid hsn
        have HF1 := Lib.hid hF1
        have hpl := pmL_length M
        have HPM := Lib.hid (fun W => sPackMask_any M hF1.2 hF16 W)
        have hzw := HB.out.size
        obtain ⟨d0, _, _⟩ := HCO.out wr HB.out
        have HN5 := Lib.hid (four_news wr (X % 4294967296))
        clear hc hbB hco hF1 hF16 hF hsn hbd HD
        generalize pmL M = PL at *
        go_wp2_with (first
          | (go_at_call_of 44 X; refine (l09Four_any (X % 4294967296) _).mono ?_; rintro e w5 ⟨rfl, rfl⟩)
          | (go_at_call_of 44 Y; refine (l09Four_any (Y % 4294967296) _).mono ?_; rintro e w5 ⟨rfl, rfl⟩)
          | (at_builtin; refine wpList_append_own _ rfl _ _ 40 rfl w.heap.size 5 i0 _ 1 1 Try.underlying40 hi iz0 iz1 iz2 rfl (by decide) (.slice (some ⟨g, 0, none⟩) D.length cc) D.length _ rfl (HOW.out.alloc _) ⟨wr.heap.size, 0, none⟩ 4 4 ((four (X % 4294967296)).map (.int .u8)) rfl rfl HN5.out ints_one (by unfold maxLen; omega) (by omega) (by rw [size_alloc]; omega) ?_; intro v6 w6 hown6 hgrow6 _; rw [← List.map_append] at hown6; obtain ⟨g6, c6, rfl⟩ := own_someY hown6 (by omega); have O6 := Lib.hid hown6; have B6 := Lib.hid ((HB.out.alloc HB.out.size _).grown hgrow6 (by rw [size_alloc]; omega) (fun j e => (HOW.out.lt j e).1)); clear hown6 hgrow6; obtain ⟨_, d1, _⟩ := HCO.out w6 B6.out; have HN6 := Lib.hid (four_news w6 (Y % 4294967296)))
          | (at_builtin; refine wpList_append_own _ rfl _ _ 40 rfl w.heap.size 5 i0 _ 1 1 Try.underlying40 hi iz0 iz1 iz2 rfl (by decide) (.slice (some ⟨g6, 0, none⟩) (D.length + 4) c6) (D.length + 4) _ rfl (O6.out.alloc _) ⟨w6.heap.size, 0, none⟩ 4 4 ((four (Y % 4294967296)).map (.int .u8)) rfl rfl HN6.out ints_one (by unfold maxLen; omega) (by omega) (by have := B6.out.size; rw [size_alloc]; omega) ?_; intro v7 w7 hown7 hgrow7 _; rw [← List.map_append] at hown7; obtain ⟨g7, c7, rfl⟩ := own_someY hown7 (by omega); have O7 := Lib.hid hown7; have B7 := Lib.hid ((B6.out.alloc B6.out.size _).grown hgrow7 (by have := B6.out.size; rw [size_alloc]; omega) (fun j e => (O6.out.lt j e).1)); clear hown7 hgrow7; have RM := Lib.hid (HCO.out w7 B7.out).2.2)
          | refine wpList_load_ivs rfl _ _ rfl b (o + k * 18 + 2) rfl .u16 M _ RM.out Try.underlying76 rfl (by rw [HF1.out.2]; exact size76) ?_
          | (go_at_call 45; refine (HPM.out _).mono ?_; rintro e w8 ⟨g8, c8, rfl, hO8, h8⟩; have O8 := Lib.hid (own_below O7.out h8 (Nat.le_refl _)); have P8 := Lib.hid hO8; have B8 := Lib.hid (B7.out.trans (h8.mono B7.out.size)); have z8 := h8.size; have z7 := B7.out.size; have q7 := (O7.out.lt g7 rfl).2; clear hO8 h8; have HN8 := Lib.hid (Blk.news (k := .u8) (l := [(PL.length : Int) % 256]) (t := 5) (w := w8.alloc (.cells #[.int .u8 ((PL.length : Int) % 256)] 5)) (g := w8.heap.size) (Blk.newAt rfl rfl)))
          | (at_builtin; refine wpList_append_own _ rfl _ _ 40 rfl w.heap.size 5 i0 _ 1 1 Try.underlying40 hi iz0 iz1 iz2 rfl (by decide) (.slice (some ⟨g7, 0, none⟩) (D.length + 4 + 4) c7) (D.length + 4 + 4) _ rfl (O8.out.alloc _) ⟨w8.heap.size, 0, none⟩ 1 1 ([(PL.length : Int) % 256].map (.int .u8)) rfl rfl HN8.out ints_one (by unfold maxLen; omega) (by omega) (by rw [size_alloc]; omega) ?_; intro v9 w9 hown9 hgrow9 _; rw [← List.map_append] at hown9; obtain ⟨g9, c9, rfl⟩ := own_someY hown9 (by omega); have O9 := Lib.hid hown9; have P9 := Lib.hid ((P8.out.below ((Below.refl w8.heap.size w8).alloc (Nat.le_refl _) (.cells #[.int .u8 ((PL.length : Int) % 256)] 5)) (Nat.le_refl _)).grown hgrow9 (fun j e => by have e2 : g7 = j := Option.some.inj e; exact .inl (by omega))); have B9 := Lib.hid ((B8.out.alloc B8.out.size (.cells #[.int .u8 ((PL.length : Int) % 256)] 5)).grown hgrow9 (by rw [size_alloc]; omega) (fun j e => (O8.out.lt j e).1)); clear hown9 hgrow9)
          | (at_builtin; refine wpList_append_own _ rfl _ _ 40 rfl w.heap.size 5 i0 _ 1 1 Try.underlying40 hi iz0 iz1 iz2 rfl (by decide) (.slice (some ⟨g9, 0, none⟩) (D.length + 4 + 4 + 1) c9) (D.length + 4 + 4 + 1) _ rfl O9.out ⟨g8, 0, none⟩ PL.length c8 (PL.map (.int .u8)) rfl (by rw [List.length_map, Nat.mul_one]) P9.out.newsY ints_one (by unfold maxLen; omega) (by omega) (by have := B9.out.size; omega) ?_; intro v10 w10 hown10 hgrow10 _; rw [← List.map_append] at hown10; have O10 := Lib.hid hown10; have B10 := Lib.hid (B9.out.grown hgrow10 B9.out.size (fun j e => (O9.out.lt j e).1)); clear hown10 hgrow10))
        obtain ⟨g10, c10, rfl⟩ := own_someY O10.out (by omega)
        have hfin : (D ++ four (X % 4294967296) ++ four (Y % 4294967296) ++ [(PL.length : Int) % 256]) ++ PL = D ++ (four (X % 4294967296) ++ four (Y % 4294967296) ++ [(PL.length : Int) % 256] ++ PL) := by simp only [List.append_assoc]
        have hlen : (D ++ (four (X % 4294967296) ++ four (Y % 4294967296) ++ [(PL.length : Int) % 256] ++ PL)).length = D.length + 4 + 4 + 1 + PL.length := by rw [← hfin, List.length_append, List.length_append, List.length_append, List.length_append]; rfl
        exact ⟨⟨k + 1, _, g10, c10, by omega, by go_num, by rw [hlen], Lib.hid HSN.out.symm, Lib.hid (by rw [hlen, ← hfin]; exact O10.out), B10⟩, by simp [intOf]; omega⟩
      · obtain rfl : k = n := by omega
        have hE : picD l = D := by rw [HD.out, List.take_of_length_le (by have := HL.out; omega)]
        obtain ⟨A1, c1', hve, hO⟩ := Own.of_row HOW.out
        cases hve
        have HOO := Lib.hid hO
        clear hO HOW
        by_cases h8 : D.length ≤ 8192
        · have e1 : pfF l = packOf 2 k D := by rw [pfF, hE, if_pos ⟨HOK.out, h8⟩, HL.out]
          have e2 : pfC l = 0 := by rw [pfC, HOK.out, if_pos rfl, hE, if_pos h8]
          have E1 := Lib.hid e1
          have E2 := Lib.hid e2
          have h8I : (D.length : Int) ≤ 8192 := by omega
          clear e1 e2 hE HD
          go_wp2_with (first
            | (go_at_call 46; refine (l09Pack_any g 0 D.length cc 2 k (by omega) (by omega) (by omega) (by omega) D rfl h8 _ HOO.out.rd).mono ?_; rintro e w3 ⟨A3, c3, rfl, hO3, b3⟩; have HO3 := Lib.hid hO3; have B3 := Lib.hid (HB.out.trans (b3.mono HB.out.size)); clear hO3 b3))
          go_ret2
          exact ⟨A3, c3, by rw [E1.out, E2.out]; rfl, by rw [E1.out]; exact HO3.out.less HB.out.size, B3.out⟩
        · have e1 : pfF l = [] := by rw [pfF, if_neg (fun h => h8 (hE ▸ h.2))]
          have e2 : pfC l = 3 := by rw [pfC, HOK.out, if_pos rfl, hE, if_neg h8]
          have E1 := Lib.hid e1
          have E2 := Lib.hid e2
          have h8I : (8192 : Int) < (D.length : Int) := by omega
          clear e1 e2 hE HD
          go_wp2
          go_ret2
          rw [E1.out, E2.out]
          exact GivesFp.lit HB.out
end Go.Proofs.Ytmagaapdijapiaa
