/- The reference's reading of a file: its head, its data, two files held against each other. -/
import Derived.Test.YtmagaapdijapiaaRows
import Derived.Test.YtmagaapdijapiaaUb
import Derived.Test.YtmagaapdijapiaaLd
import Derived.Test.YtmagaapdijapiaaFrE
import Derived.Deep.QuietTactic
import Derived.BigQuiet
namespace Go.Proofs.Ytmagaapdijapiaa
open Go.ChangeShapes Go.WideShapes Go.ChangeAt Go.RowKit

theorem take_getD {F : List Int} {k : Nat} (h : k < F.length) : F.take (k + 1) = F.take k ++ [F.getD k 0] := by
  rw [List.take_succ_eq_append_getElem h, List.getD_eq_getElem?_getD, List.getElem?_eq_getElem h]
  rfl

theorem numberAt_any (F : List Int) (h255 : is255 F) (g o n c : Nat) (w : World) (hn : 4 ≤ n) (ho : o + 4 ≤ 12) (hc : ∀ j, j < 12 → w.cell? ⟨g, j, none⟩ = some (.int .u8 (F.getD j 0))) :
    Calls Try.prog 53 #[.slice (some ⟨g, o, none⟩) n c] w fun e w' => e = .returned (.int .u32 (numAt F o)) ∧ w = w' :=
  l09Number_any g o n c _ _ _ _ w hn (h255.getD o) (h255.getD (o + 1)) (h255.getD (o + 2)) (h255.getD (o + 3)) (hc _ (by omega)) (hc _ (by omega)) (hc _ (by omega)) (hc _ (by omega))

set_option maxRecDepth 20000 in
set_option maxHeartbeats 1600000 in
theorem l09Head_any (F : List Int) (hF : F.length = 16) (h255 : is255 F) (w : World) :
    Calls Try.prog 99 #[.agg (ivs .u8 F)] w fun e w' => e = .returned (.tuple #[.int .i64 (hdKind F), .int .i64 (numAt F 4), .int .i64 (numAt F 8), .bool (hdOk F)]) ∧ Below w.heap.size w w' := by
  obtain ⟨i0, hi, hz0, hz1, hz2⟩ := info_parts Byte_info
  have h1 : Blk (w.alloc (.cells (ivs .u8 F) 87)) w.heap.size 87 (ivs .u8 F) := Blk.newAt rfl rfl
  have HF := Lib.hid hF
  have H255 := Lib.hid h255
  clear hF h255
  go_enter Try.func99, Try.ntmps99
  go_wp2
  go_loopw [6, 7] (fun v i wr => ∃ k : Nat, k ≤ 12 ∧ i = .int .i64 k ∧ wr.ownsRow (w.heap.size + 1) 5 1 v k ((F.take k).map (.int .u8)) ∧ Blk wr w.heap.size 87 (ivs .u8 F) ∧ Below w.heap.size w wr ∧ w.heap.size + 1 ≤ wr.heap.size) (fun _ i _ => 12 - (intOf i).toNat)
  case atStart =>
    refine ⟨0, by omega, rfl, ?_, h1.alloc _, ((Below.refl _ _).alloc (Nat.le_refl _) _).alloc (by simp) _, by simp⟩
    have := World.ownsRow_lit (e := 5) (base := w.heap.size + 1) (size := 1) (w.alloc (.cells (ivs .u8 F) 87)) #[] 0 (by simp) (by unfold maxLen; omega) rfl
    rw [size_alloc] at this
    exact this
  case round =>
    clear h1
    obtain ⟨k, hk, rfl, hown, h1, hb, hz⟩ := hrel
    by_cases hlt : k < 12
    · have c1 := h1.getAt (i := k) (by have := HF.out; omega)
      have ht : (F.take (k + 1)).map (Value.int .u8) = (F.take k).map (.int .u8) ++ [F.getD k 0].map (.int .u8) := by
        rw [take_getD (by have := HF.out; omega), List.map_append]
      obtain ⟨x, hx⟩ : ∃ x, x = F.getD k 0 := ⟨_, rfl⟩
      rw [← hx] at c1 ht
      have hcell : Blk (wr.alloc (.cells (ivs .u8 [x]) 5)) wr.heap.size 5 (ivs .u8 [x]) := Blk.newAt rfl rfl
      have Hn := Lib.hid hcell.news
      have Ht := Lib.hid ht
      have Hown := Lib.hid hown
      clear hown hcell ht hx
      go_wp2_with (at_builtin; refine wpList_append_own _ rfl (.tmp 16) (.tmp 20) 40 rfl (w.heap.size + 1) 5 i0 (.int .u8 0) 1 1 Try.underlying40 hi hz0 hz1 hz2 rfl (by decide) u6 k _ rfl (Hown.out.alloc _) ⟨wr.heap.size, 0, none⟩ 1 1 ([x].map (.int .u8)) rfl rfl Hn.out ints_one (by unfold maxLen; omega) (by omega) (by simp; omega) ?_; intro v' w1 hown' hgrow _)
      exact ⟨⟨k + 1, by omega, by go_num, by rw [Ht.out]; exact hown', (h1.alloc _).grown hgrow (fun e => by have := (Hown.out.lt _ e.symm).1; omega), (hb.alloc (by omega) _).grown hgrow (by rw [size_alloc]; omega) (fun j e => by have := (Hown.out.lt _ e).1; omega), by have := hgrow.size; rw [size_alloc] at this; omega⟩, by simp [intOf]; omega⟩
    · have : k = 12 := by omega
      subst this
      obtain ⟨g, cap, cur, rfl, hg0, hg1, hbk, hcap, hmax, hcs, hxs⟩ := own_lt hown (by omega)
      have hcc : ∀ j, j < 12 → wr.cell? ⟨g, j, none⟩ = some (.int .u8 (F.getD j 0)) := fun j hj => by
        rw [hown.cellAt j (by omega), List.getElem?_map, List.getElem?_take_of_lt hj, List.getD_eq_getElem?_getD, List.getElem?_eq_getElem (by have := HF.out; omega)]
        rfl
      have n4 := numberAt_any F H255.out g 4 (12 - 4) (cap - 4) wr (by omega) (by omega) hcc
      have n8 := numberAt_any F H255.out g 8 (12 - 8) (cap - 8) wr (by omega) (by omega) hcc
      have N4 := Lib.hid n4
      have N8 := Lib.hid n8
      have c0 := hcc 0 (by omega)
      have c1 := hcc 1 (by omega)
      have c2 := hcc 2 (by omega)
      have c3 := hcc 3 (by omega)
      obtain ⟨k2, k3⟩ := numAt_range H255.out 4
      obtain ⟨k4, k5⟩ := numAt_range H255.out 8
      obtain ⟨k0, k1⟩ := H255.out.getD 3
      have hok : hdOk F = (F.getD 0 0 == 77 && (F.getD 1 0 == 80 && F.getD 2 0 == 78)) := by
        have hl : F.length = 16 := HF.out
        match F, hl with
        | a :: b :: c :: r, _ => simp [hdOk]
      have hkd : hdKind F = F.getD 3 0 := rfl
      obtain ⟨x0, e0⟩ : ∃ x, x = F.getD 0 0 := ⟨_, rfl⟩
      obtain ⟨x1, e1⟩ : ∃ x, x = F.getD 1 0 := ⟨_, rfl⟩
      obtain ⟨x2, e2⟩ : ∃ x, x = F.getD 2 0 := ⟨_, rfl⟩
      obtain ⟨x3, e3⟩ : ∃ x, x = F.getD 3 0 := ⟨_, rfl⟩
      rw [← e0] at c0 hok
      rw [← e1] at c1 hok
      rw [← e2] at c2 hok
      rw [← e3] at c3 k0 k1 hkd
      have HOK := Lib.hid hok
      have HKD := Lib.hid hkd
      have Hmax := Lib.hid hmax
      clear n4 n8 hcc hok hkd e0 e1 e2 e3 hcs hxs hbk hmax hown h1
      have i1 : (1 : Int) < 12 := by omega
      by_cases d0 : x0 = 77
      · subst d0
        by_cases d1 : x1 = 80
        · subst d1
          have hf : hdOk F = (x2 == 78) := by rw [HOK.out]; rfl
          have HFo := Lib.hid hf
          clear hf HOK
          go_wp2_with fail
          refine (N4.out).mono ?_
          rintro e w2 ⟨rfl, rfl⟩
          go_wp2_with fail
          refine (N8.out).mono ?_
          rintro e w2 ⟨rfl, rfl⟩
          go_wp2_with fail
          go_quiet (fail)
          go_wp2
          refine bodyPost_ret (results_tmp4 rfl _ _ _) rfl ?_
          exact ⟨by rw [HKD.out, HFo.out]; rfl, below_drewN hb _⟩
        · have hf : hdOk F = false := by rw [HOK.out, beq_eq_false_iff_ne.2 d1]; simp
          have HFo := Lib.hid hf
          have hq1 : (x1 == 80) = false := beq_eq_false_iff_ne.2 d1
          clear hf HOK d1
          go_wp2_with fail
          refine (N4.out).mono ?_
          rintro e w2 ⟨rfl, rfl⟩
          go_wp2_with fail
          refine (N8.out).mono ?_
          rintro e w2 ⟨rfl, rfl⟩
          go_wp2_with fail
          go_quiet (fail)
          go_wp2
          refine bodyPost_ret (results_tmp4 rfl _ _ _) rfl ?_
          exact ⟨by rw [HKD.out, HFo.out]; rfl, below_drewN hb _⟩
      · have hf : hdOk F = false := by rw [HOK.out, beq_eq_false_iff_ne.2 d0]; simp
        have HFo := Lib.hid hf
        have hq0 : (x0 == 77) = false := beq_eq_false_iff_ne.2 d0
        clear hf HOK d0
        go_wp2_with fail
        refine (N4.out).mono ?_
        rintro e w2 ⟨rfl, rfl⟩
        go_wp2_with fail
        refine (N8.out).mono ?_
        rintro e w2 ⟨rfl, rfl⟩
        go_wp2_with fail
        go_quiet (fail)
        go_wp2
        refine bodyPost_ret (results_tmp4 rfl _ _ _) rfl ?_
        exact ⟨by rw [HKD.out, HFo.out]; rfl, below_drewN hb _⟩

def dataOf (l : List (List Int)) : List Int := (l.drop 1).flatMap (List.take 12)
theorem dataOf_length {l : List (List Int)} (h : Rows_ 16 l) : (dataOf l).length = (l.length - 1) * 12 := by
  unfold dataOf
  have h2 : Rows_ 16 (l.drop 1) := fun f hf => h f (List.mem_of_mem_drop hf)
  have : ∀ m : List (List Int), Rows_ 16 m → (m.flatMap (List.take 12)).length = m.length * 12 := fun m hm => by
    induction m with
    | nil => rfl
    | cons f m ih =>
      rw [List.flatMap_cons, List.length_append, ih (fun g hg => hm g (List.mem_cons_of_mem _ hg)), List.length_take, hm f (List.mem_cons_self ..), List.length_cons]
      omega
  rw [this _ h2, List.length_drop]
theorem dataOf_succ {l : List (List Int)} {k : Nat} (h0 : 1 ≤ k) (h : k < l.length) : dataOf (l.take (k + 1)) = dataOf (l.take k) ++ (l[k]).take 12 := by
  unfold dataOf
  rw [List.take_succ_eq_append_getElem h, List.drop_append_of_le_length (by rw [List.length_take]; omega), List.flatMap_append, List.flatMap_cons, List.flatMap_nil, List.append_nil]
theorem dataOf_255 {l : List (List Int)} (h : ∀ f ∈ l, is255 f) : is255 (dataOf l) := fun x hx => by
  obtain ⟨f, hf, hx⟩ := List.mem_flatMap.1 hx
  exact h f (List.mem_of_mem_drop hf) x (List.mem_of_mem_take hx)

def GivesB (out : List Int) (w : World) (e : Ending) (w' : World) : Prop :=
  ∃ g c, e = .returned (.slice (some ⟨g, 0, none⟩) out.length c) ∧ Own w' w.heap.size w'.heap.size 5 1 (some ⟨g, 0, none⟩) out.length c (out.map (.int .u8)) ∧ Below w.heap.size w w'

set_option maxRecDepth 20000 in
set_option maxHeartbeats 3200000 in
theorem l09Data_any (A : Option Addr) (n c : Nat) (l : List (List Int)) (hl : l.length = n) (hrow : Rows_ 16 l) (h1 : 1 ≤ n) (hn : n ≤ 1048576) (w : World) (hR : Rd w w.heap.size 16 A n (l.flatten.map (.int .u8))) :
    Calls Try.prog 100 #[.slice A n c] w (GivesB (dataOf l) w) := by
  obtain ⟨i0, hi, hz0, hz1, hz2⟩ := info_parts Byte_info
  have Hl := Lib.hid hl
  have Hrow := Lib.hid hrow
  have HR := Lib.hid hR
  clear hl hrow hR
  go_enter Try.func100, Try.ntmps100
  go_wp2
  go_loopw [3, 4, 5] (fun v i _ wr => ∃ k g cp : Nat, 1 ≤ k ∧ k ≤ n ∧ i = .int .i64 k ∧ v = .slice (some ⟨g, 0, none⟩) ((k - 1) * 12) cp ∧ Own wr w.heap.size wr.heap.size 5 1 (some ⟨g, 0, none⟩) ((k - 1) * 12) cp ((dataOf (l.take k)).map (.int .u8)) ∧ Below w.heap.size w wr) (fun _ i _ _ => n - (intOf i).toNat)
  case atStart =>
    refine ⟨1, w.heap.size, 0, by omega, h1, rfl, rfl, ?_, (Below.refl _ _).alloc (Nat.le_refl _) _⟩
    have e1 : dataOf (l.take 1) = [] := by
      unfold dataOf
      rw [List.drop_eq_nil_of_le (by rw [List.length_take]; omega)]
      rfl
    rw [e1]
    exact ⟨rfl, .inr ⟨w.heap.size, #[], rfl, Nat.le_refl _, by rw [size_alloc]; omega, Blk.newAt rfl rfl, Nat.le_refl _, by unfold maxLen; omega, rfl, rfl⟩⟩
  case round =>
    obtain ⟨k, g, cp, hk1, hk, rfl, rfl, hown, hb⟩ := hrel
    by_cases hlt : k < n
    · obtain ⟨wo, rfl⟩ : ∃ wo : World, wo = wr := ⟨_, rfl⟩
      have b1 : (k : Int) < (n : Int) := by omega
      have hkl : k < l.length := by rw [Hl.out]; exact hlt
      have hds := dataOf_succ hk1 hkl
      have hFl : (l[k]).length = 16 := Hrow.out.at_ _
      obtain ⟨D, hD⟩ : ∃ D, D = dataOf (l.take k) := ⟨_, rfl⟩
      obtain ⟨F, hF⟩ : ∃ F, F = l[k] := ⟨_, rfl⟩
      rw [← hD] at hds hown
      rw [← hF] at hds hFl
      have Hds := Lib.hid hds
      have HFl := Lib.hid hFl
      have HF := Lib.hid hF
      clear hds hFl hF hD
      have hown2 : Own wo w.heap.size wo.heap.size 5 1 (some ⟨g, 0, none⟩) ((k - 1) * 12 + 0) cp ((D ++ F.take 0).map (.int .u8)) := by simpa using hown
      go_wp2_with fail
      go_loopw [3, 5] (fun v i wq => ∃ j g cp : Nat, j ≤ 12 ∧ i = .int .i64 j ∧ v = .slice (some ⟨g, 0, none⟩) ((k - 1) * 12 + j) cp ∧ Own wq w.heap.size wq.heap.size 5 1 (some ⟨g, 0, none⟩) ((k - 1) * 12 + j) cp ((D ++ F.take j).map (.int .u8)) ∧ Below w.heap.size w wq) (fun _ i _ => 12 - (intOf i).toNat)
      case atStart => exact ⟨0, g, cp, by omega, rfl, rfl, hown2, hb⟩
      case round =>
        clear hown hown2 hb
        obtain ⟨j, g, cp, hj, rfl, rfl, hown, hb⟩ := hrel
        by_cases hlt2 : j < 12
        · obtain ⟨b, o, rfl, hbB, hc⟩ := (HR.out.below hb (Nat.le_refl _)).at_ (by omega)
          have hjl : j < F.length := by rw [HFl.out]; omega
          have c1 := hc (k * 16 + j) (.int .u8 (F[j]'hjl)) (by
            rw [List.getElem?_map, flat_get Hrow.out hkl (show j < 16 by omega)]
            simp only [Option.map_some, HF.out])
          rw [← Nat.add_assoc] at c1
          have ht : (D ++ F.take (j + 1)).map (Value.int .u8) = (D ++ F.take j).map (.int .u8) ++ [F[j]'hjl].map (.int .u8) := by
            rw [List.take_succ_eq_append_getElem hjl, ← List.append_assoc, List.map_append]
          obtain ⟨x, hx⟩ : ∃ x, x = F[j]'hjl := ⟨_, rfl⟩
          rw [← hx] at c1 ht
          have hblk : Blk (wr.alloc (.cells (ivs .u8 [x]) 5)) wr.heap.size 5 (ivs .u8 [x]) := Blk.newAt rfl rfl
          have Hn := Lib.hid hblk.news
          have Ht := Lib.hid ht
          have HO := Lib.hid hown.row
          have hz := hb.size
          clear hc hbB hblk ht hown hx hjl HF hkl
          go_wp2_with (at_builtin; refine wpList_append_own _ rfl (.tmp 17) (.tmp 24) 40 rfl w.heap.size 5 i0 _ 1 1 Try.underlying40 hi hz0 hz1 hz2 rfl (by decide) (.slice (some ⟨g, 0, none⟩) ((k - 1) * 12 + j) cp) ((k - 1) * 12 + j) _ rfl (HO.out.alloc _) ⟨wr.heap.size, 0, none⟩ 1 1 ([x].map (.int .u8)) rfl rfl Hn.out ints_one (by unfold maxLen; omega) (by omega) (by rw [size_alloc]; omega) ?_; intro v' w1 hown' hgrow _)
          obtain ⟨g2, cp2, cur2, rfl, -⟩ := own_lt hown' (by omega)
          refine ⟨⟨j + 1, g2, cp2, by omega, by go_num, by rw [← Nat.add_assoc], ?_, (hb.alloc hb.size _).grown hgrow (by rw [size_alloc]; omega) (fun j e => (HO.out.lt _ e).1)⟩, by simp [intOf]; omega⟩
          obtain ⟨A3, c3, hA3, hO3⟩ := Own.of_row hown'
          cases hA3
          rw [← Nat.add_assoc, Ht.out]
          exact hO3
        · have : j = 12 := by omega
          subst this
          go_wp2
          exact ⟨⟨k + 1, g, cp, by omega, by omega, by go_num, by rw [show (k + 1 - 1) * 12 = (k - 1) * 12 + 12 by omega], by rw [Hds.out, show (k + 1 - 1) * 12 = (k - 1) * 12 + 12 by omega]; have := HFl.out; rw [show F.take 12 = F.take 12 from rfl]; exact hown, hb⟩, by simp [intOf]; omega⟩
    · have : k = n := by omega
      subst this
      have e3 : l.take k = l := List.take_of_length_le (by rw [Hl.out]; exact Nat.le_refl _)
      have e4 : (dataOf l).length = (k - 1) * 12 := by rw [dataOf_length Hrow.out, Hl.out]
      rw [e3] at hown
      rw [← e4] at hown ⊢
      go_wp2
      go_ret
      exact ⟨g, cp, rfl, hown, hb⟩
end Go.Proofs.Ytmagaapdijapiaa
