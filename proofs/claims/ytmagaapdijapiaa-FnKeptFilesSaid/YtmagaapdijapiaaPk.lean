/- PackFrames, the reference's walk. -/
import Derived.Test.YtmagaapdijapiaaRows
import Derived.Test.YtmagaapdijapiaaFrE
import Derived.Test.YtmagaapdijapiaaFrB
import Derived.Test.YtmagaapdijapiaaSf
import Derived.Test.YtmagaapdijapiaaSb
import Derived.Test.YtmagaapdijapiaaCl
namespace Go.Proofs.Ytmagaapdijapiaa
open Go.ChangeShapes Go.WideShapes Go.ChangeAt Go.RowKit

def padLen (n : Nat) : Nat := (12 - n % 12) % 12
def headB (kind count n : Int) : List Int := [77, 80, 78, kind] ++ four count ++ four n
theorem headB_length (kind count n : Int) : (headB kind count n).length = 12 := by simp [headB, four]
def packAll (kind count : Int) (data : List Int) : List Int := headB kind count data.length ++ data ++ List.replicate (padLen data.length) 0
def packMany (n : Nat) : Nat := (n + 11) / 12 + 1
theorem packAll_length (kind count : Int) (data : List Int) : (packAll kind count data).length = packMany data.length * 12 := by
  simp only [packAll, List.length_append, headB_length, List.length_replicate, padLen, packMany]
  omega
def packTo (all : List Int) (k : Nat) : List (List Int) := (List.range k).map fun (i : Nat) => mk i ((all.drop (i * 12)).take 12)
theorem packTo_succ (all : List Int) (k : Nat) : packTo all (k + 1) = packTo all k ++ [mk k ((all.drop (k * 12)).take 12)] := by simp [packTo, List.range_succ]
theorem packTo_length (all : List Int) (k : Nat) : (packTo all k).length = k := by simp [packTo]
theorem packTo_rows {all : List Int} {k : Nat} (h : k * 12 ≤ all.length) : Rows_ 16 (packTo all k) := fun f hf => by
  obtain ⟨i, hi, rfl⟩ := List.mem_map.1 hf
  have := List.mem_range.1 hi
  exact mk_length (by simp; omega)
def packOf (kind count : Int) (data : List Int) : List (List Int) := packTo (packAll kind count data) (packMany data.length)
theorem packOf_rows (kind count : Int) (data : List Int) : Rows_ 16 (packOf kind count data) := packTo_rows (by rw [packAll_length]; exact Nat.le_refl _)

def GivesF1 (out : List (List Int)) (w : World) (e : Ending) (w' : World) : Prop :=
  ∃ A c, e = .returned (.slice A out.length c) ∧ Own w' w.heap.size w'.heap.size 87 16 A out.length c (out.flatten.map (.int .u8)) ∧ Below w.heap.size w w'

theorem pad_rows (n m : Nat) (h1 : 12 + n ≤ m) (h2 : m ≤ packMany n * 12) (h : m % 12 = 0) : m = packMany n * 12 := by
  unfold packMany at *
  omega
theorem pad_more (n m : Nat) (h2 : m ≤ packMany n * 12) (h : m % 12 ≠ 0) : m + 1 ≤ packMany n * 12 := by
  unfold packMany at *
  omega

set_option maxRecDepth 20000 in
set_option maxHeartbeats 3200000 in
theorem l09Pack_any (b o n c : Nat) (kind count : Int) (hk0 : 1 ≤ kind) (hk1 : kind ≤ 3) (hc0 : 0 ≤ count) (hc1 : count ≤ 256) (l : List Int) (hl : l.length = n) (hn : n ≤ 8192) (w : World) (hR : Rd w w.heap.size 1 (some ⟨b, o, none⟩) n (l.map (.int .u8))) :
    Calls Try.prog 46 #[.int .i64 kind, .int .i64 count, .slice (some ⟨b, o, none⟩) n c] w (GivesF1 (packOf kind count l) w) := by
  obtain ⟨i0, hi, hz0, hz1, hz2⟩ := info_parts Byte_info
  obtain ⟨j0, hy, hy0, hy1, hy2⟩ := info_parts Frame_info
  have hs12 : (Try.prog.info? 138).map (·.size) = some 12 := by kernel_rfl
  have Hl := Lib.hid hl
  have HR := Lib.hid hR
  have hown0 : (w.alloc (.cells #[.int .u8 77, .int .u8 80, .int .u8 78, .int .u8 kind] 5)).ownsRow w.heap.size 5 1 (.slice (some ⟨w.heap.size, 0, none⟩) 4 4) 4 ([77, 80, 78, kind].map (.int .u8)) := World.ownsRow_lit (e := 5) (base := w.heap.size) (size := 1) w #[.int .u8 77, .int .u8 80, .int .u8 78, .int .u8 kind] 4 (Nat.le_refl _) (by unfold maxLen; omega) rfl
  have HO0 := Lib.hid hown0
  have bA : Below w.heap.size w ((w.alloc (.cells #[.int .u8 77, .int .u8 80, .int .u8 78, .int .u8 kind] 5)).alloc (.cells (ivs .u8 (four count)) 5)) := ((Below.refl _ _).alloc (Nat.le_refl _) _).alloc (by rw [size_alloc]; omega) _
  have hblk : Blk ((w.alloc (.cells #[.int .u8 77, .int .u8 80, .int .u8 78, .int .u8 kind] 5)).alloc (.cells (ivs .u8 (four count)) 5)) (w.heap.size + 1) 5 (ivs .u8 (four count)) := Blk.newAt (by simp) rfl
  have Hn := Lib.hid hblk.news
  clear hl hR hown0 hblk
  go_enter Try.func46, Try.ntmps46
  go_wp2_with fail
  refine (l09Four_any _ _).mono ?_
  rintro e w1 ⟨rfl, rfl⟩
  go_wp2_with (at_builtin; refine wpList_append_own _ rfl (.tmp 14) (.tmp 17) 40 rfl w.heap.size 5 i0 _ 1 1 Try.underlying40 hi hz0 hz1 hz2 rfl (by decide) _ 4 _ rfl (HO0.out.alloc _) ⟨w.heap.size + 1, 0, none⟩ 4 4 ((four count).map (.int .u8)) (by first | rfl | (simp; done)) rfl Hn.out ints_one (by unfold maxLen; omega) (by omega) (by simp; omega) ?_; intro v1 w1 hown1 hgrow1 _)
  have B1 : Below w.heap.size w w1 := bA.grown hgrow1 (by simp; omega) (fun j e => by cases e; exact Nat.le_refl _)
  clear HO0 hgrow1 Hn bA
  refine (l09Four_any _ _).mono ?_
  rintro e w2 ⟨rfl, rfl⟩
  have hblk : Blk (w1.alloc (.cells (ivs .u8 (four (n : Nat))) 5)) w1.heap.size 5 (ivs .u8 (four (n : Nat))) := Blk.newAt rfl rfl
  have Hn := Lib.hid hblk.news
  have HO1 := Lib.hid hown1
  clear hblk hown1
  have z1 := B1.size
  go_wp2_with (first
    | (at_builtin; refine wpList_append_own _ rfl (.tmp 19) (.tmp 23) 40 rfl w.heap.size 5 i0 _ 1 1 Try.underlying40 hi hz0 hz1 hz2 rfl (by decide) v1 (4 + 4) _ rfl (HO1.out.alloc _) ⟨w1.heap.size, 0, none⟩ 4 4 ((four (n : Nat)).map (.int .u8)) rfl rfl Hn.out ints_one (by unfold maxLen; omega) (by omega) (by simp; omega) ?_; intro v2 w2 hown2 hgrow2 _; have B2 := (B1.alloc z1 (.cells (ivs .u8 (four (n : Nat))) 5)).grown hgrow2 (by rw [size_alloc]; omega) (fun j e => (HO1.out.lt _ e).1); have hR2 := (HR.out.below B2 (Nat.le_refl _)).news; have z2 := B2.size)
    | (at_builtin; refine wpList_append_own _ rfl (.tmp 24) (.tmp 25) 40 rfl w.heap.size 5 i0 _ 1 1 Try.underlying40 hi hz0 hz1 hz2 rfl (by decide) v2 (4 + 4 + 4) _ rfl hown2 ⟨b, o, none⟩ n c (l.map (.int .u8)) rfl (by rw [List.length_map, Hl.out, Nat.mul_one]) hR2 ints_one (by unfold maxLen; omega) (by omega) z2 ?_; intro v3 w3 hown3 hgrow3 _; have B3 := B2.grown hgrow3 z2 (fun j e => (hown2.lt _ e).1)))
  clear hgrow2 hgrow3 hown2 hR2 HO1 Hn B1 B2 z1 z2
  have hcat : [77, 80, 78, kind].map (Value.int .u8) ++ (four count).map (.int .u8) ++ (four (n : Nat)).map (.int .u8) ++ l.map (.int .u8) = (headB kind count (n : Nat) ++ l ++ List.replicate 0 0).map (.int .u8) := by
    simp [headB]
  rw [hcat] at hown3
  have e12 : 4 + 4 + 4 + n = 12 + n := by omega
  rw [e12] at hown3
  obtain ⟨A3, c3, rfl, hO3⟩ := Own.of_row hown3
  clear hown3 hcat e12
  go_loopw [7] (fun v wr => ∃ (A : Option Addr) (m cc : Nat), v = .slice A m cc ∧ 12 + n ≤ m ∧ m ≤ packMany n * 12 ∧ Own wr w.heap.size wr.heap.size 5 1 A m cc ((headB kind count (n : Nat) ++ l ++ List.replicate (m - (12 + n)) 0).map (.int .u8)) ∧ Below w.heap.size w wr) (fun v _ => match v with | .slice _ m _ => packMany n * 12 - m | _ => 0)
  case atStart =>
    exact ⟨A3, 12 + n, c3, rfl, Nat.le_refl _, by unfold packMany; omega, by rw [Nat.sub_self]; exact hO3, B3⟩
  case round =>
    clear hO3 B3
    obtain ⟨A, m, cc, rfl, h1, h2, hO, hB⟩ := hrel
    have hmm : packMany n * 12 ≤ 9000 := by unfold packMany; omega
    by_cases hm : m % 12 = 0
    · have hpm := pad_rows n m h1 h2 hm
      have hmi : (m : Int) % 12 = 0 := by omega
      have hL : (headB kind count (n : Nat) ++ l ++ List.replicate (m - (12 + n)) (0 : Int)) = packAll kind count l := by
        rw [packAll, Hl.out]
        congr 2
        rw [hpm]
        unfold packMany padLen
        omega
      rw [hL] at hO
      have hLl : (packAll kind count l).length = m := by rw [packAll_length, Hl.out, hpm]
      obtain ⟨L, hLe⟩ : ∃ L, L = packAll kind count l := ⟨_, rfl⟩
      have hfin : packOf kind count l = packTo L (packMany n) := by rw [packOf, hLe, Hl.out]
      rw [← hLe] at hO hLl
      have HLl := Lib.hid hLl
      have Hpm := Lib.hid hpm
      obtain ⟨M, hM⟩ : ∃ M, M = packMany n := ⟨_, rfl⟩
      rw [← hM] at Hpm hmm h2 hfin
      have HFin := Lib.hid hfin
      have hM2 : M ≤ 750 := by omega
      have HOp := Lib.hid hO
      have hz := hB.size
      clear hL hLl hLe hfin hpm hO hM h1 h2 hmm
      obtain ⟨wp, rfl⟩ : ∃ wp : World, wp = wr := ⟨_, rfl⟩
      go_wp2
      go_loopw [8, 9, 10, 11] (fun v i _ _ wr => ∃ k : Nat, k ≤ M ∧ i = .int .i64 ((12 * k : Nat) : Int) ∧ wr.ownsRow wp.heap.size 87 16 v k ((packTo L k).flatten.map (.int .u8)) ∧ Below wp.heap.size wp wr) (fun _ i _ _ _ => M * 12 + 12 - (intOf i).toNat)
      case atStart =>
        refine ⟨0, by omega, rfl, ?_, (Below.refl _ _).alloc (Nat.le_refl _) _⟩
        exact World.ownsRow_lit (e := 87) (base := wp.heap.size) (size := 16) wp #[] 0 (Nat.le_refl _) (by unfold maxLen; omega) rfl
      case round =>
        obtain ⟨k, hk, rfl, hown, hb⟩ := hrel
        by_cases hlt : k < M
        · clear HFin
          obtain ⟨wo, rfl⟩ : ∃ wo : World, wo = wr := ⟨_, rfl⟩
          have hz4 := hb.size
          have pm := Hpm.out
          have b2 : 12 * (k : Int) < (m : Int) := by omega
          have b3 : 12 * (k : Int) + 12 ≤ (m : Int) := by omega
          have HOw := Lib.hid hown
          clear pm
          have r1 : Blk (wo.alloc (.cells #[.int .u8 0, .int .u8 0, .int .u8 0, .int .u8 0, .int .u8 0, .int .u8 0, .int .u8 0, .int .u8 0, .int .u8 0, .int .u8 0, .int .u8 0, .int .u8 0] 138)) wo.heap.size 138 (ivs .u8 (List.replicate 12 0)) := Blk.newAt rfl rfl
          clear hown
          go_wp2_with (refine wpList_store_row rfl _ _ _ rfl wo.heap.size (ivs .u8 (List.replicate 12 0)) rfl rfl 138 _ r1 (by rw [ivs_size]; exact hs12) (by simp [ivs_size]) ivs_one ?_)
          have hFl : ((L.drop (k * 12)).take 12).length = 12 := by have := HLl.out; have := Hpm.out; simp; omega
          obtain ⟨F, hF⟩ : ∃ F, F = (L.drop (k * 12)).take 12 := ⟨_, rfl⟩
          rw [← hF] at hFl
          have hFat : ∀ j (h : j < 12), L[12 * k + j]? = some (F[j]'(by omega)) := fun j h => by
            rw [← List.getElem?_eq_getElem, hF, List.getElem?_take_of_lt h, List.getElem?_drop, Nat.mul_comm]
          have HF := Lib.hid hF
          have HFl := Lib.hid hFl
          have HFat := Lib.hid hFat
          have s1 : Blk ((wo.alloc (.cells #[.int .u8 0, .int .u8 0, .int .u8 0, .int .u8 0, .int .u8 0, .int .u8 0, .int .u8 0, .int .u8 0, .int .u8 0, .int .u8 0, .int .u8 0, .int .u8 0] 138)).setRow wo.heap.size (ivs .u8 (List.replicate 12 0))) wo.heap.size 138 (ivs .u8 (F.take 0 ++ List.replicate (12 - 0) 0)) := r1.row _
          have s2 : Below wo.heap.size wo ((wo.alloc (.cells #[.int .u8 0, .int .u8 0, .int .u8 0, .int .u8 0, .int .u8 0, .int .u8 0, .int .u8 0, .int .u8 0, .int .u8 0, .int .u8 0, .int .u8 0, .int .u8 0] 138)).setRow wo.heap.size (ivs .u8 (List.replicate 12 0))) := below_setRow ((Below.refl _ _).alloc (Nat.le_refl _) _) (Nat.le_refl _) _
          clear hF hFat r1
          go_loopw [11] (fun i wq => ∃ j : Nat, j ≤ 12 ∧ i = .int .i64 j ∧ Blk wq wo.heap.size 138 (ivs .u8 (F.take j ++ List.replicate (12 - j) 0)) ∧ Below wo.heap.size wo wq) (fun i _ => 12 - (intOf i).toNat)
          case atStart => exact ⟨0, by omega, rfl, s1, s2⟩
          case round =>
            clear s1 s2
            obtain ⟨j, hj, rfl, h3, hbq⟩ := hrel
            by_cases hlt2 : j < 12
            · obtain ⟨b', o', rfl, hbB, hc⟩ := ((HOp.out.below (hb.trans (hbq.mono hz4)) (Nat.le_refl _)).rd).at_ (by omega)
              have c1 := hc (12 * k + j) (.int .u8 (F[j]'(by rw [HFl.out]; exact hlt2))) (by rw [List.getElem?_map, HFat.out j hlt2]; rfl)
              obtain ⟨u3, c3⟩ := h3.some_ (i := j) (by have := HFl.out; simp; omega)
              have f3 := h3.frozen j
              have HbB := Lib.hid hbB
              have b5 : 12 * (k : Int) + (j : Int) < (m : Int) := by omega
              clear hc hbB
              go_wp2
              exact ⟨⟨j + 1, by omega, by go_num, by rw [← fill_step HFl.out hlt2]; exact h3.setI _ _, hbq.setCell (Nat.le_refl _) _⟩, by simp [intOf]; omega⟩
            · have : j = 12 := by omega
              subst this
              rw [fill_end HFl.out] at h3
              have hml := mk_length (n := (k : Int)) HFl.out
              have H3 := Lib.hid h3
              have Hml := Lib.hid hml
              have hq : 12 * (k : Int) / 12 = (k : Int) := by omega
              clear hml h3
              go_wp2_with (refine wpList_load_row rfl _ _ rfl wo.heap.size rfl 138 (ivs .u8 F) (0, 0) _ H3.out Try.underlying138 rfl (by rw [ivs_size, HFl.out]; exact hs12) ?_)
              refine (l09Make_any k F HFl.out _).mono ?_
              rintro e w6 ⟨rfl, hb6⟩
              have hblk : Blk (w6.alloc (.cells (ivs .u8 (mk k F)) 87)) w6.heap.size 87 (ivs .u8 (mk k F)) := Blk.newAt rfl rfl
              have Hn := Lib.hid hblk.news
              have bb := hbq.trans (hb6.mono hbq.size)
              have bb2 := hb.trans (bb.mono hz4)
              have hz6 := bb2.size
              have HO6 := Lib.hid ((own_below HOw.out bb (Nat.le_refl _)).alloc (.cells (ivs .u8 (mk k F)) 87))
              clear hblk
              go_wp2_with (first
                | refine wpList_buildSlice_row rfl 24 87 (.tmp 58) rfl (kd := .u8) (sz := 16) Try.underlying24 hy hy0 hy1 (by omega) (by omega) (mk k F) rfl Hml.out ?_
                | (at_builtin; refine wpList_append_own _ rfl (.tmp 54) (.tmp 59) 24 rfl wp.heap.size 87 j0 _ 16 16 Try.underlying24 hy hy0 hy1 hy2 rfl (by decide) _ k _ rfl HO6.out ⟨w6.heap.size, 0, none⟩ 1 1 ((mk k F).map (.int .u8)) rfl (by rw [List.length_map, Hml.out]) Hn.out ints_one (by unfold maxLen; omega) (by omega) (by rw [size_alloc]; omega) ?_; intro v' w7 hown' hgrow _))
              refine ⟨⟨k + 1, by omega, by congr 1, ?_, (bb2.alloc hz6 _).grown hgrow (by rw [size_alloc]; omega) (fun j e => (HO6.out.lt _ e).1)⟩, by simp [intOf]; omega⟩
              rw [packTo_succ, ← HF.out, ← List.map_flatten, List.flatten_append, List.flatten_cons, List.flatten_nil, List.append_nil, List.map_append]
              exact hown'
        · have : k = M := by omega
          subst this
          obtain ⟨A', c', rfl, hO⟩ := Own.of_row hown
          have b2 : (m : Int) ≤ 12 * (k : Int) := by have pm := Hpm.out; omega
          go_wp2
          go_ret
          rw [HFin.out]
          refine ⟨A', c', by rw [packTo_length]; rfl, ?_, hB.trans (hb.mono hz)⟩
          rw [packTo_length]
          exact hO.less hz
    · have hmi : (m : Int) % 12 ≠ 0 := by omega
      have hm1 := pad_more n m h2 hm
      have hrep : List.replicate (m + 1 - (12 + n)) (0 : Int) = List.replicate (m - (12 + n)) 0 ++ [0] := by
        rw [show m + 1 - (12 + n) = m - (12 + n) + 1 by omega, List.replicate_succ']
      have hblk : Blk (wr.alloc (.cells (ivs .u8 [0]) 5)) wr.heap.size 5 (ivs .u8 [0]) := Blk.newAt rfl rfl
      have Hn := Lib.hid hblk.news
      have HO := Lib.hid hO.row
      have hz := hB.size
      clear hO hblk
      go_wp2_with (at_builtin; refine wpList_append_own _ rfl (.tmp 31) (.tmp 32) 40 rfl w.heap.size 5 i0 _ 1 1 Try.underlying40 hi hz0 hz1 hz2 rfl (by decide) _ m _ rfl (HO.out.alloc _) ⟨wr.heap.size, 0, none⟩ 1 1 ([0].map (.int .u8)) rfl rfl Hn.out ints_one (by unfold maxLen; omega) (by omega) (by rw [size_alloc]; omega) ?_; intro v4 w4 hown4 hgrow4 _; obtain ⟨A4, c4, rfl, hO4⟩ := Own.of_row hown4)
      refine ⟨⟨A4, m + 1, c4, rfl, by omega, hm1, ?_, (hB.alloc hz _).grown hgrow4 (by rw [size_alloc]; omega) (fun j e => (HO.out.lt _ e).1)⟩, by simp only []; omega⟩
      rw [hrep, ← List.append_assoc, List.map_append (l₂ := [0])]
      exact hO4
end Go.Proofs.Ytmagaapdijapiaa
