/- The points of a file: plain law, the reference's walk. -/
import Derived.Test.YtigjdcfdgifonaaRows
import Derived.Test.YtigjdcfdgifonaaPx
import Derived.Test.YtigjdcfdgifonaaWl
namespace Go.Proofs.Ytigjdcfdgifonaa
open Go.ChangeShapes Go.WideShapes Go.ChangeAt Go.RowKit

/-- part i of the data, eight bytes -/
def chP (D : List Int) (i : Nat) : List Int := (D.drop (8 * i)).take 8
theorem chP_length {D : List Int} {i : Nat} (h : 8 * i + 8 ≤ D.length) : (chP D i).length = 8 := by
  rw [chP, List.length_take, List.length_drop]
  omega
theorem chP_255 {D : List Int} (h : is255 D) (i : Nat) : is255 (chP D i) := fun x hx => h x (List.mem_of_mem_drop (List.mem_of_mem_take hx))
theorem drop_255 {D : List Int} (h : is255 D) (i : Nat) : is255 (D.drop i) := fun x hx => h x (List.mem_of_mem_drop hx)
def rpN (l : List (List Int)) : Nat := (opData l).length / 8
def rpAll (D : List Int) (n : Nat) : Bool := (List.range n).all fun i => fkOk (chP D i)
def rpGood (l : List (List Int)) : Bool := (opKind l == 1) && ((((opData l).length : Int) == 8 * opCount l) && decide (opCount l ≤ 256))
def rpC (l : List (List Int)) : Int := if opCode l = 0 then (if rpGood l then (if rpAll (opData l) (rpN l) then 0 else 5) else 5) else opCode l
def pts (D : List Int) (n : Nat) : List (Nat × Nat) := (List.range n).map fun i => (pRe (chP D i), pIm (chP D i))
def cxs (l : List (Nat × Nat)) : List Value := l.map fun p => .complex .f32 p.1 p.2
def rpL (l : List (List Int)) : List (Nat × Nat) := if rpC l = 0 then pts (opData l) (rpN l) else []
theorem pts_length (D : List Int) (n : Nat) : (pts D n).length = n := by simp [pts]
theorem pts_succ (D : List Int) (n : Nat) : pts D (n + 1) = pts D n ++ [(pRe (chP D n), pIm (chP D n))] := by rw [pts, pts, List.range_succ, List.map_append]; rfl
theorem rpAll_no {D : List Int} {n k : Nat} (hk : k < n) (h : fkOk (chP D k) = false) : rpAll D n = false := by
  rw [rpAll, List.all_eq_false]
  exact ⟨k, List.mem_range.2 hk, by rw [h]; decide⟩
theorem rpAll_yes {D : List Int} {n : Nat} (h : ∀ k, k < n → fkOk (chP D k) = true) : rpAll D n = true := by
  rw [rpAll, List.all_eq_true]
  intro k hk
  exact h k (List.mem_range.1 hk)
def GivesPs (l : List (Nat × Nat)) (code : Int) (w : World) (e : Ending) (w' : World) : Prop :=
  ∃ A c, e = .returned (.tuple #[.slice A l.length c, .int .i64 code]) ∧ Own w' w.heap.size w'.heap.size 39 1 A l.length c (cxs l) ∧ Below w.heap.size w w'
theorem GivesPs.empty {w w1 : World} (code : Int) (h : Below w.heap.size w w1) : GivesPs [] code w (.returned (.tuple #[.slice (some ⟨w1.heap.size, 0, none⟩) 0 0, .int .i64 code])) (w1.alloc (.cells #[] 39)) :=
  ⟨_, 0, rfl, ⟨rfl, .inr ⟨_, #[], rfl, h.size, by rw [size_alloc]; omega, Blk.newAt rfl rfl, Nat.le_refl _, by unfold maxLen; omega, rfl, rfl⟩⟩, h.alloc h.size _⟩
theorem Cx_info : (Try.prog.info? 39).map (fun i => (i.zero, i.size, i.bytes)) = some (some (.complex .f32 0 0), 1, 8) := by kernel_rfl
theorem cxs_one' {l : List (Nat × Nat)} : ∀ v ∈ cxs l, v.oneCell' = true := fun v hv => by
  simp only [cxs, List.mem_map] at hv
  obtain ⟨s, _, rfl⟩ := hv
  rfl
theorem cx_news (w : World) (re im : Nat) : ∀ j u, (cxs [(re, im)])[j]? = some u → (w.alloc (.cells #[.complex .f32 re im] 39)).cell? ((⟨w.heap.size, 0, none⟩ : Addr).add j) = some u := fun j u hu => by
  have hj : j = 0 := by
    rcases Nat.eq_zero_or_pos j with h | h
    · exact h
    · rw [List.getElem?_eq_none (by simp [cxs]; omega)] at hu; cases hu
  subst hj
  have hb : Blk (w.alloc (.cells #[.complex .f32 re im] 39)) w.heap.size 39 #[.complex .f32 re im] := Blk.newAt rfl rfl
  rw [addr_add, Nat.add_zero, hb.cell]
  exact hu
/-- the rest of a slice -/
theorem Rd.rest {w : World} {B n b o : Nat} {xs : List Value} (h : Rd w B 1 (some ⟨b, o, none⟩) n xs) (i : Nat) (hi : i ≤ n) : Rd w B 1 (some ⟨b, o + i, none⟩) (n - i) (xs.drop i) := by
  refine ⟨by rw [List.length_drop, h.1]; omega, fun hn => ?_⟩
  obtain ⟨b', o', e, hb, hc⟩ := h.2 (by omega)
  cases e
  refine ⟨b, o + i, rfl, hb, fun j u hu => ?_⟩
  rw [List.getElem?_drop] at hu
  rw [Nat.add_assoc]
  exact hc _ _ hu
theorem rpGood_no {l : List (List Int)} (h : rpGood l = false) : ¬ opKind l = 1 ∨ (opKind l = 1 ∧ ¬ ((opData l).length : Int) = 8 * opCount l) ∨ (opKind l = 1 ∧ ((opData l).length : Int) = 8 * opCount l ∧ 256 < opCount l) := by
  unfold rpGood at h
  by_cases h1 : opKind l = 1
  · by_cases h2 : ((opData l).length : Int) = 8 * opCount l
    · by_cases h3 : opCount l ≤ 256
      · simp [h1, h2, h3] at h
      · exact .inr (.inr ⟨h1, h2, by omega⟩)
    · exact .inr (.inl ⟨h1, h2⟩)
  · exact .inl h1

set_option maxRecDepth 20000 in
set_option maxHeartbeats 6400000 in
theorem sReadPointFile_any (A : Option Addr) (n c : Nat) (l : List (List Int)) (hl : l.length = n) (hrow : Rows_ 16 l) (h255 : ∀ f ∈ l, is255 f) (hn : n ≤ 1048576) (w : World) (hR : Rd w w.heap.size 16 A n (l.flatten.map (.int .u8))) :
    Calls Try.prog 9 #[.slice A n c] w (GivesPs (rpL l) (rpC l) w) := by
  obtain ⟨i0, hi, hz0, hz1, hz2⟩ := info_parts Cx_info
  have ho := l09Open_in A n c l hl hrow h255 hn w hR
  have HOP := Lib.hid ho
  have hd255 := opData_255 h255
  have hdl := opData_length l hrow
  have hcr := opCount_range h255
  have hcode : rpC l = if opCode l = 0 then (if rpGood l then (if rpAll (opData l) (rpN l) then 0 else 5) else 5) else opCode l := rfl
  have hgno := fun h => rpGood_no (l := l) h
  have hgood : rpGood l = ((opKind l == 1) && ((((opData l).length : Int) == 8 * opCount l) && decide (opCount l ≤ 256))) := rfl
  have hlst : rpL l = if rpC l = 0 then pts (opData l) ((opData l).length / 8) else [] := rfl
  have hN : rpN l = (opData l).length / 8 := rfl
  rw [hN] at hcode
  clear ho hl hrow h255 hR hN
  generalize opCode l = C at *
  generalize opKind l = K at *
  generalize opCount l = M at *
  generalize opData l = D at *
  generalize rpGood l = G at *
  generalize rpC l = RC at *
  generalize rpL l = RL at *
  by_cases hC : C = 0
  · subst hC
    rw [if_pos rfl] at hcode
    cases G
    · rw [if_neg (by decide)] at hcode
      subst hcode
      rw [if_neg (by decide)] at hlst
      subst hlst
      have HD := Lib.hid hd255
      have hcs := hgno rfl
      have hm1 : 0 ≤ M := hcr.1
      have hm2 : M ≤ 4294967295 := hcr.2
      clear hgood hd255 hcr hgno
      rcases hcs with hk | ⟨rfl, hk⟩ | ⟨rfl, hk, hk2⟩
      all_goals
        go_enter Try.func9, Try.ntmps9
        go_wp2_with (go_at_call 42; refine HOP.out.mono ?_; rintro e w2 ⟨A2, c2, rfl, hO2, hb2⟩; have HB2 := Lib.hid hb2; clear hO2 hb2)
        go_ret2
        exact GivesPs.empty 5 HB2.out
    · rw [Bool.true_eq, Bool.and_eq_true, Bool.and_eq_true, beq_iff_eq, beq_iff_eq, decide_eq_true_eq] at hgood
      obtain ⟨rfl, hlen, h256⟩ := hgood
      rw [if_pos rfl] at hcode
      obtain ⟨N, hN⟩ : ∃ N, N = D.length / 8 := ⟨_, rfl⟩
      rw [← hN] at hcode hlst
      have HCODE := Lib.hid hcode
      have HLST := Lib.hid hlst
      have hDN : D.length = 8 * N := by omega
      have hm1 : 0 ≤ M := hcr.1
      have H255 := Lib.hid hd255
      have HDN := Lib.hid hDN
      have hN1 : N ≤ 256 := by omega
      have hDi : (D.length : Int) = 8 * (N : Int) := by omega
      have hM : M = (N : Int) := by omega
      clear hd255 hcr hlen hN hDN hcode hlst hgno hdl
      subst hM
      go_enter Try.func9, Try.ntmps9
      go_wp2_with (go_at_call 42; refine HOP.out.mono ?_; rintro e w2 ⟨A2, c2, rfl, hO2, hb2⟩; have HB2 := Lib.hid hb2; have HRD := Lib.hid (hO2.rd); have hc2 := hO2.len; have hc63 := hO2.cap_; clear hO2 hb2)
      have o0 : (w2.alloc (.cells #[] 39)).ownsRow w2.heap.size 39 1 (.slice (some ⟨w2.heap.size, 0, none⟩) 0 0) 0 (cxs (pts D 0)) := World.ownsRow_lit (e := 39) (base := w2.heap.size) (size := 1) w2 #[] 0 (Nat.le_refl _) (by unfold maxLen; omega) rfl
      go_loopw [8, 9, 10, 11] (fun v i _ _ wr => ∃ k : Nat, k ≤ N ∧ i = .int .i64 ((8 * k : Nat) : Int) ∧ Hid (∀ j, j < k → fkOk (chP D j) = true) ∧ (∃ g cc, v = .slice (some ⟨g, 0, none⟩) k cc) ∧ wr.ownsRow w2.heap.size 39 1 v k (cxs (pts D k)) ∧ Below w2.heap.size w2 wr) (fun _ i _ _ _ => 8 * N + 8 - (intOf i).toNat)
      case atStart => exact ⟨0, by omega, rfl, Lib.hid (fun j hj => by omega), ⟨_, _, rfl⟩, o0, (Below.refl _ _).alloc (Nat.le_refl _) _⟩
      case round =>
        clear o0
        obtain ⟨k, hk, rfl, hv, ⟨g, cc, rfl⟩, ho, hb⟩ := hrel
        have HO := Lib.hid ho
        have HBr := Lib.hid hb
        clear ho hb
        by_cases hlt : k < N
        · have hDk : 8 * k + 8 ≤ D.length := by have := HDN.out; omega
          obtain ⟨b, o, rfl, hbB, hc⟩ := (HRD.out.below HBr.out (Nat.le_refl _)).at_ (by omega)
          have hR8 := (HRD.out.below HBr.out (Nat.le_refl _)).rest (8 * k) (by omega)
          rw [← List.map_drop] at hR8
          have hsp := fun c W hW => sPoint_any (some ⟨b, o + 8 * k, none⟩) (D.length - 8 * k) c (D.drop (8 * k)) (by omega) (drop_255 H255.out _) W hW
          have HSP := Lib.hid hsp
          have HR8 := Lib.hid (hR8.more HBr.out.size)
          have hws := pts_succ D k
          have hno := fun h => rpAll_no (D := D) hlt h
          have hv2 : fkOk (chP D k) = true → Hid (∀ j, j < k + 1 → fkOk (chP D j) = true) := fun h => Lib.hid (fun j hj => by
            by_cases e : j = k
            · subst e; exact h
            · exact hv.out j (by omega))
          have hV : (D.drop (8 * k)).take 8 = chP D k := rfl
          rw [hV] at HSP
          have HWS := Lib.hid hws
          have HNO := Lib.hid hno
          have HV2 := Lib.hid hv2
          have hkD : 8 * (k : Int) < 8 * (N : Int) := by omega
          have hkc : 8 * (k : Int) ≤ c2 := by omega
          clear hc hws hno hv2 hv hsp hR8 hV
          rcases hok : fkOk (chP D k) with _ | _
          · have hall := HNO.out hok
            have e1 : RC = 5 := by rw [HCODE.out, hall]; rfl
            have e2 : RL = [] := by rw [HLST.out, e1]; rfl
            have E1 := Lib.hid e1
            have E2 := Lib.hid e2
            rw [hok] at HSP
            clear hok hall e1 e2
            go_wp2_with (go_at_call 43; refine (HSP.out _ _ HR8.out).mono ?_; rintro e w5 ⟨rfl, hb5⟩; have HB5 := Lib.hid hb5; clear hb5)
            go_ret2
            have hB5 : Below w.heap.size w w5 := (HB2.out.trans (HBr.out.mono HB2.out.size)).trans (HB5.out.mono (by have := HB2.out.size; have := HBr.out.size; omega))
            have := GivesPs.empty 5 hB5
            rw [← E1.out, ← E2.out] at this
            have e5 := E1.out
            simp only [e5] at this ⊢
            exact this
          · have hV2 := HV2.out hok
            rw [hok] at HSP
            obtain ⟨re, hre⟩ : ∃ re, re = pRe (chP D k) := ⟨_, rfl⟩
            obtain ⟨im, him⟩ : ∃ im, im = pIm (chP D k) := ⟨_, rfl⟩
            rw [← hre, ← him] at HSP HWS
            clear hok hre him
            go_wp2_with (first
              | (go_at_call 43; refine (HSP.out _ _ HR8.out).mono ?_; rintro e w5 ⟨rfl, hb5⟩; have HB5 : Hid (Below wr.heap.size wr w5) := Lib.hid hb5; have HO5 := Lib.hid (own_below HO.out HB5.out (Nat.le_refl _)); have HN5 := Lib.hid (cx_news w5 re im); clear hb5)
              | (at_builtin; refine wpList_append_own _ rfl _ _ 24 rfl w2.heap.size 39 i0 _ 1 8 Try.underlying24 hi hz0 hz1 hz2 rfl (by decide) (.slice (some ⟨g, 0, none⟩) k cc) k _ rfl (HO5.out.alloc _) ⟨w5.heap.size, 0, none⟩ 1 1 (cxs [(re, im)]) rfl rfl HN5.out cxs_one' (by unfold maxLen; omega) (by omega) (by rw [size_alloc]; have := HBr.out.size; have := HB5.out.size; omega) ?_; intro v' w6 hown' hgrow _; have HOWN := Lib.hid hown'; have HGR := Lib.hid hgrow; clear hown' hgrow))
            obtain ⟨A1, c1', hve, hOO⟩ := Own.of_row HOWN.out
            obtain ⟨g2, cur1, hA1, _⟩ := hOO.at_ (by omega)
            subst hve hA1
            refine ⟨⟨k + 1, by omega, by go_num, hV2, ⟨g2, c1', rfl⟩, ?_, ((HBr.out.trans (HB5.out.mono HBr.out.size)).alloc (by have := HBr.out.size; have := HB5.out.size; omega) _).grown HGR.out (by rw [size_alloc]; have := HBr.out.size; have := HB5.out.size; omega) (fun j e => (HO.out.lt _ e).1)⟩, by simp [intOf]; omega⟩
            rw [HWS.out]
            have hx := HOWN.out
            rw [show cxs (pts D k) ++ cxs [(re, im)] = cxs (pts D k ++ [(re, im)]) from (List.map_append ..).symm] at hx
            exact hx
        · obtain rfl : k = N := by omega
          have hall : rpAll D k = true := rpAll_yes (fun j hj => hv.out j hj)
          have e1 : RC = 0 := by rw [HCODE.out, hall]; rfl
          have e2 : RL = pts D k := by rw [HLST.out, e1]; rfl
          have E1 := Lib.hid e1
          have E2 := Lib.hid e2
          clear hall e1 e2 hv
          obtain ⟨A1, c1', hve, hO⟩ := Own.of_row HO.out
          cases hve
          have HOF := Lib.hid hO
          clear hO
          go_wp2
          go_ret2
          refine ⟨some ⟨g, 0, none⟩, cc, ?_, ?_, HB2.out.trans (HBr.out.mono HB2.out.size)⟩
          · rw [E1.out, E2.out, pts_length]; rfl
          · rw [E2.out, pts_length]; exact HOF.out.less HB2.out.size
  · rw [if_neg hC] at hcode
    subst hcode
    rw [if_neg hC] at hlst
    subst hlst
    have HD := Lib.hid hd255
    clear hgood hd255 hgno
    go_enter Try.func9, Try.ntmps9
    go_wp2_with (go_at_call 42; refine HOP.out.mono ?_; rintro e w2 ⟨A2, c2, rfl, hO2, hb2⟩; have HB2 := Lib.hid hb2; clear hO2 hb2)
    go_ret2
    exact GivesPs.empty _ HB2.out
end Go.Proofs.Ytigjdcfdgifonaa
