/- The words of a file: plain law, the reference's walk. -/
import Derived.Test.YtigjdcfdgifonaaRows
import Derived.Test.YtigjdcfdgifonaaWk
import Derived.Test.YtigjdcfdgifonaaSs
import Derived.Test.YtigjdcfdgifonaaUe
import Derived.Test.YtigjdcfdgifonaaOpen
namespace Go.Proofs.Ytigjdcfdgifonaa
open Go.ChangeShapes Go.WideShapes Go.ChangeAt Go.RowKit

/-- part i of the data, sixteen bytes -/
def chW (D : List Int) (i : Nat) : List Int := (D.drop (16 * i)).take 16
theorem chW_length {D : List Int} {i : Nat} (h : 16 * i + 16 ≤ D.length) : (chW D i).length = 16 := by
  rw [chW, List.length_take, List.length_drop]
  omega
theorem chW_255 {D : List Int} (h : is255 D) (i : Nat) : is255 (chW D i) := fun x hx => h x (List.mem_of_mem_drop (List.mem_of_mem_take hx))
theorem chW_getD {D : List Int} {i k : Nat} (hk : k < 16) (h : 16 * i + 16 ≤ D.length) : (chW D i)[k]'(by rw [chW_length h]; exact hk) = D[16 * i + k]'(by omega) := by
  simp [chW, List.getElem_take, List.getElem_drop]
def rwN (l : List (List Int)) : Nat := (opData l).length / 16
def rwAll (D : List Int) (n : Nat) : Bool := (List.range n).all fun i => woOk (chW D i)
def rwGood (l : List (List Int)) : Bool := (opKind l == 3) && (((opData l).length : Int) == 16 * opCount l)
def rwC (l : List (List Int)) : Int := if opCode l = 0 then (if rwGood l then (if rwAll (opData l) (rwN l) then 0 else 5) else 5) else opCode l
def wds (D : List Int) (n : Nat) : List ByteArray := (List.range n).map fun i => dw (chW D i)
def rwL (l : List (List Int)) : List ByteArray := if rwC l = 0 then wds (opData l) (rwN l) else []
theorem wds_length (D : List Int) (n : Nat) : (wds D n).length = n := by simp [wds]
theorem wds_succ (D : List Int) (n : Nat) : wds D (n + 1) = wds D n ++ [dw (chW D n)] := by rw [wds, wds, List.range_succ, List.map_append]; rfl
theorem rwAll_no {D : List Int} {n k : Nat} (hk : k < n) (h : woOk (chW D k) = false) : rwAll D n = false := by
  rw [rwAll, List.all_eq_false]
  exact ⟨k, List.mem_range.2 hk, by rw [h]; decide⟩
theorem rwAll_yes {D : List Int} {n : Nat} (h : ∀ k, k < n → woOk (chW D k) = true) : rwAll D n = true := by
  rw [rwAll, List.all_eq_true]
  intro k hk
  exact h k (List.mem_range.1 hk)
theorem opData_255 {l : List (List Int)} (h : ∀ f ∈ l, is255 f) : is255 (opData l) := fun x hx => by
  unfold opData at hx
  split at hx
  · exact dataOf_255 h x (List.mem_of_mem_take hx)
  · cases hx
theorem opHead_255 {l : List (List Int)} (h : ∀ f ∈ l, is255 f) : is255 (opHead l) := by
  cases l with
  | nil => intro x hx; cases hx
  | cons f r => exact h f (List.mem_cons_self ..)
theorem opCount_range {l : List (List Int)} (h : ∀ f ∈ l, is255 f) : 0 ≤ opCount l ∧ opCount l ≤ 4294967295 := by
  unfold opCount
  split
  · exact numAt_range (opHead_255 h) 4
  · omega
def GivesWs (l : List ByteArray) (code : Int) (w : World) (e : Ending) (w' : World) : Prop :=
  ∃ A c, e = .returned (.tuple #[.slice A l.length c, .int .i64 code]) ∧ Own w' w.heap.size w'.heap.size 9 1 A l.length c (strs l) ∧ Below w.heap.size w w'
theorem GivesWs.empty {w w1 : World} (code : Int) (h : Below w.heap.size w w1) : GivesWs [] code w (.returned (.tuple #[.slice (some ⟨w1.heap.size, 0, none⟩) 0 0, .int .i64 code])) (w1.alloc (.cells #[] 9)) :=
  ⟨_, 0, rfl, ⟨rfl, .inr ⟨_, #[], rfl, h.size, by rw [size_alloc]; omega, Blk.newAt rfl rfl, Nat.le_refl _, by unfold maxLen; omega, rfl, rfl⟩⟩, h.alloc h.size _⟩

theorem strs_one' {l : List ByteArray} : ∀ v ∈ strs l, v.oneCell' = true := fun v hv => by
  simp only [strs, List.mem_map] at hv
  obtain ⟨s, _, rfl⟩ := hv
  rfl
theorem str_news (w : World) (s : ByteArray) : ∀ j u, (strs [s])[j]? = some u → (w.alloc (.cells #[.string s] 9)).cell? ((⟨w.heap.size, 0, none⟩ : Addr).add j) = some u := fun j u hu => by
  have hj : j = 0 := by
    rcases Nat.eq_zero_or_pos j with h | h
    · exact h
    · rw [List.getElem?_eq_none (by simp [strs]; omega)] at hu; cases hu
  subst hj
  have hb : Blk (w.alloc (.cells #[.string s] 9)) w.heap.size 9 #[.string s] := Blk.newAt rfl rfl
  rw [addr_add, Nat.add_zero, hb.cell]
  exact hu
set_option maxRecDepth 20000 in
set_option maxHeartbeats 6400000 in
theorem sReadWordFile_any (A : Option Addr) (n c : Nat) (l : List (List Int)) (hl : l.length = n) (hrow : Rows_ 16 l) (h255 : ∀ f ∈ l, is255 f) (hn : n ≤ 1048576) (w : World) (hR : Rd w w.heap.size 16 A n (l.flatten.map (.int .u8))) :
    Calls Try.prog 17 #[.slice A n c] w (GivesWs (rwL l) (rwC l) w) := by
  obtain ⟨i0, hi, hz0, hz1, hz2⟩ := info_parts Str_info
  have ho := l09Open_in A n c l hl hrow h255 hn w hR
  have HOP := Lib.hid ho
  have hd255 := opData_255 h255
  have hdl := opData_length l hrow
  have hcr := opCount_range h255
  have hcode : rwC l = if opCode l = 0 then (if rwGood l then (if rwAll (opData l) (rwN l) then 0 else 5) else 5) else opCode l := rfl
  have hgood : rwGood l = ((opKind l == 3) && (((opData l).length : Int) == 16 * opCount l)) := rfl
  have hlst : rwL l = if rwC l = 0 then wds (opData l) ((opData l).length / 16) else [] := rfl
  have hN : rwN l = (opData l).length / 16 := rfl
  rw [hN] at hcode
  clear ho hl hrow h255 hR hN
  generalize opCode l = C at *
  generalize opKind l = K at *
  generalize opCount l = M at *
  generalize opData l = D at *
  generalize rwGood l = G at *
  generalize rwC l = RC at *
  generalize rwL l = RL at *
  by_cases hC : C = 0
  · subst hC
    rw [if_pos rfl] at hcode
    cases G
    · rw [if_neg (by decide)] at hcode
      subst hcode
      rw [if_neg (by decide)] at hlst
      subst hlst
      have HD := Lib.hid hd255
      have hcs : ¬ K = 3 ∨ (K = 3 ∧ ¬ (D.length : Int) = 16 * M) := by
        by_cases hk : K = 3
        · refine .inr ⟨hk, fun e => ?_⟩
          rw [hk, e] at hgood
          simp at hgood
        · exact .inl hk
      have hm1 : 0 ≤ M := hcr.1
      have hm2 : M ≤ 4294967295 := hcr.2
      clear hgood hd255 hcr
      rcases hcs with hk | ⟨rfl, hk⟩
      all_goals
        go_enter Try.func17, Try.ntmps17
        go_wp2_with (go_at_call 42; refine HOP.out.mono ?_; rintro e w2 ⟨A2, c2, rfl, hO2, hb2⟩; have HB2 := Lib.hid hb2; clear hO2 hb2)
        go_ret2
        exact GivesWs.empty 5 HB2.out
    · rw [Bool.true_eq, Bool.and_eq_true, beq_iff_eq, beq_iff_eq] at hgood
      obtain ⟨rfl, hlen⟩ := hgood
      rw [if_pos rfl] at hcode
      obtain ⟨N, hN⟩ : ∃ N, N = D.length / 16 := ⟨_, rfl⟩
      rw [← hN] at hcode hlst
      have HCODE := Lib.hid hcode
      have HLST := Lib.hid hlst
      have hDN : D.length = 16 * N := by omega
      have hm1 : 0 ≤ M := hcr.1
      have hm2 : M ≤ 4294967295 := hcr.2
      have H255 := Lib.hid hd255
      have HDN := Lib.hid hDN
      have hN1 : N ≤ 1000 := by omega
      have HN := Lib.hid hN
      have hDi : (D.length : Int) = 16 * (N : Int) := by omega
      have hM : M = (N : Int) := by omega
      clear hd255 hcr hlen hN hDN hcode hlst
      subst hM
      have h00 : (w.alloc (.cells #[] 9)).heap.size = w.heap.size + 1 := by rw [size_alloc]
      clear h00
      go_enter Try.func17, Try.ntmps17
      go_wp2_with (go_at_call 42; refine HOP.out.mono ?_; rintro e w2 ⟨A2, c2, rfl, hO2, hb2⟩; have HB2 := Lib.hid hb2; have HRD := Lib.hid (hO2.rd); clear hO2 hb2)
      have o0 : (w2.alloc (.cells #[] 9)).ownsRow w2.heap.size 9 1 (.slice (some ⟨w2.heap.size, 0, none⟩) 0 0) 0 (strs (wds D 0)) := World.ownsRow_lit (e := 9) (base := w2.heap.size) (size := 1) w2 #[] 0 (Nat.le_refl _) (by unfold maxLen; omega) rfl
      go_loopw [8, 9, 10, 11, 12, 13] (fun v i _ _ _ _ wr => ∃ k : Nat, k ≤ N ∧ i = .int .i64 ((16 * k : Nat) : Int) ∧ Hid (∀ j, j < k → woOk (chW D j) = true) ∧ (∃ g cc, v = .slice (some ⟨g, 0, none⟩) k cc) ∧ wr.ownsRow w2.heap.size 9 1 v k (strs (wds D k)) ∧ Below w2.heap.size w2 wr) (fun _ i _ _ _ _ _ => 16 * N + 16 - (intOf i).toNat)
      case atStart => exact ⟨0, by omega, rfl, Lib.hid (fun j hj => by omega), ⟨_, _, rfl⟩, o0, (Below.refl _ _).alloc (Nat.le_refl _) _⟩
      case round =>
        clear o0
        obtain ⟨k, hk, rfl, hv, ⟨g, cc, rfl⟩, ho, hb⟩ := hrel
        have HO := Lib.hid ho
        have HBr := Lib.hid hb
        clear ho hb
        by_cases hlt : k < N
        · have hDk : 16 * k + 16 ≤ D.length := by have := HDN.out; omega
          obtain ⟨b, o, rfl, hbB, hc⟩ := (HRD.out.below HBr.out (Nat.le_refl _)).at_ (by omega)
          have hVl := chW_length hDk
          have hcc : ∀ q, q < 16 → wr.cell? ⟨b, o + (16 * k + q), none⟩ = some (.int .u8 ((chW D k).getD q 0)) := fun q hq => by
            refine hc _ _ ?_
            rw [List.getElem?_map, List.getElem?_eq_getElem (by omega), List.getD_eq_getElem?_getD, List.getElem?_eq_getElem (by rw [hVl]; exact hq), ← chW_getD hq hDk]
            rfl
          have hV255 := chW_255 H255.out k
          have hws := wds_succ D k
          have hno := fun h => rwAll_no (D := D) hlt h
          have hv2 : woOk (chW D k) = true → Hid (∀ j, j < k + 1 → woOk (chW D j) = true) := fun h => Lib.hid (fun j hj => by
            by_cases e : j = k
            · subst e; exact h
            · exact hv.out j (by omega))
          have hval : woV (chW D k) = if woOk (chW D k) then dw (chW D k) else ⟨#[]⟩ := rfl
          have hcd : woC (chW D k) = if woOk (chW D k) then 0 else 5 := rfl
          have hwc := fun W => sWordOfCode_any (chW D k) hVl hV255 W
          have hlt' : (k : Int) < N := by omega
          have r1 : Blk (wr.alloc (.cells #[.int .u8 0, .int .u8 0, .int .u8 0, .int .u8 0, .int .u8 0, .int .u8 0, .int .u8 0, .int .u8 0, .int .u8 0, .int .u8 0, .int .u8 0, .int .u8 0, .int .u8 0, .int .u8 0, .int .u8 0, .int .u8 0] 76)) wr.heap.size 76 (ivs .u8 (List.replicate 16 0)) := Blk.newAt rfl rfl
          have b1 : Below wr.heap.size wr (wr.alloc (.cells #[.int .u8 0, .int .u8 0, .int .u8 0, .int .u8 0, .int .u8 0, .int .u8 0, .int .u8 0, .int .u8 0, .int .u8 0, .int .u8 0, .int .u8 0, .int .u8 0, .int .u8 0, .int .u8 0, .int .u8 0, .int .u8 0] 76)) := (Below.refl _ _).alloc (Nat.le_refl _) _
          have r2 := r1.row (ivs .u8 (List.replicate 16 0))
          have b2 := below_setRow b1 (g := wr.heap.size) (Nat.le_refl _) (ivs .u8 (List.replicate 16 0))
          have HWS := Lib.hid hws
          have HNO := Lib.hid hno
          have HV2 := Lib.hid hv2
          have HVAL := Lib.hid hval
          have HCD := Lib.hid hcd
          have HWC := Lib.hid hwc
          have HVL := Lib.hid hVl
          have HCC := Lib.hid hcc
          have HbB := Lib.hid hbB
          have hkD : 16 * (k : Int) < 16 * (N : Int) := by omega
          clear hc hV255 hws hno hv2 hval hcd hwc hcc hbB hVl hv
          generalize chW D k = V at *
          go_wp2_with (refine wpList_store_row rfl _ _ _ rfl wr.heap.size (ivs .u8 (List.replicate 16 0)) rfl rfl 76 _ r1 (by rw [ivs_size]; exact size76) (by simp [ivs_size]) ivs_one ?_)
          obtain ⟨wo, rfl⟩ : ∃ wo : World, wo = wr := ⟨_, rfl⟩
          go_loopw [11] (fun j wr => ∃ q : Nat, q ≤ 16 ∧ j = .int .i64 q ∧ Blk wr wo.heap.size 76 (ivs .u8 (V.take q ++ List.replicate (16 - q) 0)) ∧ Below wo.heap.size wo wr) (fun j _ => 16 - (intOf j).toNat)
          case atStart => exact ⟨0, by omega, rfl, r2, b2⟩
          case round =>
            clear r1 r2 b1 b2
            obtain ⟨q, hq, rfl, h2, hbw⟩ := hrel
            by_cases hq16 : q < 16
            · have hq16' : (q : Int) < 16 := by omega
              have hqV : q < V.length := by rw [HVL.out]; exact hq16
              have c1 := HCC.out q hq16
              rw [← (bcell hbw).1 b _ (by have := HbB.out; have := HBr.out.size; omega)] at c1
              rw [List.getD_eq_getElem?_getD, List.getElem?_eq_getElem hqV] at c1
              obtain ⟨u3, c3⟩ := h2.some_ (i := q) (by simp; omega)
              have f3 := h2.frozen q
              have h3 := h2.setI q (V[q])
              rw [fill_step HVL.out hq16] at h3
              have H3 := Lib.hid h3
              have hkq : 16 * (k : Int) + q < 16 * (N : Int) := by omega
              have hkq2 : 16 * k + q < D.length := by omega
              simp only [Option.getD_some] at c1
              generalize V[q] = x at *
              clear h2 h3
              go_wp2
              exact ⟨⟨q + 1, by omega, by go_num, H3.out, hbw.setCell (Nat.le_refl _) _⟩, by simp [intOf]; omega⟩
            · obtain rfl : q = 16 := by omega
              rw [fill_end HVL.out] at h2
              have H2 := Lib.hid h2
              have HBW := Lib.hid hbw
              clear h2 hbw
              rcases hok : woOk V with _ | _
              · have hwc2 := HWC.out
                rw [HCD.out, hok] at hwc2
                have hall := HNO.out hok
                have e1 : RC = 5 := by rw [HCODE.out, hall]; rfl
                have e2 : RL = [] := by rw [HLST.out, e1]; rfl
                have E1 := Lib.hid e1
                have E2 := Lib.hid e2
                have HWC2 := Lib.hid hwc2
                clear hok hwc2 hall e1 e2
                generalize woV V = s at *
                go_wp2_with (first
                  | refine wpList_load_row rfl _ _ rfl wo.heap.size rfl 76 (ivs .u8 V) (0, 0) _ H2.out Try.underlying76 rfl (by rw [ivs_size, HVL.out]; exact size76) ?_
                  | (go_at_call 49; refine (HWC2.out _).mono ?_; rintro e w5 ⟨rfl, hb5⟩; have HB5 := Lib.hid hb5; clear hb5))
                go_ret2
                have hB5 : Below w.heap.size w w5 := ((HB2.out.trans (HBr.out.mono HB2.out.size)).trans (HBW.out.mono (by have := HB2.out.size; have := HBr.out.size; omega))).trans (HB5.out.mono (by have := HB2.out.size; have := HBr.out.size; have := HBW.out.size; omega))
                have := GivesWs.empty 5 hB5
                rw [← E1.out, ← E2.out] at this
                have e5 := E1.out
                simp only [e5] at this ⊢
                exact this
              · have hwc2 := HWC.out
                rw [HCD.out, HVAL.out, hok] at hwc2
                have hV2 := HV2.out hok
                have HWC2 := Lib.hid hwc2
                clear hok hwc2
                obtain ⟨s, hs⟩ : ∃ s, s = dw V := ⟨_, rfl⟩
                simp only [if_true] at HWC2
                rw [← hs] at HWC2 HWS
                clear hs
                go_wp2_with (first
                  | refine wpList_load_row rfl _ _ rfl wo.heap.size rfl 76 (ivs .u8 V) (0, 0) _ H2.out Try.underlying76 rfl (by rw [ivs_size, HVL.out]; exact size76) ?_
                  | (go_at_call 49; refine (HWC2.out _).mono ?_; rintro e w5 ⟨rfl, hb5⟩; have HB5 : Hid (Below wo.heap.size wo w5) := Lib.hid (HBW.out.trans (hb5.mono HBW.out.size)); have HO5 := Lib.hid (own_below HO.out HB5.out (Nat.le_refl _)); have HN5 := Lib.hid (str_news w5 s); clear hb5)
                  | (at_builtin; refine wpList_append_own _ rfl (.tmp 63) (.tmp 65) 34 rfl w2.heap.size 9 i0 _ 1 16 Try.underlying34 hi hz0 hz1 hz2 rfl (by decide) (.slice (some ⟨g, 0, none⟩) k cc) k _ rfl (HO5.out.alloc _) ⟨w5.heap.size, 0, none⟩ 1 1 (strs [s]) rfl rfl HN5.out strs_one' (by unfold maxLen; omega) (by omega) (by rw [size_alloc]; have := HBr.out.size; have := HB5.out.size; omega) ?_; intro v' w6 hown' hgrow _; have HOWN := Lib.hid hown'; have HGR := Lib.hid hgrow; clear hown' hgrow))
                obtain ⟨A1, c1', hve, hOO⟩ := Own.of_row HOWN.out
                obtain ⟨g2, cur1, hA1, _⟩ := hOO.at_ (by omega)
                subst hve hA1
                refine ⟨⟨k + 1, by omega, by go_num, hV2, ⟨g2, c1', rfl⟩, ?_, ((HBr.out.trans (HB5.out.mono HBr.out.size)).alloc (by have := HBr.out.size; have := HB5.out.size; omega) _).grown HGR.out (by rw [size_alloc]; have := HBr.out.size; have := HB5.out.size; omega) (fun j e => (HO.out.lt _ e).1)⟩, by simp [intOf]; omega⟩
                rw [HWS.out, strs, List.map_append]
                exact HOWN.out
        · obtain rfl : k = N := by omega
          have hall : rwAll D k = true := rwAll_yes (fun j hj => hv.out j hj)
          have e1 : RC = 0 := by rw [HCODE.out, hall]; rfl
          have e2 : RL = wds D k := by rw [HLST.out, e1]; rfl
          have E1 := Lib.hid e1
          have E2 := Lib.hid e2
          clear hall e1 e2 hv
          obtain ⟨A1, c1', hve, hO⟩ := Own.of_row HO.out
          cases hve
          have HOF := Lib.hid hO
          clear hO
          go_wp2
          go_ret2
          refine ⟨some ⟨g, 0, none⟩, cc, ?_, ?_, HB2.out.trans (HBr.out.mono HB2.out.size)⟩
          · rw [E1.out, E2.out, wds_length]; rfl
          · rw [E2.out, wds_length]; exact HOF.out.less HB2.out.size
  · rw [if_neg hC] at hcode
    subst hcode
    rw [if_neg hC] at hlst
    subst hlst
    have HD := Lib.hid hd255
    clear hgood hd255
    go_enter Try.func17, Try.ntmps17
    go_wp2_with (go_at_call 42; refine HOP.out.mono ?_; rintro e w2 ⟨A2, c2, rfl, hO2, hb2⟩; have HB2 := Lib.hid hb2; clear hO2 hb2)
    go_ret2
    exact GivesWs.empty _ HB2.out
end Go.Proofs.Ytigjdcfdgifonaa
