/- The deed with a text: the reference's walk. -/
import Derived.Test.YtfjfiljgbkhblaaDoorRows
import Derived.Test.YtfjfiljgbkhblaaDoorNq
import Derived.Test.YtfjfiljgbkhblaaDoorNw
import Derived.Test.YtfjfiljgbkhblaaDoorLd
import Derived.BigQuiet
namespace Go.Proofs.YtfjfiljgbkhblaaDoor
open Go.ChangeShapes Go.WideShapes Go.ChangeAt Go.RowKit

theorem results_row_tmpD {P : Program} {fn : Func} {p u : Tmp} {ty : TypeId} (h : fn.results = #[.cell p ty, .tmp u]) (tmps : Array Value) (w : World) (g : Nat) (t : TypeId) (cs : Array Value) (fr : Nat × Nat) (d : TypeDesc)
    (hp : tmps.getD p undef = .pointer (some ⟨g, 0, none⟩)) (hg : w.heap[g]? = some (.cells cs t fr))
    (hu : P.underlying ty = some d) (hd : (match d with | .struct _ | .array _ _ => true | _ => false) = true) (hi : (P.info? ty).map (·.size) = some cs.size) :
    (results fn tmps).run P w = .ok (.tuple #[.agg cs, tmps.getD u undef]) w := by
  have hp' : tmps[p]?.getD undef = .pointer (some ⟨g, 0, none⟩) := by simpa using hp
  simp [results, h, hp', asAddr, run_loadVar_row w g t ty cs fr d hg hu hd hi]
theorem size31 : (Tryd.prog.info? 31).map (·.size) = some 3 := by kernel_rfl
theorem exec_ldDeed (ρ : Operand → Value) (dst : Option Tmp) (x : Operand) (t : TypeId) (pos : String) (after : Array Edge) (guard : Option (Nat × Bool)) :
    execOp ρ { dst := dst, op := .load 31 x, type := t, pos := pos, after := after, guard := guard } = ldRow 31 (ρ x) := rfl
theorem run_ldDeed : ∀ (W : World) (g o : Nat), hasRow W g o 3 = true → (ldRow 31 (.pointer (some ⟨g, o, none⟩))).run Tryd.prog W = .ok (.value (.agg (rowAt W g o 3))) W := run_ldRow Tryd.underlying31 rfl size31
attribute [local go_sem ↓] exec_ldDeed
attribute [local go_sem] run_ldDeed
theorem l10Names_all (w : World) : Calls Tryd.prog 26 #[] w fun e w' => e = .returned (.slice (some ⟨w.heap.size, 0, none⟩) 10 10) ∧ (∀ k : Nat, 1 ≤ k → k ≤ 9 → w'.cell? ⟨w.heap.size, k, none⟩ = some (.string (word k))) ∧ w'.heap.size = w.heap.size + 1 ∧ Below w.heap.size w w' := by
  go_enter Tryd.func26, Tryd.ntmps26
  go_wp2
  go_ret
  refine ⟨rfl, fun k h0 h => ?_, by simp, (Below.refl _ _).alloc (Nat.le_refl _) _⟩
  rw [World.cell?_alloc_at _ _ _ _ rfl]
  exact word_at h0 h
theorem str_news2 (w : World) : ∀ j u, (strs [⟨#[]⟩, ⟨#[]⟩])[j]? = some u → (w.alloc (.cells #[.string { data := #[] }, .string { data := #[] }] 9)).cell? ((⟨w.heap.size, 0, none⟩ : Addr).add j) = some u := fun j u hu => by
  have hb : Blk (w.alloc (.cells #[.string { data := #[] }, .string { data := #[] }] 9)) w.heap.size 9 #[.string { data := #[] }, .string { data := #[] }] := Blk.newAt rfl rfl
  have e : (#[Value.string { data := #[] }, .string { data := #[] }] : Array Value)[j]? = (strs [⟨#[]⟩, ⟨#[]⟩])[j]? := by simp [strs]
  rw [addr_addN, hb.cell, e]
  exact hu
theorem pad_getD (l : List (List UInt8)) (j : Nat) (hj : j < 3) (h : 0 < l.length) : (l ++ List.map (fun x : ByteArray => x.data.toList) [⟨#[]⟩, ⟨#[]⟩]).getD j [] = (l.drop j).headD [] := by
  show (l ++ [[], []]).getD j [] = _
  rw [List.headD_eq_head?_getD, List.head?_drop, List.getD_eq_getElem?_getD]
  by_cases hl : j < l.length
  · rw [List.getElem?_append_left hl]
  · rw [List.getElem?_append_right (by omega), List.getElem?_eq_none (l := l) (by omega)]
    rcases (by omega : j - l.length = 0 ∨ j - l.length = 1) with e | e <;> rw [e] <;> rfl
theorem pcs_len (c : UInt8) : ∀ l : List UInt8, ∀ p ∈ pcs c l, p.length ≤ l.length
  | [], p, hp => by rw [pcs, List.mem_singleton] at hp; rw [hp]; exact Nat.le_refl _
  | x :: r, p, hp => by
    have ih := pcs_len c r
    have hc := pcs_cons c r
    by_cases h : x = c
    · rw [pcs, if_pos h] at hp
      rcases List.mem_cons.1 hp with e | e
      · rw [e]; simp
      · have := ih p e; rw [List.length_cons]; omega
    · rw [pcs, if_neg h] at hp
      rcases List.mem_cons.1 hp with e | e
      · have := ih ((pcs c r).headD []) (by rw [hc]; exact List.mem_cons_self)
        rw [e, List.length_cons, List.length_cons]; omega
      · have := ih p (by rw [hc]; exact List.mem_cons_of_mem _ e)
        rw [List.length_cons]; omega
theorem pcs_drop_len (c : UInt8) (l : List UInt8) (j : Nat) : (((pcs c l).drop j).headD []).length ≤ l.length := by
  cases e : (pcs c l).drop j with
  | nil => simp
  | cons p ps => exact pcs_len c l p (List.mem_of_mem_drop (by rw [e]; exact List.mem_cons_self))
def DeedV (k a b c : Int) : Value := .tuple #[.agg (ivs .i64 [k, a, b]), .int .i64 c]
set_option maxRecDepth 20000 in
set_option maxHeartbeats 6400000 in
theorem sReadDeed_any (t : ByteArray) (ht : t.size ≤ 1048576) (w : World) :
    Calls Tryd.prog 14 #[.string t] w fun e w' => (∃ k a b c, Told t k a b c ∧ e = .returned (DeedV k a b c)) ∧ Below w.heap.size w w' := by
  obtain ⟨i0, hi, hz0, hz1, hz2⟩ := info_parts Str_info
  have r1 : Blk (w.alloc (.cells #[.int .i64 0, .int .i64 0, .int .i64 0] 31)) w.heap.size 31 (ivs .i64 [0, 0, 0]) := Blk.newAt rfl rfl
  have b1 : Below w.heap.size w (w.alloc (.cells #[.int .i64 0, .int .i64 0, .int .i64 0] 31)) := (Below.refl _ _).alloc (Nat.le_refl _) _
  by_cases h40 : t.size ≤ 40
  · have h40' : ¬ (40 : Int) < t.size := by omega
    have HS := Lib.hid (fun W => l01Split_any t 32 ht W)
    have hL := parts_total t 32
    have hP := parts_pcs t 32
    have hp := parts_pos t 32
    have hle := pcs_le 32 t.data.toList
    have hzz := Lib.size_eq t
    obtain ⟨P, hPP⟩ : ∃ P, P = partsOf t 32 := ⟨_, rfl⟩
    rw [← hPP] at HS
    replace hL : P.length = (pcs 32 t.data.toList).length := by rw [hPP]; exact hL
    replace hP : P.map (·.data.toList) = pcs 32 t.data.toList := by rw [hPP]; exact hP
    replace hp : 0 < P.length := by rw [hPP]; exact hp
    have hPl : P.length ≤ 41 := by omega
    clear hPP hle hzz
    have R1 := Lib.hid r1
    have HP := Lib.hid hP
    have HL := Lib.hid hL
    clear r1 hP hL
    go_enter Tryd.func14, Tryd.ntmps14
    go_wp2_with (first
      | (go_at_call 31; refine (HS.out _).mono ?_; rintro e w2 ⟨g, c, rfl, hO, hb⟩; have HO := Lib.hid ((hO.less (lo' := w.heap.size) (by rw [size_alloc]; omega)).row); have HB := Lib.hid (b1.trans (hb.mono b1.size)); have hgl : Hid (w.heap.size < g) := Lib.hid (by obtain ⟨g', cur, e, h1, _⟩ := hO.at_ hp; cases e; rw [size_alloc] at h1; exact h1); have HW := Lib.hid hb; have HN := Lib.hid (str_news2 w2); clear hO hb)
      | (at_builtin; refine wpList_append_own _ rfl (.tmp 13) (.tmp 14) 54 rfl w.heap.size 9 i0 _ 1 16 Tryd.underlying54 hi hz0 hz1 hz2 rfl (by decide) (.slice (some ⟨g, 0, none⟩) P.length c) P.length _ rfl (HO.out.alloc _) ⟨w2.heap.size, 0, none⟩ 2 2 (strs [⟨#[]⟩, ⟨#[]⟩]) rfl rfl HN.out strs_one' (by unfold maxLen; omega) (by omega) (by rw [size_alloc]; have := HB.out.size; omega) ?_; intro v' w6 hown' hgrow _; have HOWN := Lib.hid hown'; have HGR := Lib.hid hgrow; clear hown' hgrow)
      | (go_at_call 26; refine (l10Names_all _).mono ?_; rintro e w7 ⟨rfl, hnm, hsz7, hb7⟩; have HNM := Lib.hid hnm; have HB7 := Lib.hid hb7; have HZ7 := Lib.hid hsz7; clear hnm hb7 hsz7))
    -- BODY
    obtain ⟨A1, c1', hve, hOO⟩ := Own.of_row HOWN.out
    obtain ⟨g2, cur1, hA1, _, hg2, _⟩ := hOO.at_ (by omega)
    subst hve hA1
    have R2 := R1.out.below HW.out (by rw [size_alloc]; omega)
    have R6 : Blk w6 w.heap.size 31 (ivs .i64 [0, 0, 0]) := (R2.alloc _).grown HGR.out (fun e => by have e2 : w.heap.size = g := Option.some.inj e; have := hgl.out; omega)
    have B6 : Below w.heap.size w w6 := (HB.out.alloc (by have := HB.out.size; omega) _).grown HGR.out (by rw [size_alloc]; have := HB.out.size; omega) (fun j e => (HO.out.lt _ e).1)
    have R7 := Lib.hid (R6.below HB7.out R6.lt)
    have B7 := Lib.hid (B6.trans (HB7.out.mono B6.size))
    obtain ⟨Q, hQ⟩ : ∃ Q, Q = P ++ [⟨#[]⟩, ⟨#[]⟩] := ⟨_, rfl⟩
    have hQl : Q.length = P.length + 2 := by rw [hQ]; simp
    have hQs : strs P ++ strs [⟨#[]⟩, ⟨#[]⟩] = strs Q := by rw [hQ, strs, strs, strs, List.map_append]
    rw [hQs, ← hQl] at hOO
    have hcell : ∀ j, j < 3 → w7.cell? ⟨g2, j, none⟩ = some (.string (Q.getD j ⟨#[]⟩)) := fun j hj => by
      obtain ⟨c, hlt⟩ := own_str hOO (k := j) (by omega)
      rw [(bcell HB7.out).1 g2 j hlt, c, List.getD_eq_getElem?_getD, List.getElem?_eq_getElem (by omega)]; rfl
    have hdat : ∀ j, j < 3 → (Q.getD j ⟨#[]⟩).data.toList = ((pcs 32 t.data.toList).drop j).headD [] := fun j hj => by
      rw [getD_data, hQ, List.map_append, HP.out]
      exact pad_getD _ j hj (by rw [← HL.out]; exact hp)
    have d0 := Lib.hid (hdat 0 (by omega))
    have d1 := Lib.hid (hdat 1 (by omega))
    have d2 := Lib.hid (hdat 2 (by omega))
    have cc0 := Lib.hid (hcell 0 (by omega))
    have cc1 := Lib.hid (hcell 1 (by omega))
    have cc2 := Lib.hid (hcell 2 (by omega))
    have hz1 : Hid ((Q.getD 1 ⟨#[]⟩).size ≤ 1048576) := Lib.hid (by rw [Lib.size_eq, d1.out]; have := pcs_drop_len 32 t.data.toList 1; rw [Lib.size_eq] at ht; omega)
    have hz2x : Hid ((Q.getD 2 ⟨#[]⟩).size ≤ 1048576) := Lib.hid (by rw [Lib.size_eq, d2.out]; have := pcs_drop_len 32 t.data.toList 2; rw [Lib.size_eq] at ht; omega)
    have hgn : Hid (w6.heap.size < w7.heap.size) := Lib.hid (by rw [HZ7.out]; omega)
    have hg7 : Hid (g2 < w7.heap.size) := Lib.hid (by rw [HZ7.out]; omega)
    generalize Q.getD 0 ⟨#[]⟩ = w0 at *
    generalize Q.getD 1 ⟨#[]⟩ = w1 at *
    generalize Q.getD 2 ⟨#[]⟩ = x2 at *
    generalize w6.heap.size = gn at *
    obtain ⟨n, hn⟩ : ∃ n, n = P.length + 2 := ⟨_, rfl⟩
    have n0 : (0 : Int) < n := by omega
    have n1 : (1 : Int) < n := by omega
    have n2 : (2 : Int) < n := by omega
    rw [← hn]
    clear hcell hdat hOO R2 R6 B6 hQ hQs hQl hp hPl hg2 HW HO HS HOWN HGR hgl HL HP hn b1
    go_loopw [6, 7] (fun kv _ wr => ∃ k : Nat, 1 ≤ k ∧ k ≤ 10 ∧ kv = .int .i64 k ∧ Hid (∀ j : Nat, 1 ≤ j → j < k → ¬ (w0 = word j ∧ dtext j (sA j w1) (sB j x2) = t)) ∧ Blk wr w.heap.size 31 (ivs .i64 [0, 0, 0]) ∧ Below w7.heap.size w7 wr) (fun kv _ _ => 11 - (intOf kv).toNat)
    case atStart => exact ⟨1, by omega, by omega, rfl, Lib.hid (fun j h1 h2 => by omega), R7.out, Below.refl _ _⟩
    case round =>
      obtain ⟨k, hk1, hk, rfl, hno, hR, hbr⟩ := hrel
      have HR := Lib.hid hR
      have HBr := Lib.hid hbr
      have hRw : w.heap.size < wr.heap.size := hR.lt
      have hzr := hbr.size
      clear hR hbr
      by_cases hlt : k ≤ 9
      · have hlt' : (k : Int) ≤ 9 := by omega
        have hk0 : (0 : Int) ≤ k := by omega
        have r8 : Blk (wr.alloc (.cells #[.int .i64 0, .int .i64 0, .int .i64 0] 31)) wr.heap.size 31 (ivs .i64 [0, 0, 0]) := Blk.newAt rfl rfl
        have b8 : Below wr.heap.size wr (wr.alloc (.cells #[.int .i64 0, .int .i64 0, .int .i64 0] 31)) := (Below.refl _ _).alloc (Nat.le_refl _) _
        have KA := Lib.hid (r8.row (ivs .i64 [(k : Int), 0, 0]))
        have BA := Lib.hid (below_setRow b8 (g := wr.heap.size) (Nat.le_refl _) (ivs .i64 [(k : Int), 0, 0]))
        have HNU := Lib.hid (fun W => numsS_any (k : Int) ⟨by omega, by omega⟩ W)
        have hsa : sA (k : Int) w1 = if 0 < numsK (k : Int) then smallV w1 else 0 := rfl
        have hsb : sB (k : Int) x2 = if 1 < numsK (k : Int) then smallV x2 else 0 := rfl
        have HSA := Lib.hid hsa
        have HSB := Lib.hid hsb
        have hnc := nums_cases (k : Int)
        clear hsa hsb
        generalize numsK (k : Int) = nk at *
        go_wp2_with (refine wpList_store_row rfl _ _ _ rfl wr.heap.size (ivs .i64 [(k : Int), 0, 0]) rfl rfl 31 _ r8 (by rw [ivs_size]; exact size31) (by simp [ivs_size]) ivs_one ?_)
        clear r8 b8
        generalize ((wr.alloc (.cells #[.int .i64 0, .int .i64 0, .int .i64 0] 31)).setRow wr.heap.size (ivs .i64 [(k : Int), 0, 0])) = wA at *
        have q1 : wA.cell? ⟨g2, 1, none⟩ = some (.string w1) := by rw [(bcell BA.out).1 g2 1 (by have := hg7.out; omega), (bcell HBr.out).1 g2 1 hg7.out]; exact cc1.out
        have q2 : wA.cell? ⟨g2, 2, none⟩ = some (.string x2) := by rw [(bcell BA.out).1 g2 2 (by have := hg7.out; omega), (bcell HBr.out).1 g2 2 hg7.out]; exact cc2.out
        rcases hnc with rfl | rfl | rfl
        · have eA : Hid (sA (k : Int) w1 = 0) := Lib.hid (by rw [HSA.out, if_neg (by omega)])
          have eB : Hid (sB (k : Int) x2 = 0) := Lib.hid (by rw [HSB.out, if_neg (by omega)])
          have KB := KA
          have BB := BA
          clear HSA HSB q1 q2
          refine (HNU.out _).mono ?_
          rintro e w' ⟨rfl, rfl⟩
          go_wp2_with (go_at_call 27; refine (HNU.out _).mono ?_; rintro e w' ⟨rfl, rfl⟩)
          have KRB := Lib.hid (HR.out.below BB.out hRw)
          have gwr : g2 < wr.heap.size := by have := hg7.out; omega
          have gnr : gn < wr.heap.size := by have := hgn.out; omega
          have zB := BB.out.size
          have lB : wr.heap.size < wA.heap.size := KB.out.lt
          have tc0 : ∀ x : After wA, x.to.cell? ⟨g2, 0, none⟩ = some (.string w0) := fun x => by rw [x.cell (by omega), (bcell BB.out).1 g2 0 gwr, (bcell HBr.out).1 g2 0 hg7.out]; exact cc0.out
          have tcn : ∀ x : After wA, x.to.cell? ⟨gn, k, none⟩ = some (.string (word (k : Int))) := fun x => by rw [x.cell (by omega), (bcell BB.out).1 gn k gnr, (bcell HBr.out).1 gn k hgn.out]; exact HNM.out k hk1 hlt
          have tr1 : ∀ x : After wA, rowAt x.to wr.heap.size 0 3 = ivs .i64 [(k : Int), 0, 0] := fun x => (KB.out.below x.h lB).rowAt_eq rfl
          have tr2 : ∀ x : After wA, hasRow x.to wr.heap.size 0 3 = true := fun x => (KB.out.below x.h lB).hasRow_eq rfl
          have hdt : ∀ W, Calls Tryd.prog 11 #[.agg (ivs .i64 [(k : Int), 0, 0])] W fun e w' => e = .returned (.string (dtext (k : Int) 0 0)) ∧ Below W.heap.size W w' := fun W => sDeedText_any (k : Int) 0 0 W
          by_cases hx : w0 = word (k : Int)
          · by_cases hy : dtext (k : Int) 0 0 = t
            · have hF : Hid (Found t (k : Int) 0 0) := Lib.hid (by
                have := s_yes (t := t) (w0 := w0) (w1 := w1) (w2 := x2) (k := (k : Int)) ⟨by omega, by omega⟩ (by simpa using d0.out) hx (by rw [eA.out, eB.out]; exact hy)
                rw [eA.out, eB.out] at this
                exact this)
              rw [hy] at hdt
              have HDT := Lib.hid hdt
              rw [← hx] at tcn
              clear hdt hy hx
              refine region_after (by kernel_rfl) (by kernel_rfl) ?_
              repeat (go_big_quiet_step (first | (go_at_call 11; exact After.call _ (HDT.out _))))
              refine wpQuiet_nil ?_
              rintro _ ⟨x9, rfl⟩
              have hbt := x9.h
              generalize x9.to = w9 at hbt ⊢
              clear x9 tc0 tcn tr1 tr2
              have K9 := Lib.hid (KB.out.below hbt lB)
              have R9 := Lib.hid (KRB.out.below hbt (by omega))
              have B9 := Lib.hid (((B7.out.trans (HBr.out.mono B7.out.size)).trans (BB.out.mono (by have := B7.out.size; omega))).trans (hbt.mono (by have := B7.out.size; omega)))
              go_wp2_with (first
                | refine wpList_load_row rfl _ _ rfl wr.heap.size rfl 31 (ivs .i64 [(k : Int), 0, 0]) (0, 0) _ K9.out Tryd.underlying31 rfl (by rw [ivs_size]; exact size31) ?_
                | refine wpList_store_row rfl _ _ _ rfl w.heap.size (ivs .i64 [(k : Int), 0, 0]) rfl rfl 31 _ R9.out (by rw [ivs_size]; exact size31) (by simp [ivs_size]) ivs_one ?_)
              exact bodyPost_ret (results_row_tmpD rfl _ _ w.heap.size 31 (ivs .i64 [(k : Int), 0, 0]) (0, 0) _ rfl (R9.out.row _) Tryd.underlying31 rfl (by rw [ivs_size]; exact size31)) rfl ⟨⟨_, _, _, 0, .inl ⟨hF.out, rfl⟩, rfl⟩, below_setRow B9.out (Nat.le_refl _) _⟩
            · have hno2 : Hid (∀ j : Nat, 1 ≤ j → j < k + 1 → ¬ (w0 = word j ∧ dtext j (sA j w1) (sB j x2) = t)) := Lib.hid (fun j h1 h2 ⟨e1, e2⟩ => by
                by_cases e : j = k
                · subst e; rw [eA.out, eB.out] at e2; exact hy e2
                · exact hno.out j h1 (by omega) ⟨e1, e2⟩)
              have HDT := Lib.hid hdt
              have hyb : ((dtext (k : Int) 0 0).toList == t.toList) = false := beq_eq_false_iff_ne.2 fun e => hy (ba_inj e)
              rw [← hx] at tcn
              clear hdt hx hy hno
              generalize dtext (k : Int) 0 0 = dtx at *
              refine region_after (by kernel_rfl) (by kernel_rfl) ?_
              repeat (go_big_quiet_step (first | (go_at_call 11; exact After.call _ (HDT.out _))))
              refine wpQuiet_nil ?_
              rintro _ ⟨x9, rfl⟩
              have hbt := x9.h
              generalize x9.to = w9 at hbt ⊢
              clear x9 tc0 tcn tr1 tr2
              have R9 := Lib.hid (KRB.out.below hbt (by omega))
              have B9 := Lib.hid ((HBr.out.trans (BB.out.mono hzr)).trans (hbt.mono (by omega)))
              go_wp2
              exact ⟨⟨k + 1, by omega, by omega, by go_num, hno2, R9.out, B9.out⟩, by simp [intOf]; omega⟩
          · have hno2 : Hid (∀ j : Nat, 1 ≤ j → j < k + 1 → ¬ (w0 = word j ∧ dtext j (sA j w1) (sB j x2) = t)) := Lib.hid (fun j h1 h2 ⟨e1, e2⟩ => by
              by_cases e : j = k
              · subst e; exact hx e1
              · exact hno.out j h1 (by omega) ⟨e1, e2⟩)
            have hxb : (w0.toList == (word (k : Int)).toList) = false := beq_eq_false_iff_ne.2 fun e => hx (ba_inj e)
            clear hdt hx hno
            generalize word (k : Int) = wk at *
            refine region_after (by kernel_rfl) (by kernel_rfl) ?_
            repeat (go_big_quiet_step (fail))
            refine wpQuiet_nil ?_
            rintro _ ⟨x9, rfl⟩
            have hbt := x9.h
            generalize x9.to = w9 at hbt ⊢
            clear x9 tc0 tcn tr1 tr2
            have R9 := Lib.hid (KRB.out.below hbt (by omega))
            have B9 := Lib.hid ((HBr.out.trans (BB.out.mono hzr)).trans (hbt.mono (by omega)))
            go_wp2
            exact ⟨⟨k + 1, by omega, by omega, by go_num, hno2, R9.out, B9.out⟩, by simp [intOf]; omega⟩
        · have eA : Hid (sA (k : Int) w1 = smallV w1) := Lib.hid (by rw [HSA.out, if_pos (by omega)])
          have eB : Hid (sB (k : Int) x2 = 0) := Lib.hid (by rw [HSB.out, if_neg (by omega)])
          have HSM1 := Lib.hid (fun W => l01Small_any w1 hz1.out W)
          clear HSA HSB q2
          generalize smallV w1 = av at *
          have KB := Lib.hid (KA.out.setI 1 av)
          have BB := Lib.hid (BA.out.setCell (p := ⟨wr.heap.size, 1, none⟩) (Nat.le_refl _) (.int .i64 av))
          have ca1 : wA.cell? ⟨wr.heap.size, 1, none⟩ = some (.int .i64 0) := KA.out.cell 1
          have fa1 := KA.out.frozen 1
          refine (HNU.out _).mono ?_
          rintro e w' ⟨rfl, rfl⟩
          go_wp2_with (first
            | (go_at_call 27; refine (HNU.out _).mono ?_; rintro e w' ⟨rfl, rfl⟩)
            | (go_at_call 32; refine (HSM1.out _).mono ?_; rintro e w' ⟨rfl, rfl⟩))
          generalize wA.setCell ⟨wr.heap.size, 1, none⟩ (.int .i64 av) = wB at *
          have KB : Hid (Blk wB wr.heap.size 31 (ivs .i64 [(k : Int), av, 0])) := KB
          clear q1 ca1 fa1
          have KRB := Lib.hid (HR.out.below BB.out hRw)
          have gwr : g2 < wr.heap.size := by have := hg7.out; omega
          have gnr : gn < wr.heap.size := by have := hgn.out; omega
          have zB := BB.out.size
          have lB : wr.heap.size < wB.heap.size := KB.out.lt
          have tc0 : ∀ x : After wB, x.to.cell? ⟨g2, 0, none⟩ = some (.string w0) := fun x => by rw [x.cell (by omega), (bcell BB.out).1 g2 0 gwr, (bcell HBr.out).1 g2 0 hg7.out]; exact cc0.out
          have tcn : ∀ x : After wB, x.to.cell? ⟨gn, k, none⟩ = some (.string (word (k : Int))) := fun x => by rw [x.cell (by omega), (bcell BB.out).1 gn k gnr, (bcell HBr.out).1 gn k hgn.out]; exact HNM.out k hk1 hlt
          have tr1 : ∀ x : After wB, rowAt x.to wr.heap.size 0 3 = ivs .i64 [(k : Int), av, 0] := fun x => (KB.out.below x.h lB).rowAt_eq rfl
          have tr2 : ∀ x : After wB, hasRow x.to wr.heap.size 0 3 = true := fun x => (KB.out.below x.h lB).hasRow_eq rfl
          have hdt : ∀ W, Calls Tryd.prog 11 #[.agg (ivs .i64 [(k : Int), av, 0])] W fun e w' => e = .returned (.string (dtext (k : Int) av 0)) ∧ Below W.heap.size W w' := fun W => sDeedText_any (k : Int) av 0 W
          by_cases hx : w0 = word (k : Int)
          · by_cases hy : dtext (k : Int) av 0 = t
            · have hF : Hid (Found t (k : Int) av 0) := Lib.hid (by
                have := s_yes (t := t) (w0 := w0) (w1 := w1) (w2 := x2) (k := (k : Int)) ⟨by omega, by omega⟩ (by simpa using d0.out) hx (by rw [eA.out, eB.out]; exact hy)
                rw [eA.out, eB.out] at this
                exact this)
              rw [hy] at hdt
              have HDT := Lib.hid hdt
              rw [← hx] at tcn
              clear hdt hy hx
              refine region_after (by kernel_rfl) (by kernel_rfl) ?_
              repeat (go_big_quiet_step (first | (go_at_call 11; exact After.call _ (HDT.out _))))
              refine wpQuiet_nil ?_
              rintro _ ⟨x9, rfl⟩
              have hbt := x9.h
              generalize x9.to = w9 at hbt ⊢
              clear x9 tc0 tcn tr1 tr2
              have K9 := Lib.hid (KB.out.below hbt lB)
              have R9 := Lib.hid (KRB.out.below hbt (by omega))
              have B9 := Lib.hid (((B7.out.trans (HBr.out.mono B7.out.size)).trans (BB.out.mono (by have := B7.out.size; omega))).trans (hbt.mono (by have := B7.out.size; omega)))
              go_wp2_with (first
                | refine wpList_load_row rfl _ _ rfl wr.heap.size rfl 31 (ivs .i64 [(k : Int), av, 0]) (0, 0) _ K9.out Tryd.underlying31 rfl (by rw [ivs_size]; exact size31) ?_
                | refine wpList_store_row rfl _ _ _ rfl w.heap.size (ivs .i64 [(k : Int), av, 0]) rfl rfl 31 _ R9.out (by rw [ivs_size]; exact size31) (by simp [ivs_size]) ivs_one ?_)
              exact bodyPost_ret (results_row_tmpD rfl _ _ w.heap.size 31 (ivs .i64 [(k : Int), av, 0]) (0, 0) _ rfl (R9.out.row _) Tryd.underlying31 rfl (by rw [ivs_size]; exact size31)) rfl ⟨⟨_, _, _, 0, .inl ⟨hF.out, rfl⟩, rfl⟩, below_setRow B9.out (Nat.le_refl _) _⟩
            · have hno2 : Hid (∀ j : Nat, 1 ≤ j → j < k + 1 → ¬ (w0 = word j ∧ dtext j (sA j w1) (sB j x2) = t)) := Lib.hid (fun j h1 h2 ⟨e1, e2⟩ => by
                by_cases e : j = k
                · subst e; rw [eA.out, eB.out] at e2; exact hy e2
                · exact hno.out j h1 (by omega) ⟨e1, e2⟩)
              have HDT := Lib.hid hdt
              have hyb : ((dtext (k : Int) av 0).toList == t.toList) = false := beq_eq_false_iff_ne.2 fun e => hy (ba_inj e)
              rw [← hx] at tcn
              clear hdt hx hy hno
              generalize dtext (k : Int) av 0 = dtx at *
              refine region_after (by kernel_rfl) (by kernel_rfl) ?_
              repeat (go_big_quiet_step (first | (go_at_call 11; exact After.call _ (HDT.out _))))
              refine wpQuiet_nil ?_
              rintro _ ⟨x9, rfl⟩
              have hbt := x9.h
              generalize x9.to = w9 at hbt ⊢
              clear x9 tc0 tcn tr1 tr2
              have R9 := Lib.hid (KRB.out.below hbt (by omega))
              have B9 := Lib.hid ((HBr.out.trans (BB.out.mono hzr)).trans (hbt.mono (by omega)))
              go_wp2
              exact ⟨⟨k + 1, by omega, by omega, by go_num, hno2, R9.out, B9.out⟩, by simp [intOf]; omega⟩
          · have hno2 : Hid (∀ j : Nat, 1 ≤ j → j < k + 1 → ¬ (w0 = word j ∧ dtext j (sA j w1) (sB j x2) = t)) := Lib.hid (fun j h1 h2 ⟨e1, e2⟩ => by
              by_cases e : j = k
              · subst e; exact hx e1
              · exact hno.out j h1 (by omega) ⟨e1, e2⟩)
            have hxb : (w0.toList == (word (k : Int)).toList) = false := beq_eq_false_iff_ne.2 fun e => hx (ba_inj e)
            clear hdt hx hno
            generalize word (k : Int) = wk at *
            refine region_after (by kernel_rfl) (by kernel_rfl) ?_
            repeat (go_big_quiet_step (fail))
            refine wpQuiet_nil ?_
            rintro _ ⟨x9, rfl⟩
            have hbt := x9.h
            generalize x9.to = w9 at hbt ⊢
            clear x9 tc0 tcn tr1 tr2
            have R9 := Lib.hid (KRB.out.below hbt (by omega))
            have B9 := Lib.hid ((HBr.out.trans (BB.out.mono hzr)).trans (hbt.mono (by omega)))
            go_wp2
            exact ⟨⟨k + 1, by omega, by omega, by go_num, hno2, R9.out, B9.out⟩, by simp [intOf]; omega⟩
        · have eA : Hid (sA (k : Int) w1 = smallV w1) := Lib.hid (by rw [HSA.out, if_pos (by omega)])
          have eB : Hid (sB (k : Int) x2 = smallV x2) := Lib.hid (by rw [HSB.out, if_pos (by omega)])
          have HSM1 := Lib.hid (fun W => l01Small_any w1 hz1.out W)
          have HSM2 := Lib.hid (fun W => l01Small_any x2 hz2x.out W)
          clear HSA HSB
          generalize smallV w1 = av at *
          generalize smallV x2 = bv at *
          have KB1 := Lib.hid (KA.out.setI 1 av)
          have BB1 := Lib.hid (BA.out.setCell (p := ⟨wr.heap.size, 1, none⟩) (Nat.le_refl _) (.int .i64 av))
          have ca1 : wA.cell? ⟨wr.heap.size, 1, none⟩ = some (.int .i64 0) := KA.out.cell 1
          have fa1 := KA.out.frozen 1
          refine (HNU.out _).mono ?_
          rintro e w' ⟨rfl, rfl⟩
          go_wp2_with (go_at_call_of 32 (Value.string w1); refine (HSM1.out _).mono ?_; rintro e w' ⟨rfl, rfl⟩)
          generalize wA.setCell ⟨wr.heap.size, 1, none⟩ (.int .i64 av) = wC at *
          have q2c : wC.cell? ⟨g2, 2, none⟩ = some (.string x2) := by rw [(bcell BB1.out).1 g2 2 (by have := hg7.out; omega), (bcell HBr.out).1 g2 2 hg7.out]; exact cc2.out
          have ca2 : wC.cell? ⟨wr.heap.size, 2, none⟩ = some (.int .i64 0) := KB1.out.cell 2
          have fa2 := KB1.out.frozen 2
          have KB := Lib.hid (KB1.out.setI 2 bv)
          have BB := Lib.hid (BB1.out.setCell (p := ⟨wr.heap.size, 2, none⟩) (Nat.le_refl _) (.int .i64 bv))
          clear q1 q2 ca1 fa1
          refine (HNU.out _).mono ?_
          rintro e w' ⟨rfl, rfl⟩
          go_wp2_with (first
            | (go_at_call 27; refine (HNU.out _).mono ?_; rintro e w' ⟨rfl, rfl⟩)
            | (go_at_call 32; refine (HSM2.out _).mono ?_; rintro e w' ⟨rfl, rfl⟩))
          generalize wC.setCell ⟨wr.heap.size, 2, none⟩ (.int .i64 bv) = wB at *
          have KB : Hid (Blk wB wr.heap.size 31 (ivs .i64 [(k : Int), av, bv])) := KB
          clear q2c ca2 fa2
          have KRB := Lib.hid (HR.out.below BB.out hRw)
          have gwr : g2 < wr.heap.size := by have := hg7.out; omega
          have gnr : gn < wr.heap.size := by have := hgn.out; omega
          have zB := BB.out.size
          have lB : wr.heap.size < wB.heap.size := KB.out.lt
          have tc0 : ∀ x : After wB, x.to.cell? ⟨g2, 0, none⟩ = some (.string w0) := fun x => by rw [x.cell (by omega), (bcell BB.out).1 g2 0 gwr, (bcell HBr.out).1 g2 0 hg7.out]; exact cc0.out
          have tcn : ∀ x : After wB, x.to.cell? ⟨gn, k, none⟩ = some (.string (word (k : Int))) := fun x => by rw [x.cell (by omega), (bcell BB.out).1 gn k gnr, (bcell HBr.out).1 gn k hgn.out]; exact HNM.out k hk1 hlt
          have tr1 : ∀ x : After wB, rowAt x.to wr.heap.size 0 3 = ivs .i64 [(k : Int), av, bv] := fun x => (KB.out.below x.h lB).rowAt_eq rfl
          have tr2 : ∀ x : After wB, hasRow x.to wr.heap.size 0 3 = true := fun x => (KB.out.below x.h lB).hasRow_eq rfl
          have hdt : ∀ W, Calls Tryd.prog 11 #[.agg (ivs .i64 [(k : Int), av, bv])] W fun e w' => e = .returned (.string (dtext (k : Int) av bv)) ∧ Below W.heap.size W w' := fun W => sDeedText_any (k : Int) av bv W
          by_cases hx : w0 = word (k : Int)
          · by_cases hy : dtext (k : Int) av bv = t
            · have hF : Hid (Found t (k : Int) av bv) := Lib.hid (by
                have := s_yes (t := t) (w0 := w0) (w1 := w1) (w2 := x2) (k := (k : Int)) ⟨by omega, by omega⟩ (by simpa using d0.out) hx (by rw [eA.out, eB.out]; exact hy)
                rw [eA.out, eB.out] at this
                exact this)
              rw [hy] at hdt
              have HDT := Lib.hid hdt
              rw [← hx] at tcn
              clear hdt hy hx
              refine region_after (by kernel_rfl) (by kernel_rfl) ?_
              repeat (go_big_quiet_step (first | (go_at_call 11; exact After.call _ (HDT.out _))))
              refine wpQuiet_nil ?_
              rintro _ ⟨x9, rfl⟩
              have hbt := x9.h
              generalize x9.to = w9 at hbt ⊢
              clear x9 tc0 tcn tr1 tr2
              have K9 := Lib.hid (KB.out.below hbt lB)
              have R9 := Lib.hid (KRB.out.below hbt (by omega))
              have B9 := Lib.hid (((B7.out.trans (HBr.out.mono B7.out.size)).trans (BB.out.mono (by have := B7.out.size; omega))).trans (hbt.mono (by have := B7.out.size; omega)))
              go_wp2_with (first
                | refine wpList_load_row rfl _ _ rfl wr.heap.size rfl 31 (ivs .i64 [(k : Int), av, bv]) (0, 0) _ K9.out Tryd.underlying31 rfl (by rw [ivs_size]; exact size31) ?_
                | refine wpList_store_row rfl _ _ _ rfl w.heap.size (ivs .i64 [(k : Int), av, bv]) rfl rfl 31 _ R9.out (by rw [ivs_size]; exact size31) (by simp [ivs_size]) ivs_one ?_)
              exact bodyPost_ret (results_row_tmpD rfl _ _ w.heap.size 31 (ivs .i64 [(k : Int), av, bv]) (0, 0) _ rfl (R9.out.row _) Tryd.underlying31 rfl (by rw [ivs_size]; exact size31)) rfl ⟨⟨_, _, _, 0, .inl ⟨hF.out, rfl⟩, rfl⟩, below_setRow B9.out (Nat.le_refl _) _⟩
            · have hno2 : Hid (∀ j : Nat, 1 ≤ j → j < k + 1 → ¬ (w0 = word j ∧ dtext j (sA j w1) (sB j x2) = t)) := Lib.hid (fun j h1 h2 ⟨e1, e2⟩ => by
                by_cases e : j = k
                · subst e; rw [eA.out, eB.out] at e2; exact hy e2
                · exact hno.out j h1 (by omega) ⟨e1, e2⟩)
              have HDT := Lib.hid hdt
              have hyb : ((dtext (k : Int) av bv).toList == t.toList) = false := beq_eq_false_iff_ne.2 fun e => hy (ba_inj e)
              rw [← hx] at tcn
              clear hdt hx hy hno
              generalize dtext (k : Int) av bv = dtx at *
              refine region_after (by kernel_rfl) (by kernel_rfl) ?_
              repeat (go_big_quiet_step (first | (go_at_call 11; exact After.call _ (HDT.out _))))
              refine wpQuiet_nil ?_
              rintro _ ⟨x9, rfl⟩
              have hbt := x9.h
              generalize x9.to = w9 at hbt ⊢
              clear x9 tc0 tcn tr1 tr2
              have R9 := Lib.hid (KRB.out.below hbt (by omega))
              have B9 := Lib.hid ((HBr.out.trans (BB.out.mono hzr)).trans (hbt.mono (by omega)))
              go_wp2
              exact ⟨⟨k + 1, by omega, by omega, by go_num, hno2, R9.out, B9.out⟩, by simp [intOf]; omega⟩
          · have hno2 : Hid (∀ j : Nat, 1 ≤ j → j < k + 1 → ¬ (w0 = word j ∧ dtext j (sA j w1) (sB j x2) = t)) := Lib.hid (fun j h1 h2 ⟨e1, e2⟩ => by
              by_cases e : j = k
              · subst e; exact hx e1
              · exact hno.out j h1 (by omega) ⟨e1, e2⟩)
            have hxb : (w0.toList == (word (k : Int)).toList) = false := beq_eq_false_iff_ne.2 fun e => hx (ba_inj e)
            clear hdt hx hno
            generalize word (k : Int) = wk at *
            refine region_after (by kernel_rfl) (by kernel_rfl) ?_
            repeat (go_big_quiet_step (fail))
            refine wpQuiet_nil ?_
            rintro _ ⟨x9, rfl⟩
            have hbt := x9.h
            generalize x9.to = w9 at hbt ⊢
            clear x9 tc0 tcn tr1 tr2
            have R9 := Lib.hid (KRB.out.below hbt (by omega))
            have B9 := Lib.hid ((HBr.out.trans (BB.out.mono hzr)).trans (hbt.mono (by omega)))
            go_wp2
            exact ⟨⟨k + 1, by omega, by omega, by go_num, hno2, R9.out, B9.out⟩, by simp [intOf]; omega⟩
      · obtain rfl : k = 10 := by omega
        have hnone : Hid (∀ a b c : Int, ¬ Found t a b c) := Lib.hid (fun a b c h => by
          obtain ⟨⟨k1, k9⟩, _⟩ := deedB_parts h.1
          obtain ⟨e1, e2⟩ := s_no h (w0 := w0) (w1 := w1) (w2 := x2) (by simpa using d0.out) d1.out d2.out
          have := hno.out a.toNat (by omega) (by omega)
          rw [show ((a.toNat : Nat) : Int) = a by omega] at this
          exact this ⟨e1, e2⟩)
        go_wp2_with (refine wpList_store_row rfl _ _ _ rfl w.heap.size (ivs .i64 [0, 0, 0]) rfl rfl 31 _ HR.out (by rw [ivs_size]; exact size31) (by simp [ivs_size]) ivs_one ?_)
        exact bodyPost_ret (results_row_tmpD rfl _ _ w.heap.size 31 (ivs .i64 [0, 0, 0]) (0, 0) _ rfl (HR.out.row _) Tryd.underlying31 rfl (by rw [ivs_size]; exact size31)) rfl ⟨⟨0, 0, 0, 5, .inr ⟨hnone.out, rfl, rfl, rfl, rfl⟩, rfl⟩, below_setRow (B7.out.trans (HBr.out.mono B7.out.size)) (Nat.le_refl _) _⟩
  · have h40' : (40 : Int) < t.size := by omega
    go_enter Tryd.func14, Tryd.ntmps14
    go_wp2_with (refine wpList_store_row rfl _ _ _ rfl w.heap.size (ivs .i64 [0, 0, 0]) rfl rfl 31 _ r1 (by rw [ivs_size]; exact size31) (by simp [ivs_size]) ivs_one ?_)
    exact bodyPost_ret (results_row_tmpD rfl _ _ w.heap.size 31 (ivs .i64 [0, 0, 0]) (0, 0) _ rfl (r1.row _) Tryd.underlying31 rfl (by rw [ivs_size]; exact size31)) rfl ⟨⟨0, 0, 0, 5, .inr ⟨fun k a b h => h40 (found_size h), rfl, rfl, rfl, rfl⟩, rfl⟩, below_setRow b1 (by omega) _⟩
end Go.Proofs.YtfjfiljgbkhblaaDoor
