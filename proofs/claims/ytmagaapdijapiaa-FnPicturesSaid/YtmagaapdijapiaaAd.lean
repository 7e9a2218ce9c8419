/- A mask joined at a corner: the reference's walk. -/
import Derived.Test.YtmagaapdijapiaaRows
import Derived.Test.YtmagaapdijapiaaPb
import Derived.StillTailTactics
namespace Go.Proofs.Ytmagaapdijapiaa
open Go.ChangeShapes Go.WideShapes Go.ChangeAt Go.RowKit
theorem run_append_zero {P : Program} (t ty e : TypeId) (ht : P.underlying t = some (.slice e)) {i : TypeInfo} (hi : P.info? e = some i) (g0 : Option Addr) (k cap : Nat) (hk : k ≤ cap) (A : Option Addr) (c : Nat) (w : World) :
    (Builtin.append_ #[t, t] ty #[.slice g0 k cap, .slice A 0 c]).run P w = .ok (.slice g0 k cap) w := by
  cases A <;> cases g0 <;> simp [Builtin.append_, run_underlying ht, Builtin.lenOf, Builtin.firstCells, run_sizeOf (P := P) (w := w) hi, hk, Result.andThen, loadCells, loadCellsFrom, storeCells]
/-- a slice is copied behind an empty one -/
theorem wpList_append_copy {P : Program} {w : World} {ops : Array Oper} {rest : List Oper} {o : Oper} {a : Act} {Q : Exit → Act → World → Prop} (hgd : o.guard = none) (s x : Operand) (t : TypeId)
    (ho : o.op = .call { callee := .builtin .append, args := #[s, x], argTypes := #[t, t] })
    (base : Nat) (e : TypeId) (i : TypeInfo) (z : Value) (size bytes : Nat) (ht : P.underlying t = some (.slice e)) (hi : P.info? e = some i) (hz : i.zero = some z)
    (hsize : i.size = size) (hby : i.bytes = bytes) (hzs : z.cells.size = size) (hsz : 0 < size)
    (g0 cap0 : Nat) (hs : a.eval s = .slice (some ⟨g0, 0, none⟩) 0 cap0) (hown : w.ownsRow base e size (.slice (some ⟨g0, 0, none⟩) 0 cap0) 0 [])
    (A : Option Addr) (n c B : Nat) (xs : List Value) (hx : a.eval x = .slice A n c) (hR : Rd w B size A n xs) (h1 : ∀ u ∈ xs, u.oneCell' = true)
    (h63 : n ≤ maxLen) (hbytes : n * bytes ≤ 140737488355328) (hbase : base ≤ w.heap.size)
    (h : ∀ g c' w', w'.ownsRow base e size (.slice (some ⟨g, 0, none⟩) n c') n xs → w.grownBy w' (some g0) → wpList P ops Q rest (a.put o.dst (.slice (some ⟨g, 0, none⟩) n c')) w') : wpList P ops Q (o :: rest) a w := by
  by_cases hn : n = 0
  · subst hn
    have hxs : xs = [] := List.eq_nil_of_length_eq_zero (by have := hR.1; omega)
    subst hxs
    refine wpList_plain hgd fun K hK => ?_
    have hrun := run_append_zero t o.type e ht hi (some ⟨g0, 0, none⟩) 0 cap0 (Nat.zero_le _) A c w
    have hh := hK _ _ (h g0 cap0 w hown (World.grownBy.refl _ _))
    unfold Oper.wp
    simp [execOp, ho, resolve, invoke, builtin, hs, hx, hrun, Result.andThen]
    exact hh
  · obtain ⟨b, o', rfl, hb, hc⟩ := hR.at_ (by omega)
    refine wpList_append_own w hgd s x t ho base e i z size bytes ht hi hz hsize hby hzs hsz _ 0 [] hs hown ⟨b, o', none⟩ n c xs hx hR.1 (fun j u hu => by
      have e : (⟨b, o', none⟩ : Addr).add j = ⟨b, o' + j, none⟩ := by unfold Addr.add; split <;> simp_all
      rw [e]
      exact hc j u hu) h1 (by omega) (by rw [Nat.zero_add]; exact hbytes) hbase fun v' w' ho' hg hnil => ?_
    rw [Nat.zero_add, List.nil_append] at ho'
    rcases ho'.2 with ⟨rfl, _⟩ | ⟨g, cap, cur, rfl, h2⟩
    · exact absurd (hnil.1 rfl).1 (by simp)
    · refine h g cap w' ho' ?_
      have hob : (Value.slice (some ⟨g0, 0, none⟩) 0 cap0).ownBlock = some g0 := by simp [Value.ownBlock]
      rwa [hob] at hg
theorem size_cells (g : Nat) : ∀ (vs : List Value) (o : Nat) (w : World), (w.setCells g o vs).heap.size = w.heap.size
  | [], _, _ => rfl
  | v :: vs, o, w => by rw [World.setCells, size_cells g vs, size_setCell]
/-- a block put into a list at a place -/
def ins (l : List Bl) (b : Bl) (j : Nat) : List Bl := l.take j ++ b :: l.drop j
theorem ins_length {l : List Bl} {b : Bl} {j : Nat} (h : j ≤ l.length) : (ins l b j).length = l.length + 1 := by
  rw [ins, List.length_append, List.length_take, List.length_cons, List.length_drop]
  omega
theorem ins_end (l : List Bl) (b : Bl) : ins l b l.length = l ++ [b] := by rw [ins, List.take_length, List.drop_length]
theorem ins_at {l : List Bl} {b : Bl} {j : Nat} (h : j ≤ l.length) : (ins l b j)[j]'(by rw [ins_length h]; omega) = b := by
  simp only [ins]
  rw [List.getElem_append_right (by rw [List.length_take]; omega)]
  simp only [List.length_take]
  have : j - min j l.length = 0 := by omega
  simp [this]
theorem ins_before {l : List Bl} {b : Bl} {j : Nat} (h : j < l.length) : (ins l b (j + 1))[j]'(by rw [ins_length (by omega)]; omega) = l[j] := by
  simp only [ins]
  rw [List.getElem_append_left (by rw [List.length_take]; omega), List.getElem_take]
theorem ins_swap {l : List Bl} {b : Bl} {j : Nat} (h : j < l.length) : ((ins l b (j + 1)).set (j + 1) l[j]).set j b = ins l b j := by
  apply List.ext_getElem?
  intro i
  have hl : (l.take (j + 1)).length = j + 1 := by rw [List.length_take]; omega
  have hl2 : (l.take j).length = j := by rw [List.length_take]; omega
  rw [List.getElem?_set, List.getElem?_set, List.length_set, ins_length (by omega)]
  by_cases h1 : j = i
  · subst h1
    rw [if_pos rfl, if_pos (by omega), ins, List.getElem?_append_right (by omega), hl2, Nat.sub_self]
    rfl
  · rw [if_neg h1]
    by_cases h2 : j + 1 = i
    · subst h2
      rw [if_pos rfl, if_pos (by omega), ins, List.getElem?_append_right (by omega), hl2, show j + 1 - j = 1 by omega, List.drop_eq_getElem_cons h]
      rfl
    · rw [if_neg h2, ins, ins]
      by_cases h3 : i < j
      · rw [List.getElem?_append_left (by omega), List.getElem?_append_left (by omega), List.getElem?_take_of_lt (by omega), List.getElem?_take_of_lt (by omega)]
      · rw [List.getElem?_append_right (by omega), List.getElem?_append_right (by omega), hl, hl2, show i - (j + 1) = (i - (j + 2)) + 1 by omega, show i - j = (i - (j + 2)) + 1 + 1 by omega, List.getElem?_cons_succ, List.getElem?_cons_succ, List.getElem?_drop, List.getElem?_drop]
        congr 1
        omega
theorem ins_bls {l : List Bl} (h : Bls l) {b : Bl} (hb : b.1.length = 2 ∧ b.2.length = 16) (j : Nat) : Bls (ins l b j) := fun c hc => by
  rcases List.mem_append.1 hc with hc | hc
  · exact h c (List.mem_of_mem_take hc)
  · rcases List.mem_cons.1 hc with rfl | hc
    · exact hb
    · exact h c (List.mem_of_mem_drop hc)
/-- a store of a whole row, under a word that simp does not open -/
def stRow (ty : TypeId) (p v : Value) : Sem Next := do Instr.storeAt ty p v; pure .skip
theorem exec_stMask (ρ : Operand → Value) (dst : Option Tmp) (x y : Operand) (t : TypeId) (pos : String) (after : Array Edge) (guard : Option (Nat × Bool)) :
    execOp ρ { dst := dst, op := .store 76 x y, type := t, pos := pos, after := after, guard := guard } = stRow 76 (ρ x) (ρ y) := rfl
/-- a row of numbers that may be written at a place -/
def Fits (W : World) (g o : Nat) (R : List Int) : Prop := R.length = 16 ∧ W.there g o 16
theorem run_stMask (W : World) (g o : Nat) (R : List Int) (h : Fits W g o R) : (stRow 76 (.pointer (some ⟨g, o, none⟩)) (.agg (ivs .u16 R))).run Try.prog W = .ok .skip (W.setCells g o (ivs .u16 R).toList) := by
  obtain ⟨h1, h2⟩ := h
  have hs : (ivs .u16 R).size = 16 := by rw [ivs_size, h1]
  have := run_storeAt_mid (P := Try.prog) W g o 76 (ivs .u16 R) (by rw [hs]; exact h2) (by rw [hs]; exact size76) ivs_one
  unfold stRow
  rw [Sem.run_bind, this]
  rfl
def GivesAdd (A0 : Option Addr) (c0 : Nat) (l : List Bl) (key M : List Int) (w : World) (e : Ending) (w' : World) : Prop :=
  ∃ A c l', e = .returned (.slice A l'.length c) ∧ Added l key M l' ∧ ((A = A0 ∧ c = c0 ∧ l' = l) ∨ Own w' w.heap.size w'.heap.size 78 18 A l'.length c (bcs l')) ∧ Below w.heap.size w w'
section
attribute [local go_sem ↓] exec_ldCorner exec_ldMask exec_stMask
attribute [local go_sem] run_ldCorner run_ldMask run_stMask
set_option maxRecDepth 20000 in
set_option maxHeartbeats 6400000 in
theorem l07Add_any (A : Option Addr) (n c : Nat) (l : List Bl) (hl : l.length = n) (hp : Pic l) (hn : n ≤ 1048576) (X Y : Int) (M : List Int) (hM : M.length = 16) (h16 : is16 M) (w : World) (hR : Rd w w.heap.size 18 A n (bcs l)) :
    Calls Try.prog 63 #[.slice A n c, .agg #[.int .i32 X, .int .i32 Y], .agg (ivs .u16 M)] w (GivesAdd A c l [X, Y] M w) := by
  obtain ⟨i0, hi, hz0, hz1, hz2⟩ := info_parts Block_info
  have b1 : Below w.heap.size w ((w.alloc (.cells #[.int .i32 X, .int .i32 Y] 63)).alloc (.cells (ivs .u16 M) 76)) := ((Below.refl _ _).alloc (Nat.le_refl _) _).alloc (by simp) _
  have k0 : Blk ((w.alloc (.cells #[.int .i32 X, .int .i32 Y] 63)).alloc (.cells (ivs .u16 M) 76)) w.heap.size 63 #[.int .i32 X, .int .i32 Y] := (Blk.newAt rfl rfl).alloc _
  have k1 : Blk ((w.alloc (.cells #[.int .i32 X, .int .i32 Y] 63)).alloc (.cells (ivs .u16 M) 76)) (w.heap.size + 1) 76 (ivs .u16 M) := Blk.newAt (by simp) rfl
  have HE := Lib.hid (l07Empty_any (w.heap.size + 1) 0 M hM _ k1.range0)
  have B1 := Lib.hid b1
  have K0 := Lib.hid k0
  have K1 := Lib.hid k1
  have HP := Lib.hid hp
  have HL := Lib.hid hl
  have HM := Lib.hid hM
  have HM16 := Lib.hid h16
  have HR := Lib.hid hR
  clear b1 k0 k1 hp hl hM h16 hR
  cases hem : emptyM M
  · have HNE : Hid (M ≠ zr16) := Lib.hid (fun e => by rw [emptyM_iff.2 e] at hem; cases hem)
    rw [hem] at HE
    clear hem
    have hz1' : ((w.alloc (.cells #[.int .i32 X, .int .i32 Y] 63)).alloc (.cells (ivs .u16 M) 76)).heap.size = w.heap.size + 1 + 1 := by simp only [size_alloc]
    have how : (((w.alloc (.cells #[.int .i32 X, .int .i32 Y] 63)).alloc (.cells (ivs .u16 M) 76)).alloc (.cells #[] 78)).ownsRow (w.heap.size + 1 + 1) 78 18 (.slice (some ⟨w.heap.size + 1 + 1, 0, none⟩) 0 0) 0 [] := by
      have := World.ownsRow_lit (e := 78) (base := w.heap.size + 1 + 1) (size := 18) ((w.alloc (.cells #[.int .i32 X, .int .i32 Y] 63)).alloc (.cells (ivs .u16 M) 76)) #[] 0 (by rw [hz1']; exact Nat.le_refl _) (by unfold maxLen; omega) rfl
      rwa [hz1'] at this
    have HOW := Lib.hid how
    have HSZ : Hid (w.heap.size + 1 + 1 ≤ (((w.alloc (.cells #[.int .i32 X, .int .i32 Y] 63)).alloc (.cells (ivs .u16 M) 76)).alloc (.cells #[] 78)).heap.size) := Lib.hid (by rw [size_alloc, hz1']; omega)
    have HR2 : Hid (Rd (((w.alloc (.cells #[.int .i32 X, .int .i32 Y] 63)).alloc (.cells (ivs .u16 M) 76)).alloc (.cells #[] 78)) w.heap.size 18 A n (bcs l)) := Lib.hid ((HR.out.below B1.out (Nat.le_refl _)).alloc (by rw [hz1']; omega) _)
    have B2 : Hid (Below w.heap.size w (((w.alloc (.cells #[.int .i32 X, .int .i32 Y] 63)).alloc (.cells (ivs .u16 M) 76)).alloc (.cells #[] 78))) := Lib.hid (B1.out.alloc (by rw [hz1']; omega) _)
    have K02 := Lib.hid (K0.out.alloc (.cells #[] 78))
    have K12 := Lib.hid (K1.out.alloc (.cells #[] 78))
    clear how hz1' K0 K1 B1 HR
    go_enter Try.func63, Try.ntmps63
    go_wp2_with (first
      | (go_at_call 86; refine HE.out.mono ?_; rintro e w2 ⟨rfl, rfl⟩)
      | (at_builtin; (refine wpList_append_copy rfl _ _ 27 rfl (w.heap.size + 1 + 1) 78 i0 _ 18 40 Try.underlying27 hi hz0 hz1 hz2 rfl (by decide) (w.heap.size + 1 + 1) 0 rfl HOW.out A n c w.heap.size (bcs l) rfl HR2.out (bcs_one l) (by unfold maxLen; omega) (by omega) HSZ.out ?_); intro g cc w7 hown7 hgrow7; have O7 := Lib.hid hown7; have G7 := Lib.hid hgrow7; clear hown7 hgrow7))
    have k07 := K02.out.grown G7.out (fun e => by injection e with e; omega)
    have k17 := K12.out.grown G7.out (fun e => by injection e with e; omega)
    have b7 := B2.out.grown G7.out (by have := HSZ.out; omega) (fun j e => by injection e with e; omega)
    have z7 : w.heap.size + 1 + 1 ≤ w7.heap.size := Nat.le_trans HSZ.out G7.out.size
    obtain ⟨A7, c7, hve, o7⟩ := Own.of_row O7.out
    cases hve
    have L0 := Lib.hid (And.intro o7 (And.intro k07 (And.intro k17 b7)))
    clear O7 G7 HOW HSZ HR2 B2 K02 K12 HE k07 k17 b7 o7
    go_loopw [8] (fun i wr => ∃ k : Nat, k ≤ n ∧ i = .int .i64 k ∧ Hid (∀ b ∈ l.take k, [X, Y] ≠ b.1) ∧ Hid (Own wr (w.heap.size + 1 + 1) wr.heap.size 78 18 (some ⟨g, 0, none⟩) n cc (bcs l)) ∧ Hid (Blk wr w.heap.size 63 #[.int .i32 X, .int .i32 Y]) ∧ Hid (Blk wr (w.heap.size + 1) 76 (ivs .u16 M)) ∧ Hid (Below w.heap.size w wr)) (fun i _ => n - (intOf i).toNat)
    case atStart => exact ⟨0, by omega, rfl, Lib.hid (fun b hb => by simp at hb), Lib.hid L0.out.1, Lib.hid L0.out.2.1, Lib.hid L0.out.2.2.1, Lib.hid L0.out.2.2.2⟩
    case round =>
      clear L0
      obtain ⟨k, hk, rfl, HNO, HO, HK0, HK1, HB⟩ := hrel
      by_cases hlt : k < n
      · have hkl : k < l.length := by have := HL.out; omega
        have hkI : (k : Int) < n := by omega
        have hk0 : (0 : Int) ≤ k := by omega
        have hF1 := HP.out.bls.at_ hkl
        have hF16 := HP.out.m16 _ (List.getElem_mem hkl)
        have hA := own_corner HO.out HP.out.bls hkl
        have hMr := own_mask HO.out HP.out.bls hkl
        have hset := bcs_set_mask HP.out.bls hkl (M := opM orF (l[k]).2 M) (opM_length hF1.2 HM.out)
        have hadd := fun e : [X, Y] = (l[k]).1 => (show Added l [X, Y] M (l.set k ((l[k]).1, opM orF (l[k]).2 M)) by rw [e]; exact added_set HP.out HM.out HM16.out hkl)
        have hbl : Bls (l.set k ((l[k]).1, opM orF (l[k]).2 M)) := fun b hb => by
          rcases List.mem_or_eq_of_mem_set hb with h | rfl
          · exact HP.out.bls b h
          · exact ⟨hF1.1, opM_length hF1.2 HM.out⟩
        have hslen : (l.set k ((l[k]).1, opM orF (l[k]).2 M)).length = n := by rw [List.length_set, HL.out]
        have hne : [X, Y] ≠ (l[k]).1 → ∀ b ∈ l.take (k + 1), [X, Y] ≠ b.1 := fun h b hb => by
          rw [List.take_succ_eq_append_getElem hkl, List.mem_append, List.mem_singleton] at hb
          rcases hb with hb | rfl
          · exact HNO.out b hb
          · exact h
        obtain ⟨S, hS⟩ : ∃ S, S = l.set k ((l[k]).1, opM orF (l[k]).2 M) := ⟨_, rfl⟩
        rw [← hS] at hset hadd hbl hslen
        clear hS
        obtain ⟨⟨C, F⟩, hF⟩ : ∃ F, F = l[k] := ⟨_, rfl⟩
        rw [← hF] at hF1 hF16 hA hMr hset hadd hne
        obtain ⟨P, Q, rfl⟩ : ∃ P Q, C = [P, Q] := ⟨_, _, two_of hF1.1⟩
        clear hF
        have HADD := Lib.hid hadd
        have HNE := Lib.hid hne
        have HSET := Lib.hid hset
        have HSL := Lib.hid hslen
        have HF2 := Lib.hid hF1.2
        have heq := fun W : World => run_equal_corner [P, Q] [X, Y] rfl rfl W
        have hbe : ([P, Q] == [X, Y]) = decide ([X, Y] = [P, Q]) := by
          rw [Bool.eq_iff_iff, beq_iff_eq, decide_eq_true_iff]
          exact eq_comm
        rw [hbe] at heq
        have rA : wr.drew.rangeAt g (k * 18) [.int .i32 P, .int .i32 Q] := hA
        obtain ⟨r1, r3⟩ : rowAt wr.drew g (k * 18) 2 = #[.int .i32 P, .int .i32 Q] ∧ hasRow wr.drew g (k * 18) 2 = true := rowAt_vals (W := wr.drew) rA
        obtain ⟨r2, r4⟩ : rowAt wr.drew w.heap.size 0 2 = #[.int .i32 X, .int .i32 Y] ∧ hasRow wr.drew w.heap.size 0 2 = true := rowAt_vals (W := wr.drew) (vs := [.int .i32 X, .int .i32 Y]) (HK0.out.rangeV (o := 0) (vs := [.int .i32 X, .int .i32 Y]) (fun j u hu => by rw [Nat.zero_add]; rw [← List.getElem?_toArray] at hu; exact hu))
        have HMR := Lib.hid hMr
        clear hset hadd hne hslen hF1 hA hMr hbe rA hbl
        by_cases he : [X, Y] = [P, Q]
        · have HAD := Lib.hid (HADD.out he)
          have heq' : ∀ W : World, (Op.equalIn 10000 63 (.agg #[.int .i32 P, .int .i32 Q]) (.agg #[.int .i32 X, .int .i32 Y])).run Try.prog W = .ok true W := fun W => by rw [← decide_eq_true he]; exact heq W
          have HJ := Lib.hid (fun W => sJoinMasks_any F M HF2.out HM.out W)
          have HOL := Lib.hid (opM_length (f := orF) HF2.out HM.out)
          clear heq HADD HNE he
          generalize opM orF F M = R at *
          go_wp2_with fail
          go_region_law (go_simp)
          all_goals
            have rM : wr.drew.drew.rangeAt g (k * 18 + 2) (F.map (.int .u16)) := HMR.out
            have rB : wr.drew.drew.rangeAt (w.heap.size + 1) 0 (M.map (.int .u16)) := HK1.out.range0
            obtain ⟨r5, r6⟩ : rowAt wr.drew.drew g (k * 18 + 2) 16 = ivs .u16 F ∧ hasRow wr.drew.drew g (k * 18 + 2) 16 = true := by
              have := rowAt_vals rM
              rwa [List.length_map, HF2.out] at this
            obtain ⟨r7, r8⟩ : rowAt wr.drew.drew (w.heap.size + 1) 0 16 = ivs .u16 M ∧ hasRow wr.drew.drew (w.heap.size + 1) 0 16 = true := by
              have := rowAt_vals rB
              rwa [List.length_map, HM.out] at this
            clear rM rB r1 r2 r3 r4
            go_wp2_with fail
            go_region_law (go_simp; go_at_call 108; refine (HJ.out _).mono ?_; rintro e w6 ⟨rfl, hb6⟩; have B6 := Lib.hid ((below_drew (below_drew HB.out)).trans (hb6.mono HB.out.size)); have O6 := Lib.hid (HO.out.drew.drew.below hb6 (Nat.le_refl _)); have Z6 := Lib.hid hb6.size; have hft : Fits w6 g (k * 18 + 2) R := ⟨HOL.out, O6.out.thereC _ 16 (by omega)⟩; clear hb6)
            all_goals
              go_wp2
              go_ret
              refine ⟨some ⟨g, 0, none⟩, cc, S, by rw [HSL.out]; rfl, HAD.out, .inr ?_, by rw [ivs_toList]; exact below_setCells (by have := O6.out.blk_; omega) _ _ B6.out⟩
              have h := O6.out.setAllC (R.map (.int .u16)) (k * 18 + 2)
              rw [HSET.out] at h
              rw [HSL.out, ivs_toList]
              have hz : (w6.setCells g (k * 18 + 2) (R.map (.int .u16))).heap.size = w6.heap.size := size_cells _ _ _ _
              exact (h.less (by omega)).more (by rw [hz]; exact Z6.out)
        · have heq' : ∀ W : World, (Op.equalIn 10000 63 (.agg #[.int .i32 P, .int .i32 Q]) (.agg #[.int .i32 X, .int .i32 Y])).run Try.prog W = .ok false W := fun W => by rw [← decide_eq_false he]; exact heq W
          have HN5 := Lib.hid (HNE.out he)
          clear heq HADD HNE he HSET HSL
          go_wp2_with fail
          go_region_law (go_simp)
          all_goals
            go_wp2
            exact ⟨⟨k + 1, by omega, by go_num, HN5, Lib.hid HO.out.drew, Lib.hid HK0.out.drew, Lib.hid HK1.out.drew, Lib.hid (below_drew HB.out)⟩, by simp [intOf]; omega⟩
      · obtain rfl : k = n := by omega
        have hno := HNO.out
        rw [List.take_of_length_le (by have := HL.out; omega)] at hno
        have HNO2 := Lib.hid hno
        have hbb : ([X, Y] : List Int).length = 2 ∧ M.length = 16 := ⟨rfl, HM.out⟩
        have HBB := Lib.hid hbb
        have HNW := Lib.hid (block_news wr ([X, Y], M))
        have HOA := Lib.hid (HO.out.row.alloc (.cells (bav ([X, Y], M)) 78))
        have HBA := Lib.hid (HB.out.alloc HB.out.size (.cells (bav ([X, Y], M)) 78))
        have HSA : Hid (w.heap.size + 1 + 1 ≤ (wr.alloc (.cells (bav ([X, Y], M)) 78)).heap.size) := Lib.hid (by have := HK1.out.lt; rw [size_alloc]; omega)
        have hcl : (bcs [(([X, Y], M) : Bl)]).length = 1 * 18 := by rw [bcs_length (bls_one hbb)]; rfl
        have HC0 := Lib.hid HK0.out
        have HC1 := Lib.hid HK1.out
        clear hno HNO hbb
        go_wp2_with (first
          | refine wpList_load_row rfl _ _ rfl w.heap.size rfl 63 #[.int .i32 X, .int .i32 Y] (0, 0) _ HC0.out Try.underlying63 rfl (by exact size63) ?_
          | refine wpList_load_row rfl _ _ rfl (w.heap.size + 1) rfl 76 (ivs .u16 M) (0, 0) _ HC1.out Try.underlying76 rfl (by rw [ivs_size, HM.out]; exact size76) ?_
          | refine wpList_build_block rfl _ _ rfl X Y M HM.out rfl rfl ?_
          | refine wpList_buildSlice_block rfl 27 78 _ rfl Try.underlying27 hi hz0 hz1 ([X, Y], M) HBB.out rfl ?_
          | (at_builtin; refine wpList_append_own _ rfl _ _ 27 rfl (w.heap.size + 1 + 1) 78 i0 _ 18 40 Try.underlying27 hi hz0 hz1 hz2 rfl (by decide) (.slice (some ⟨g, 0, none⟩) k cc) k _ rfl HOA.out ⟨wr.heap.size, 0, none⟩ 1 1 (bcs [([X, Y], M)]) rfl hcl HNW.out (bcs_one _) (by unfold maxLen; omega) (by omega) HSA.out ?_; intro v8 w8 hown8 hgrow8 hnil8; rw [← bcs_append] at hown8; obtain ⟨g8, c8, rfl⟩ := own_some hown8 (by omega); have HO8 := Lib.hid hown8; have HG8 := Lib.hid hgrow8; have HN8 := Lib.hid hnil8; clear hown8 hgrow8 hnil8))
        have hB8 := HBA.out.grown HG8.out HBA.out.size (fun j e => by have := (HOA.out.lt _ e).1; omega)
        have hz8 : w.heap.size + 1 + 1 ≤ w8.heap.size := Nat.le_trans HSA.out HG8.out.size
        obtain ⟨A8, c8', hv8, hO8⟩ := Own.of_row HO8.out
        cases hv8
        have hl8 := HL.out
        have he8 : l ++ [([X, Y], M)] = ins l ([X, Y], M) k := by rw [← hl8, ins_end]
        rw [he8] at hO8
        have L8 := Lib.hid (And.intro hO8 hB8)
        clear hO8 hB8 HO8 HG8 HN8 HBA HOA HNW HC0 HC1 HK0 HK1 HO HB he8 hl8
        go_loopw [9] (fun i wr => ∃ j : Nat, j ≤ k ∧ i = .int .i64 j ∧ Hid (∀ c ∈ l.drop j, ltC ([X, Y], M) c) ∧ Hid (Own wr (w.heap.size + 1 + 1) wr.heap.size 78 18 (some ⟨g8, 0, none⟩) (k + 1) c8 (bcs (ins l ([X, Y], M) j))) ∧ Hid (Below w.heap.size w wr)) (fun i _ => (intOf i).toNat)
        case atStart => exact ⟨k, Nat.le_refl _, by go_num, Lib.hid (fun c hc => by rw [List.drop_of_length_le (by have := HL.out; omega)] at hc; cases hc), Lib.hid L8.out.1, Lib.hid L8.out.2⟩
        case round =>
          clear L8
          obtain ⟨j, hjk, rfl, HUP, HO, HB⟩ := hrel
          cases j with
          | zero =>
            have HFIN : Hid (Added l [X, Y] M (ins l ([X, Y], M) 0)) := Lib.hid (added_ins HP.out rfl HM.out HM16.out HNE.out HNO2.out (Nat.zero_le _) HUP.out (fun h => by omega))
            have HLEN : Hid ((ins l ([X, Y], M) 0).length = k + 1) := Lib.hid (by rw [ins_length (Nat.zero_le _), HL.out])
            clear HUP HNO2
            go_wp2_with fail
            refine region_after (by kernel_rfl) (by kernel_rfl) ?_
            repeat (go_big_quiet_step (fail))
            refine wpQuiet_nil ?_
            rintro _ ⟨t, rfl⟩
            go_wp2
            go_ret
            exact ⟨some ⟨g8, 0, none⟩, c8, _, by rw [HLEN.out]; rfl, HFIN.out, .inr (by rw [HLEN.out]; exact ((HO.out.below t.h (Nat.le_refl _)).more t.h.size).less (by omega)), HB.out.trans (t.h.mono HB.out.size)⟩
          | succ q =>
            have hql : q < l.length := by have := HL.out; omega
            have hIl := ins_length (l := l) (b := ([X, Y], M)) (j := q + 1) (by omega)
            have hIb := ins_bls (b := ([X, Y], M)) HP.out.bls HBB.out (q + 1)
            have hA1 := own_corner HO.out hIb (k := q + 1) (by omega)
            rw [ins_at (by omega)] at hA1
            have hA0 := own_corner HO.out hIb (k := q) (by omega)
            rw [ins_before hql] at hA0
            have hb0 := own_block HO.out hIb (k := q) (by omega)
            rw [ins_before hql] at hb0
            have hb1 := own_block HO.out hIb (k := q + 1) (by omega)
            rw [ins_at (by omega)] at hb1
            have hs1 := bcs_set_whole (b := l[q]) hIb (k := q + 1) (by omega) (HP.out.bls.at_ hql)
            have hs1b : Bls ((ins l ([X, Y], M) (q + 1)).set (q + 1) l[q]) := fun c hc => by
              rcases List.mem_or_eq_of_mem_set hc with h | rfl
              · exact hIb c h
              · exact HP.out.bls.at_ hql
            have hs2 := bcs_set_whole (b := ([X, Y], M)) hs1b (k := q) (by rw [List.length_set]; omega) HBB.out
            rw [ins_swap hql] at hs2
            have hne := HNO2.out l[q] (List.getElem_mem hql)
            have hlt := befB_iff ([X, Y], M) l[q]
            have hbe : befB ([X, Y], M) l[q] = decide (cmpC X Y ((l[q]).1.getD 0 0) ((l[q]).1.getD 1 0) < 0) := rfl
            have htot : ¬ ltC ([X, Y], M) l[q] → ltC l[q] ([X, Y], M) := fun h => by
              have h2 := two_of (HP.out.bls.at_ hql).1
              unfold ltC at *
              simp only [List.getD_cons_zero, List.getD_cons_succ] at *
              have : ¬ ((l[q]).1.getD 0 0 = X ∧ (l[q]).1.getD 1 0 = Y) := fun ⟨e1, e2⟩ => hne (by rw [h2, e1, e2])
              omega
            have hup : ltC ([X, Y], M) l[q] → ∀ c ∈ l.drop q, ltC ([X, Y], M) c := fun h c hc => by
              rw [List.drop_eq_getElem_cons hql] at hc
              rcases List.mem_cons.1 hc with rfl | hc
              · exact h
              · exact HUP.out c hc
            have hfin : ¬ ltC ([X, Y], M) l[q] → Added l [X, Y] M (ins l ([X, Y], M) (q + 1)) := fun h => added_ins HP.out rfl HM.out HM16.out HNE.out HNO2.out (by omega) HUP.out (fun _ => by
              simp only [Nat.add_sub_cancel]
              exact htot h)
            obtain ⟨⟨C, F⟩, hF⟩ : ∃ F, F = l[q] := ⟨_, rfl⟩
            have hC2 := HP.out.bls.at_ hql
            rw [← hF] at hA0 hb0 hs1 hs2 hlt hbe hup hfin hC2
            obtain ⟨P, Q, rfl⟩ : ∃ P Q, C = [P, Q] := ⟨_, _, two_of hC2.1⟩
            have rA1 : wr.rangeAt g8 ((q + 1) * 18) [.int .i32 X, .int .i32 Y] := hA1
            have rA0 : wr.rangeAt g8 (q * 18) [.int .i32 P, .int .i32 Q] := hA0
            have hgw : g8 < wr.heap.size := HO.out.blk_.2
            have tA1 : ∀ t : After wr, rowAt t.to g8 ((q + 1) * 18) 2 = #[.int .i32 X, .int .i32 Y] := fun t => (t.row hgw rA1).1
            have tB1 : ∀ t : After wr, hasRow t.to g8 ((q + 1) * 18) 2 = true := fun t => (t.row hgw rA1).2
            have tA0 : ∀ t : After wr, rowAt t.to g8 (q * 18) 2 = #[.int .i32 P, .int .i32 Q] := fun t => (t.row hgw rA0).1
            have tB0 : ∀ t : After wr, hasRow t.to g8 (q * 18) 2 = true := fun t => (t.row hgw rA0).2
            have HCB := Lib.hid (fun W => l07Before_any X Y P Q W)
            have hbe' : befB ([X, Y], M) ([P, Q], F) = decide (cmpC X Y P Q < 0) := hbe
            have hq0 : (0 : Int) ≤ q := by omega
            have hqk : (q : Int) + 1 < (k : Int) + 1 := by omega
            have HB0 := Lib.hid hb0
            have HB1 := Lib.hid hb1
            have HS1 := Lib.hid hs1
            have HS2 := Lib.hid hs2
            have HUPQ := Lib.hid hup
            have HFINQ := Lib.hid hfin
            have HLT := Lib.hid hlt
            have HC2 := Lib.hid hC2
            have HIL := Lib.hid hIl
            clear hIl hIb hA1 hA0 hb0 hb1 hs1 hs1b hs2 hne hlt hbe htot hup hfin hF hC2 rA1 rA0 HUP
            have hcb := HCB.out
            cases hbf : decide (cmpC X Y P Q < 0)
            · rw [hbf] at hcb hbe'
              have HF2 := Lib.hid (HFINQ.out (fun h => by have := HLT.out.2 h; rw [hbe'] at this; cases this))
              clear hbf hbe' HLT HFINQ HUPQ HS1 HS2 HB0 HB1 HCB
              go_wp2_with fail
              refine region_after (by kernel_rfl) (by kernel_rfl) ?_
              repeat (go_big_quiet_step (first | (go_at_call 88; exact After.call _ (hcb _))))
              refine wpQuiet_nil ?_
              rintro _ ⟨t, rfl⟩
              go_wp2
              go_ret
              exact ⟨some ⟨g8, 0, none⟩, c8, _, by rw [HIL.out, HL.out]; rfl, HF2.out, .inr (by rw [HIL.out, HL.out]; exact ((HO.out.below t.h (Nat.le_refl _)).more t.h.size).less (by omega)), HB.out.trans (t.h.mono HB.out.size)⟩
            · rw [hbf] at hcb hbe'
              have HU2 := Lib.hid (HUPQ.out (HLT.out.1 hbe'))
              clear hbf hbe' HLT HFINQ HUPQ HCB
              go_wp2_with fail
              refine region_after (by kernel_rfl) (by kernel_rfl) ?_
              repeat (go_big_quiet_step (first | (go_at_call 88; exact After.call _ (hcb _))))
              refine wpQuiet_nil ?_
              rintro _ ⟨t, rfl⟩
              have HOT := Lib.hid ((HO.out.below t.h (Nat.le_refl _)).more t.h.size)
              have HBT := Lib.hid (HB.out.trans (t.h.mono HB.out.size))
              have HRA := Lib.hid (range_of_below HB1.out t.h hgw)
              have HRB := Lib.hid (range_of_below HB0.out t.h hgw)
              clear tA1 tB1 tA0 tB0 HO HB HB0 HB1 hgw hcb
              generalize t.to = w6 at *
              clear t
              have hz6 : w.heap.size + 1 + 1 ≤ w6.heap.size := by have := HOT.out.blk_; omega
              have HBS : Hid ((bav ([X, Y], M)).size = 18) := Lib.hid (bav_size (b := ([X, Y], M)) HBB.out)
              have HBS2 : Hid ((bav ([P, Q], F)).size = 18) := Lib.hid (bav_size (b := ([P, Q], F)) HC2.out)
              have HBZ : Hid ((bav (zr2, zr16)).size = 18) := Lib.hid rfl
              have HBL : Hid ((bvs ([X, Y], M)).length = 18) := Lib.hid (bvs_length (b := ([X, Y], M)) HBB.out)
              have HBL2 : Hid ((bvs ([P, Q], F)).length = 18) := Lib.hid (bvs_length (b := ([P, Q], F)) HC2.out)
              go_wp2_with (first
                | refine wpList_load_mid rfl _ _ rfl g8 ((q + 1) * 18) (by rfl) (bvs ([X, Y], M)) _ HRA.out Try.underlying78 rfl (by rw [HBL.out]; exact size78) ?_
                | (refine wpList_store_row rfl _ _ _ rfl w6.heap.size (bav ([X, Y], M)) rfl rfl 78 (bav (zr2, zr16)) (Blk.newAt rfl rfl) (by rw [HBS.out]; exact size78) (by rw [HBS.out, HBZ.out]) (bav_one _) ?_; generalize hw7 : World.setRow _ _ _ = w7; have G7 : Hid (Blk w7 w6.heap.size 78 (bav ([X, Y], M))) := Lib.hid (by rw [← hw7]; exact (Blk.newAt rfl rfl).row _); have B7r : Hid (Below w6.heap.size w6 w7) := Lib.hid (by rw [← hw7]; exact below_setRow ((Below.refl _ _).alloc (Nat.le_refl _) _) (g := w6.heap.size) (Nat.le_refl _) _); have O7 := Lib.hid ((HOT.out.below B7r.out (Nat.le_refl _)).more B7r.out.size); have B7 := Lib.hid (HBT.out.trans (B7r.out.mono HBT.out.size)); have HR7 := Lib.hid (range_of_below HRB.out B7r.out HOT.out.blk_.2); have HGN : Hid (w6.heap.size ≠ g8) := Lib.hid (by have := HOT.out.blk_; omega); clear hw7)
                | refine wpList_load_mid rfl _ _ rfl g8 (q * 18) (by rfl) (bvs ([P, Q], F)) _ HR7.out Try.underlying78 rfl (by rw [HBL2.out]; exact size78) ?_
                | (refine wpList_store_mid rfl _ _ _ rfl g8 ((q + 1) * 18) (bav ([P, Q], F)) (by rfl) rfl (by rw [HBS2.out]; exact O7.out.thereC _ 18 (by omega)) (by rw [HBS2.out]; exact size78) (bav_one _) ?_; rw [bav_toList]; have O8 := Lib.hid (O7.out.setAllC (bvs ([P, Q], F)) ((q + 1) * 18)); have B8 := Lib.hid (below_setCells (g := g8) (by have := O7.out.blk_; omega) (bvs ([P, Q], F)) ((q + 1) * 18) B7.out); have G8 := Lib.hid (Blk.setCells_far HGN.out (bvs ([P, Q], F)) ((q + 1) * 18) G7.out); have Z8 : Hid ((w7.setCells g8 ((q + 1) * 18) (bvs ([P, Q], F))).heap.size = w7.heap.size) := Lib.hid (size_cells _ _ _ _); generalize w7.setCells g8 ((q + 1) * 18) (bvs ([P, Q], F)) = w8 at *)
                | refine wpList_load_row rfl _ _ rfl w6.heap.size rfl 78 (bav ([X, Y], M)) (0, 0) _ G8.out Try.underlying78 rfl (by rw [HBS.out]; exact size78) ?_
                | (refine wpList_store_mid rfl _ _ _ rfl g8 (q * 18) (bav ([X, Y], M)) (by rfl) rfl (by rw [HBS.out]; exact O8.out.thereC _ 18 (by omega)) (by rw [HBS.out]; exact size78) (bav_one _) ?_; rw [bav_toList]; have O9 := Lib.hid (O8.out.setAllC (bvs ([X, Y], M)) (q * 18)); have B9 := Lib.hid (below_setCells (g := g8) (by have := O7.out.blk_; omega) (bvs ([X, Y], M)) (q * 18) B8.out); have Z9 : Hid ((w8.setCells g8 (q * 18) (bvs ([X, Y], M))).heap.size = w8.heap.size) := Lib.hid (size_cells _ _ _ _); generalize w8.setCells g8 (q * 18) (bvs ([X, Y], M)) = w9 at *))
              have h9 := O9.out
              rw [HS1.out, HS2.out] at h9
              exact ⟨⟨q, by omega, by go_num, HU2, Lib.hid (by rw [Z9.out, Z8.out]; exact h9), B9⟩, by simp [intOf]⟩
  · have HZ : Hid (M = zr16) := Lib.hid (emptyM_iff.1 hem)
    rw [hem] at HE
    clear hem
    go_enter Try.func63, Try.ntmps63
    go_wp2_with (first
      | (go_at_call 86; refine HE.out.mono ?_; rintro e w2 ⟨rfl, rfl⟩))
    go_ret
    exact ⟨A, c, l, by rw [HL.out]; rfl, by rw [HZ.out]; exact added_void HP.out _, .inl ⟨rfl, rfl, rfl⟩, B1.out⟩
end
/-- of a list that the caller owns comes one that it owns -/
theorem l07Add_own (A : Option Addr) (n c : Nat) (l : List Bl) (hl : l.length = n) (hp : Pic l) (hn : n ≤ 1048576) (X Y : Int) (M : List Int) (hM : M.length = 16) (h16 : is16 M) (lo : Nat) (w : World) (hlo : lo ≤ w.heap.size) (hO : Own w lo w.heap.size 78 18 A n c (bcs l)) :
    Calls Try.prog 63 #[.slice A n c, .agg #[.int .i32 X, .int .i32 Y], .agg (ivs .u16 M)] w fun e w' => ∃ A' c' l', e = .returned (.slice A' l'.length c') ∧ Added l [X, Y] M l' ∧ Own w' lo w'.heap.size 78 18 A' l'.length c' (bcs l') ∧ Below w.heap.size w w' := by
  refine (l07Add_any A n c l hl hp hn X Y M hM h16 w hO.rd).mono ?_
  rintro e w' ⟨A', c', l', he, ha, ho, hb⟩
  refine ⟨A', c', l', he, ha, ?_, hb⟩
  rcases ho with ⟨rfl, rfl, rfl⟩ | ho
  · subst hl
    exact (hO.below hb (Nat.le_refl _)).more hb.size
  · exact ho.less hlo
end Go.Proofs.Ytmagaapdijapiaa
