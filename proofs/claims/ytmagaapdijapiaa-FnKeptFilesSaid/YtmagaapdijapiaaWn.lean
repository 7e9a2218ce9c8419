/- The words of a file: the program's walk. -/
import Derived.Test.YtmagaapdijapiaaRows
import Derived.Test.YtmagaapdijapiaaWl
import Derived.Test.YtmagaapdijapiaaCw
import Derived.Test.YtmagaapdijapiaaRb
import Derived.Test.YtmagaapdijapiaaLd
import Derived.Test.YtmagaapdijapiaaUf
import Derived.OwnWalkIn
import Derived.Laws.Cover3
namespace Go.Proofs.Ytmagaapdijapiaa
open Go.ChangeShapes Go.WideShapes Go.ChangeAt Go.RowKit Go.Shelf
attribute [local go_sem] Oper.semAt_some
theorem exec_ldW (ρ : Operand → Value) (dst : Option Tmp) (x : Operand) (t : TypeId) (pos : String) (after : Array Edge) (guard : Option (Nat × Bool)) :
    execOp ρ { dst := dst, op := .load 103 x, type := t, pos := pos, after := after, guard := guard } = ldRow 103 (ρ x) := rfl
theorem run_ldW : ∀ (W : World) (g o : Nat), hasRow W g o 16 = true → (ldRow 103 (.pointer (some ⟨g, o, none⟩))).run Try.prog W = .ok (.value (.agg (rowAt W g o 16))) W := run_ldRow Try.underlying103 rfl size103
/-- the words that the first parts tell -/
def outW (D : List Int) (pre : List Nat) : List ByteArray := pre.map fun x => dw (chW D (chunkAtw D.length x))
theorem outW_length (D : List Int) (pre : List Nat) : (outW D pre).length = pre.length := by simp [outW]
theorem outW_snoc (D : List Int) (pre : List Nat) (x : Nat) : outW D (pre ++ [x]) = outW D pre ++ [dw (chW D (chunkAtw D.length x))] := by simp [outW]
theorem outW_range {D : List Int} {N : Nat} (h : D.length = 16 * N) : outW D (List.range N) = wds D N := by
  unfold outW wds
  refine List.map_congr_left fun x hx => ?_
  have := List.mem_range.1 hx
  rw [chunkAtw, if_pos (by omega)]

theorem results_2boxes (tmps : Array Value) (W : World) (g1 g2 : Nat) (v1 v2 : Value) (h1 : tmps.getD 2 undef = .pointer (some ⟨g1, 0, none⟩)) (h2 : tmps.getD 3 undef = .pointer (some ⟨g2, 0, none⟩)) (c1 : W.cell? ⟨g1, 0, none⟩ = some v1) (c2 : W.cell? ⟨g2, 0, none⟩ = some v2) :
    (results Try.f26 tmps).run Try.prog W = .ok (.tuple #[v1, v2]) W := by
  have h1' : tmps[2]?.getD undef = .pointer (some ⟨g1, 0, none⟩) := by simpa using h1
  have h2' : tmps[3]?.getD undef = .pointer (some ⟨g2, 0, none⟩) := by simpa using h2
  simp [results, Try.f26, go_sem, h1', h2', c1, c2]
theorem set2 {W : World} {g1 g2 : Nat} {t1 t2 : TypeId} {u1 u2 : Value} (h1 : Boxed W g1 t1 u1) (h2 : Boxed W g2 t2 u2) (hne : g1 ≠ g2) (v1 v2 : Value) : ((W.setCell ⟨g1, 0, none⟩ v1).setCell ⟨g2, 0, none⟩ v2).cell? ⟨g1, 0, none⟩ = some v1 ∧ ((W.setCell ⟨g1, 0, none⟩ v1).setCell ⟨g2, 0, none⟩ v2).cell? ⟨g2, 0, none⟩ = some v2 := by
  have a := h1.set v1
  have b : Boxed (W.setCell ⟨g1, 0, none⟩ v1) g2 t2 u2 := h2.kept (grownBy_setCell' W g1 v1) (fun e => hne (by injection e with e; exact e.symm))
  exact ⟨(a.kept (grownBy_setCell' _ g2 v2) (fun e => hne (by injection e))).cell, (b.set v2).cell⟩
section
attribute [local go_sem ↓] exec_ldW
attribute [local go_sem] run_ldW
set_option maxRecDepth 100000 in
set_option maxHeartbeats 6400000 in
theorem iReadWordFile_any (A : Option Addr) (n c : Nat) (l : List (List Int)) (hl : l.length = n) (hrow : Rows_ 16 l) (h255 : ∀ f ∈ l, is255 f) (hn : n ≤ 1048576) (hnc : n ≤ c) (hc63 : c ≤ 9223372036854775807) (w : World) (hR : Rd w w.heap.size 16 A n (l.flatten.map (.int .u8))) :
    Calls Try.prog 26 #[.slice A n c] w (GivesWs (rwL l) (rwC l) w) := by
  obtain ⟨i0, hi, hz0, hz1, hz2⟩ := info_parts Str_info
  have r1 := ((Boxed.new w 43 (.slice none 0 0)).alloc (.cells #[.int .i64 0] 2))
  have r2 := Boxed.new (w.alloc (.cells #[.slice none 0 0] 43)) 2 (.int .i64 0)
  rw [size_alloc] at r2
  have bW : Below w.heap.size w ((w.alloc (.cells #[.slice none 0 0] 43)).alloc (.cells #[.int .i64 0] 2)) := ((Below.refl _ _).alloc (Nat.le_refl _) _).alloc (by simp) _
  have zW : ((w.alloc (.cells #[.slice none 0 0] 43)).alloc (.cells #[.int .i64 0] 2)).heap.size = w.heap.size + 2 := by simp
  have ho := iUnpackFrames_any A n c l hl hrow h255 hn hnc hc63 ((w.alloc (.cells #[.slice none 0 0] 43)).alloc (.cells #[.int .i64 0] 2)) ((hR.below bW (Nat.le_refl _)).more (by rw [zW]; omega))
  unfold GOpenL at ho
  have HOP := Lib.hid ho
  have R1 := Lib.hid r1
  have R2 := Lib.hid r2
  have BW := Lib.hid bW
  have ZW := Lib.hid zW
  have hd255 := opData_255 h255
  have hdl := opData_length l hrow
  have hcr := opCount_range h255
  have hcode : rwC l = if opCode l = 0 then (if rwGood l then (if rwAll (opData l) (rwN l) then 0 else 5) else 5) else opCode l := rfl
  have hgood : rwGood l = ((opKind l == 3) && (((opData l).length : Int) == 16 * opCount l)) := rfl
  have hlst : rwL l = if rwC l = 0 then wds (opData l) ((opData l).length / 16) else [] := rfl
  have hN : rwN l = (opData l).length / 16 := rfl
  rw [hN] at hcode
  clear ho hl hrow h255 hR hN r1 r2 bW zW
  generalize opCode l = C at *
  generalize opKind l = K at *
  generalize opCount l = M at *
  generalize opData l = D at *
  generalize rwGood l = G at *
  generalize rwC l = RC at *
  generalize rwL l = RL at *
  by_cases hC : C = 0
  · subst hC
    rw [if_pos rfl] at hcode
    cases G
    · rw [if_neg (by decide)] at hcode
      subst hcode
      rw [if_neg (by decide)] at hlst
      subst hlst
      have HD := Lib.hid hd255
      have hcs : ¬ K = 3 ∨ (K = 3 ∧ ¬ (D.length : Int) = 16 * M) := by
        by_cases hk : K = 3
        · refine .inr ⟨hk, fun e => ?_⟩
          rw [hk, e] at hgood
          simp at hgood
        · exact .inl hk
      have hm1 : 0 ≤ M := hcr.1
      have hm2 : M ≤ 4294967295 := hcr.2
      clear hgood hd255 hcr
      rcases hcs with hk | ⟨rfl, hk⟩
      all_goals
        go_enter Try.func26, Try.ntmps26
        go_wp2_with (go_at_call 57; refine HOP.out.mono ?_; rintro e w2 ⟨A2, c2, rfl, hO2, hb2⟩; have HB2 := Lib.hid hb2; have HO2 := Lib.hid hO2; have b1 : Boxed w2 w.heap.size 43 (.slice none 0 0) := (hb2.block _ (by rw [ZW.out]; omega)).trans R1.out; have b2 : Boxed w2 (w.heap.size + 1) 2 (.int .i64 0) := (hb2.block _ (by rw [ZW.out]; omega)).trans R2.out; have c1 := b1.cell; have c2' := b2.cell; have f1 := b1.frozen; have f2 := b2.frozen; have BX1 := Lib.hid b1; have BX2 := Lib.hid b2; clear hO2 hb2 b1 b2)
        have hB2 : Below w.heap.size w w2 := BW.out.trans (HB2.out.mono BW.out.size)
        have hs := set2 BX1.out BX2.out (by omega) (.slice none 0 0) (.int .i64 5)
        exact bodyPost_ret (results_2boxes _ _ w.heap.size (w.heap.size + 1) _ _ rfl rfl hs.1 hs.2) rfl ⟨none, 0, rfl, ⟨rfl, .inl ⟨rfl, rfl, rfl⟩⟩, (hB2.setCell (Nat.le_refl _) _).setCell (Nat.le_succ _) _⟩
    · rw [Bool.true_eq, Bool.and_eq_true, beq_iff_eq, beq_iff_eq] at hgood
      obtain ⟨rfl, hlen⟩ := hgood
      rw [if_pos rfl] at hcode
      obtain ⟨N, hN⟩ : ∃ N, N = D.length / 16 := ⟨_, rfl⟩
      rw [← hN] at hcode hlst
      have HCODE := Lib.hid hcode
      have HLST := Lib.hid hlst
      have hDN : D.length = 16 * N := by omega
      have hm1 : 0 ≤ M := hcr.1
      have hm2 : M ≤ 4294967295 := hcr.2
      have H255 := Lib.hid hd255
      have HDN := Lib.hid hDN
      have hN1 : N ≤ 1000 := by omega
      have hDi : (D.length : Int) = 16 * (N : Int) := by omega
      have hM : M = (N : Int) := by omega
      clear hd255 hcr hlen hN hDN hcode hlst
      subst hM
      refine (callsIn_wide (n := 6)).1 ?_
      refine callsIn_of_wp_marks Try.func26 rfl trivial ?_ rfl
      simp only [Try.ntmps26, List.size_toArray, List.length_cons, List.length_nil, Nat.reduceAdd, Nat.reduceSub, Array.replicate_succ, Array.replicate_zero, List.push_toArray, List.append_toArray, List.nil_append, List.cons_append]
      refine wpIn_wide.2 ?_
      go_wp2_with (first
        | (go_at_call 57; refine HOP.out.mono ?_; rintro e w2 ⟨A2, c2, rfl, hO2, hb2⟩; have HB2 := Lib.hid hb2; have HO2 := Lib.hid hO2; have b1 : Boxed w2 w.heap.size 43 (.slice none 0 0) := (hb2.block _ (by rw [ZW.out]; omega)).trans R1.out; have b2 : Boxed w2 (w.heap.size + 1) 2 (.int .i64 0) := (hb2.block _ (by rw [ZW.out]; omega)).trans R2.out; have c1 := b1.cell; have c2' := b2.cell; have f1 := b1.frozen; have f2 := b2.frozen; have BX1 := Lib.hid b1; have BX2 := Lib.hid b2; clear hO2 hb2 b1 b2)
        | (go_at_call 67; refine (callsIn_wide.1 (chunk_inw Fence.wide 6 trivial rfl _ _ _ _)).mono ?_; rintro e w5 ⟨rfl, rfl⟩))
      have hA2 : ∃ g2, 0 < D.length → A2 = some ⟨g2, 0, none⟩ := by
        rcases HO2.out.2 with ⟨_, h0, _⟩ | ⟨g, cur, e, _⟩
        · exact ⟨0, fun h => by omega⟩
        · exact ⟨g, fun _ => e⟩
      obtain ⟨g2, hA2⟩ := hA2
      have hc2 : D.length ≤ c2 ∧ c2 ≤ maxLen := by
        rcases HO2.out.2 with ⟨_, h0, _⟩ | ⟨g, cur, e, _, _, _, h5, h6, _⟩
        · exact ⟨by omega, by unfold maxLen; omega⟩
        · exact ⟨h5, h6⟩
      have hc2' : c2 ≤ 9223372036854775807 := by have := hc2.2; unfold maxLen at this; omega
      have hR2 := HO2.out.rd
      have hB2 : Below w.heap.size w w2 := BW.out.trans (HB2.out.mono BW.out.size)
      have z2 := hB2.size
      have o0 : (w2.alloc (.cells #[] 9)).ownsRow w2.heap.size 9 1 (.slice (some ⟨w2.heap.size, 0, none⟩) 0 0) 0 (strs (outW D [])) := World.ownsRow_lit (e := 9) (base := w2.heap.size) (size := 1) w2 #[] 0 (Nat.le_refl _) (by unfold maxLen; omega) rfl
      have o1 := ((o0.alloc (.cells #[.slice (some ⟨w2.heap.size, 0, none⟩) 0 0] 43)).alloc (.cells #[.slice A2 D.length c2] 40)).alloc (.cells #[.int .i64 16] 3)
      have v0 := ((Boxed.new (w2.alloc (.cells #[] 9)) 43 (.slice (some ⟨w2.heap.size, 0, none⟩) 0 0)).alloc (.cells #[.slice A2 D.length c2] 40)).alloc (.cells #[.int .i64 16] 3)
      have sB := (Boxed.new ((w2.alloc (.cells #[] 9)).alloc (.cells #[.slice (some ⟨w2.heap.size, 0, none⟩) 0 0] 43)) 40 (.slice A2 D.length c2)).alloc (.cells #[.int .i64 16] 3)
      have nB := Boxed.new (((w2.alloc (.cells #[] 9)).alloc (.cells #[.slice (some ⟨w2.heap.size, 0, none⟩) 0 0] 43)).alloc (.cells #[.slice A2 D.length c2] 40)) 3 (.int .i64 16)
      have q1 := (((BX1.out.alloc (.cells #[] 9)).alloc (.cells #[.slice (some ⟨w2.heap.size, 0, none⟩) 0 0] 43)).alloc (.cells #[.slice A2 D.length c2] 40)).alloc (.cells #[.int .i64 16] 3)
      have q2 := (((BX2.out.alloc (.cells #[] 9)).alloc (.cells #[.slice (some ⟨w2.heap.size, 0, none⟩) 0 0] 43)).alloc (.cells #[.slice A2 D.length c2] 40)).alloc (.cells #[.int .i64 16] 3)
      have B2 : Below w2.heap.size w2 ((((w2.alloc (.cells #[] 9)).alloc (.cells #[.slice (some ⟨w2.heap.size, 0, none⟩) 0 0] 43)).alloc (.cells #[.slice A2 D.length c2] 40)).alloc (.cells #[.int .i64 16] 3)) := ((((Below.refl _ _).alloc (Nat.le_refl _) _).alloc (by simp) _).alloc (by simp <;> omega) _).alloc (by simp <;> omega) _
      have zW2 : ((((w2.alloc (.cells #[] 9)).alloc (.cells #[.slice (some ⟨w2.heap.size, 0, none⟩) 0 0] 43)).alloc (.cells #[.slice A2 D.length c2] 40)).alloc (.cells #[.int .i64 16] 3)).heap.size = w2.heap.size + 4 := by simp
      simp only [size_alloc] at v0 sB nB
      have s0 := sB.cell
      have n0 := nB.cell
      have BWr := hB2.trans (B2.mono z2)
      have r1lt := BX1.out.lt
      have r2lt := BX2.out.lt
      generalize ((((w2.alloc (.cells #[] 9)).alloc (.cells #[.slice (some ⟨w2.heap.size, 0, none⟩) 0 0] 43)).alloc (.cells #[.slice A2 D.length c2] 40)).alloc (.cells #[.int .i64 16] 3)) = Wr at *
      have HRW := Lib.hid hR2
      clear o0 hR2 c1 c2' f1 f2 HO2 HOP
      refine (wpIn_wide (n := 6)).1 ?_
      refine wpIn_rangeFunc_ownG rfl (by omega) (gf := 113) (lb := #[.pointer (some ⟨w2.heap.size + 1 + 1, 0, none⟩), .pointer (some ⟨w2.heap.size + 1 + 1 + 1, 0, none⟩)]) rfl trivial (enters_of Try.func113 (by kernel_rfl) rfl)
        (chunk_stopsw Fence.wide _ trivial rfl (by omega) (w2.heap.size + 1 + 1) (w2.heap.size + 1 + 1 + 1) g2 0 D.length c2 A2 hA2 (by omega) hc2.1 hc2' Wr (by omega) (by omega) s0 n0) KpC.trans ?kb (Below.refl _ _) (fun _ => rfl)
        (fun pre W => (((∃ v, Boxed W (w2.heap.size + 1) 43 v ∧ W.ownsRow w2.heap.size 9 1 v pre.length (strs (outW D pre)) ∧ (∀ x ∈ pre, woOk (chW D (chunkAtw D.length x)) = true) ∧ ∃ g cc, v = .slice (some ⟨g, 0, none⟩) pre.length cc) ∧ Boxed W (w2.heap.size + 1 + 1) 40 (.slice A2 D.length c2) ∧ Boxed W (w2.heap.size + 1 + 1 + 1) 3 (.int .i64 16)) ∧ Boxed W w.heap.size 43 (.slice none 0 0) ∧ Boxed W (w.heap.size + 1) 2 (.int .i64 0)) ∧ (Below w2.heap.size w2 W ∧ Below w.heap.size w W))
        (fun c pre W => ((c = .ret ∧ ∃ k, k < N ∧ woOk (chW D k) = false) ∧ Boxed W w.heap.size 43 (.slice none 0 0) ∧ Boxed W (w.heap.size + 1) 2 (.int .i64 5)) ∧ Below w.heap.size w W)
        (OwnFrom.and (Go.Own.from (fun s A B row hs hg hr => ⟨⟨holdsRow_own w2.heap.size (w2.heap.size + 1) 43 9 1 (fun pre => pre.length) (fun pre => strs (outW D pre)) (fun pre v => (∀ x ∈ pre, woOk (chW D (chunkAtw D.length x)) = true) ∧ ∃ g cc, v = .slice (some ⟨g, 0, none⟩) pre.length cc) s A B row hs.1.1 hg hr, boxed_own (w2.heap.size + 1 + 1) 40 (fun _ => .slice A2 D.length c2) s A B row hs.1.2.1 hg hr, boxed_own (w2.heap.size + 1 + 1 + 1) 3 (fun _ => .int .i64 16) s A B row hs.1.2.2 hg hr⟩, boxed_own w.heap.size 43 (fun _ => .slice none 0 0) s A B row hs.2.1 hg hr, boxed_own (w.heap.size + 1) 2 (fun _ => .int .i64 0) s A B row hs.2.2 hg hr⟩) _) (OwnFrom.and (ownFrom_below (Nat.le_refl _) (by omega)) (ownFrom_below (Nat.le_refl _) (by omega))))
        (fun c => OwnFrom.and (Go.Own.from (fun s A B row hs hg hr => ⟨hs.1, boxed_own w.heap.size 43 (fun _ => .slice none 0 0) s A B row hs.2.1 hg hr, boxed_own (w.heap.size + 1) 2 (fun _ => .int .i64 5) s A B row hs.2.2 hg hr⟩) _) (ownFrom_below (Nat.le_refl _) (by omega)))
        ⟨⟨⟨⟨_, v0, o1, by simp, _, _, rfl⟩, sB, nB⟩, q1, q2⟩, B2, BWr⟩
        ?a1 ?assign ?body ?done ?stop
      case assign =>
        intro l x W K hK
        gi_wp2
        exact hK
      case kb =>
        intro W l' o1' o2' hl' h _ _
        have hg := grownBy_putObj' W l' o2'
        have hlt := (Array.getElem?_eq_some_iff.1 h).1
        exact ⟨hg.block _ (by omega) (fun e => by cases e; omega), hg.block _ (by omega) (fun e => by cases e; omega)⟩
      case body =>
        rintro lp pre x W ⟨⟨⟨⟨v, hv, hrow, hpre, gv, cv, rfl⟩, xs, xn⟩, y1, y2⟩, hBW, hB⟩ hlt
        have hDN2 := HDN.out
        have hN0 : 0 < N := by omega
        obtain ⟨k, hk⟩ : ∃ k, k = chunkAtw D.length x := ⟨_, rfl⟩
        have hkN : k < N := by rw [hk, chunkAtw]; split <;> omega
        have hcv : chunkVw g2 0 D.length x = .slice (some ⟨g2, 16 * k, none⟩) 16 16 := by
          rw [chunkVw, chunkLenw, ← hk, Nat.zero_add]
          congr 1 <;> omega
        rw [hcv]
        have hDk : 16 * k + 16 ≤ D.length := by omega
        have hVl := chW_length hDk
        have hrg : W.rangeAt g2 (16 * k) ((chW D k).map (.int .u8)) := by
          obtain ⟨b', o', hA, hbB, hcc⟩ := (HRW.out.below hBW (Nat.le_refl _)).at_ (by omega)
          rw [hA2 (by omega)] at hA
          cases hA
          have := Rd.rangeAt (i := 16 * k) (s := 16) hcc
          rw [Nat.zero_add, ← List.map_drop, ← List.map_take] at this
          exact this
        have hz := hB.size
        have hzz := hBW.size
        have hc := hv.cell
        have hf := hv.frozen
        have harr := fun (a : Option Addr) (c : Nat) (x : World) => run_arrayAt (P := Try.prog) (w := x) 103 5 16 a 16 c Try.underlying103 (by omega)
        have q := rowAt_range hrg
        rw [hVl] at q
        obtain ⟨qr, qh⟩ := q
        have hV255 := chW_255 H255.out k
        have hwc := fun W => iWordOfCode_any (chW D k) hVl hV255 W
        have hval : woV (chW D k) = if woOk (chW D k) then dw (chW D k) else ⟨#[]⟩ := rfl
        have hcd : woC (chW D k) = if woOk (chW D k) then 0 else 5 := rfl
        have HWC := Lib.hid hwc
        have HV := Lib.hid hv
        have HROW := Lib.hid hrow
        have HP := Lib.hid hpre
        have hlen : pre.length ≤ 1000 := by omega
        have HK := Lib.hid hk
        clear hDN2 hk hDk hlt
        have h1c := y1.cell
        have h2c := y2.cell
        have h1f := y1.frozen
        have h2f := y2.frozen
        cases hok : woOk (chW D k)
        · rw [hok, if_neg (by decide)] at hval hcd
          rw [hval, hcd] at HWC
          clear hcd hval hV255 hrg hVl hwc hrow hpre
          gi_wp2_with (refine ⟨trivial, ?_⟩; gi_at_call 68; refine (CallsIn.inRound lp (callsIn_wide.2 (HWC.out _))).mono ?_; rintro e w7 ⟨rfl, hb7⟩; have y17 : Boxed w7 w.heap.size 43 (.slice none 0 0) := (hb7.block _ y1.lt).trans y1; have y27 : Boxed w7 (w.heap.size + 1) 2 (.int .i64 0) := (hb7.block _ y2.lt).trans y2; have c71 := y17.cell; have c72 := y27.cell; have f71 := y17.frozen; have f72 := y27.frozen)
          have ko : KeepsOthers W w7 := ⟨hb7.size, fun k o h _ => (hb7.block k (Array.getElem?_eq_some_iff.1 h).1).trans h⟩
          have y1s := (y17.set (.slice none 0 0)).other (B' := w.heap.size + 1) (by omega) (.int .i64 5)
          have y2s := (y27.other (B' := w.heap.size) (by omega) (.slice none 0 0)).set (.int .i64 5)
          exact ⟨((ko.trans (KeepsOthers.setCell _ _ _)).trans (KeepsOthers.setCell _ _ _)).from _, ⟨⟨rfl, k, hkN, hok⟩, y1s, y2s⟩, ((hB.trans (hb7.mono hz)).setCell (p := ⟨w.heap.size, 0, none⟩) (Nat.le_refl _) _).setCell (p := ⟨w.heap.size + 1, 0, none⟩) (Nat.le_succ _) _⟩
        · rw [hok, if_pos rfl] at hval hcd
          rw [hval, hcd] at HWC
          clear hcd hval hV255 hrg hVl hwc hrow hpre
          gi_wp2_with (first
            | (refine ⟨trivial, ?_⟩; gi_at_call 68; refine (CallsIn.inRound lp (callsIn_wide.2 (HWC.out _))).mono ?_; rintro e w7 ⟨rfl, hb7⟩; have hv7 : Boxed w7 (w2.heap.size + 1) 43 (.slice (some ⟨gv, 0, none⟩) pre.length cv) := (hb7.block _ HV.out.lt).trans HV.out; have own7 := Lib.hid (own_below HROW.out hb7 (Nat.le_refl _)); have c7 := hv7.cell; have f7 := hv7.frozen; have z7 := hb7.size; have BV7 := Lib.hid hv7; clear hv7)
            | (gi_at_builtin; refine wpListIn_append_own _ rfl _ _ 43 rfl w2.heap.size 9 i0 (.string ⟨#[]⟩) 1 16 Try.underlying43 hi hz0 hz1 hz2 rfl (by decide) _ _ _ rfl (own7.out.alloc _) ⟨w7.heap.size, 0, none⟩ 1 1 (strs [dw (chW D k)]) rfl rfl (str_news _ _) strs_one' (by unfold maxLen; omega) (by omega) (by rw [size_alloc]; omega) ?_; intro v8 w8 hown8 hgrow8 hnil8; obtain ⟨g8, cp8, rfl⟩ := ownsRow_succ hown8; obtain ⟨hv81, hv82, hr8, hk8, hb8⟩ := BV7.out.appended (by decide) own7.out (by omega) (by omega) hown8 hgrow8; have c8 := hv81.cell; have f8 := hv81.frozen))
          have ko : KeepsOthers W w7 := ⟨hb7.size, fun k o h _ => (hb7.block k (Array.getElem?_eq_some_iff.1 h).1).trans h⟩
          have xs7 : Boxed w7 _ _ _ := (hb7.block _ xs.lt).trans xs
          have xn7 : Boxed w7 _ _ _ := (hb7.block _ xn.lt).trans xn
          have y17 : Boxed w7 w.heap.size 43 (.slice none 0 0) := (hb7.block _ y1.lt).trans y1
          have y27 : Boxed w7 (w.heap.size + 1) 2 (.int .i64 0) := (hb7.block _ y2.lt).trans y2
          have xs8 := ((xs7.alloc (.cells #[.string (dw (chW D k))] 9)).kept hgrow8 (xs7.not_row (by decide) own7.out)).other (B' := w2.heap.size + 1) (by omega) (.slice (some ⟨g8, 0, none⟩) (pre.length + 1) cp8)
          have xn8 := ((xn7.alloc (.cells #[.string (dw (chW D k))] 9)).kept hgrow8 (xn7.not_row (by decide) own7.out)).other (B' := w2.heap.size + 1) (by omega) (.slice (some ⟨g8, 0, none⟩) (pre.length + 1) cp8)
          have y18 := ((y17.alloc (.cells #[.string (dw (chW D k))] 9)).kept hgrow8 (y17.not_row (by decide) own7.out)).other (B' := w2.heap.size + 1) (by omega) (.slice (some ⟨g8, 0, none⟩) (pre.length + 1) cp8)
          have y28 := ((y27.alloc (.cells #[.string (dw (chW D k))] 9)).kept hgrow8 (y27.not_row (by decide) own7.out)).other (B' := w2.heap.size + 1) (by omega) (.slice (some ⟨g8, 0, none⟩) (pre.length + 1) cp8)
          have hb7' := hb7.mono hzz
          refine ⟨(ko.trans hk8).from _, ⟨(show _ = _ from xs8).trans (show _ = _ from xs).symm, (show _ = _ from xn8).trans (show _ = _ from xn).symm⟩, ⟨⟨⟨_, hv82, ?_, ?_, _, _, by rw [List.length_append]; rfl⟩, xs8, xn8⟩, y18, y28⟩, (hBW.trans hb7').trans hb8, (hB.trans (hb7.mono hz)).trans (hb8.mono z2)⟩
          · rw [outW_snoc, ← HK.out, List.length_append, show strs (outW D pre ++ [dw (chW D k)]) = strs (outW D pre) ++ strs [dw (chW D k)] from List.map_append ..]
            exact hr8
          · intro y hy
            rcases List.mem_append.1 hy with h | h
            · exact HP.out y h
            · rw [List.mem_singleton.1 h, ← HK.out]
              exact hok
      case done =>
        rintro Dn ys W hD rfl ⟨⟨⟨⟨v, hv, hrow, hpre, gv, cv, rfl⟩, -, -⟩, y1, y2⟩, -, hB⟩ hK
        have hNN : (D.length + 15) / 16 = N := by have := HDN.out; omega
        rw [hNN] at hpre hrow hv
        have hRC := HCODE.out
        rw [rwAll_yes (fun k hk => by
          have := hpre k (List.mem_range.2 hk)
          rwa [chunkAtw, if_pos (by have := HDN.out; omega)] at this), if_pos rfl] at hRC
        have hRL := HLST.out
        rw [if_pos hRC, ← outW_range HDN.out] at hRL
        have hc := hv.cell
        have h1c := y1.cell
        have h2c := y2.cell
        have h1f := y1.frozen
        have h2f := y2.frozen
        have HRL := Lib.hid hRL
        rw [List.length_range] at hv hrow hc
        clear hpre HCODE HLST hRL hNN
        subst hRC
        go_wp2
        have u1 := (y1.set (.slice (some ⟨gv, 0, none⟩) N cv)).other (B' := w.heap.size + 1) (by omega) (.int .i64 0)
        have u2 := (y2.other (B' := w.heap.size) (by omega) (.slice (some ⟨gv, 0, none⟩) N cv)).set (.int .i64 0)
        have hr1 := hrow.kept (grownBy_setCell' W w.heap.size (.slice (some ⟨gv, 0, none⟩) N cv)) (.inr (y1.not_row (by decide) hrow).symm)
        have u3 := y2.other (B' := w.heap.size) (by omega) (.slice (some ⟨gv, 0, none⟩) N cv)
        have hr2 := hr1.kept (grownBy_setCell' _ (w.heap.size + 1) (.int .i64 0)) (.inr (u3.not_row (by decide) hr1).symm)
        have hK' := ((KeepsOthers.setCell W ⟨w.heap.size, 0, none⟩ (.slice (some ⟨gv, 0, none⟩) N cv)).trans (KeepsOthers.setCell _ ⟨w.heap.size + 1, 0, none⟩ (.int .i64 0))).same Dn _ hK rfl
        have hB' := (hB.setCell (p := ⟨w.heap.size, 0, none⟩) (Nat.le_refl _) (.slice (some ⟨gv, 0, none⟩) N cv)).setCell (p := ⟨w.heap.size + 1, 0, none⟩) (Nat.le_succ _) (.int .i64 0)
        have t1 := (u1.kept (grownBy_putObj' _ Dn (.deferred none)) (fun e => by cases e; omega)).cell
        have t2 := (u2.kept (grownBy_putObj' _ Dn (.deferred none)) (fun e => by cases e; omega)).cell
        refine ⟨by simp, .inl ⟨_, _, rfl, run_takeDeferred hK', ?_⟩⟩
        obtain ⟨A', c', e', hO⟩ := Own.of_row (own_base (ownsRow_putObj hr2 _ hK' rfl) z2)
        refine ⟨_, results_2boxes _ _ w.heap.size (w.heap.size + 1) _ _ rfl rfl t1 t2, A', c', ?_, ?_, hB'.trans (belowK_b (w := w) (Nat.le_refl _) _ Dn _ _ (by omega) hK' rfl rfl)⟩
        · rw [e', HRL.out, outW_length, List.length_range]
        · rw [HRL.out, outW_length, List.length_range]
          exact hO
      case stop =>
        rintro Dn c pre W hD - ⟨⟨⟨rfl, k, hkN, hno⟩, y1, y2⟩, hB⟩ hK
        have hRC := HCODE.out
        rw [rwAll_no hkN hno, if_neg (by decide)] at hRC
        have hRL := HLST.out
        rw [if_neg (by rw [hRC]; decide)] at hRL
        subst hRC
        subst hRL
        gi_wp2
        have hK' := hK
        have t1 := (y1.kept (grownBy_putObj' _ Dn (.deferred none)) (fun e => by cases e; omega)).cell
        have t2 := (y2.kept (grownBy_putObj' _ Dn (.deferred none)) (fun e => by cases e; omega)).cell
        refine ⟨by simp, .inl ⟨_, _, rfl, run_takeDeferred hK', ?_⟩⟩
        exact ⟨_, results_2boxes _ _ w.heap.size (w.heap.size + 1) _ _ rfl rfl t1 t2, none, 0, rfl, ⟨rfl, .inl ⟨rfl, rfl, rfl⟩⟩, hB.trans (belowK_b (w := w) (Nat.le_refl _) _ Dn _ _ (by omega) hK' rfl rfl)⟩
  · rw [if_neg hC] at hcode
    subst hcode
    rw [if_neg hC] at hlst
    subst hlst
    have HD := Lib.hid hd255
    clear hgood hd255
    go_enter Try.func26, Try.ntmps26
    go_wp2_with (go_at_call 57; refine HOP.out.mono ?_; rintro e w2 ⟨A2, c2, rfl, hO2, hb2⟩; have HB2 := Lib.hid hb2; have HO2 := Lib.hid hO2; have b1 : Boxed w2 w.heap.size 43 (.slice none 0 0) := (hb2.block _ (by rw [ZW.out]; omega)).trans R1.out; have b2 : Boxed w2 (w.heap.size + 1) 2 (.int .i64 0) := (hb2.block _ (by rw [ZW.out]; omega)).trans R2.out; have c1 := b1.cell; have c2' := b2.cell; have f1 := b1.frozen; have f2 := b2.frozen; have BX1 := Lib.hid b1; have BX2 := Lib.hid b2; clear hO2 hb2 b1 b2)
    have hB2 : Below w.heap.size w w2 := BW.out.trans (HB2.out.mono BW.out.size)
    have hs := set2 BX1.out BX2.out (by omega) (.slice none 0 0) (.int .i64 RC)
    exact bodyPost_ret (results_2boxes _ _ w.heap.size (w.heap.size + 1) _ _ rfl rfl hs.1 hs.2) rfl ⟨none, 0, rfl, ⟨rfl, .inl ⟨rfl, rfl, rfl⟩⟩, (hB2.setCell (Nat.le_refl _) _).setCell (Nat.le_succ _) _⟩
end
end Go.Proofs.Ytmagaapdijapiaa
