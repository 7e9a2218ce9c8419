/- The number with a text: the reference's walk. -/
import Derived.Test.YtfjfiljgbkhblaaDoorRows
import Derived.Test.YtfjfiljgbkhblaaDoorNv
import Derived.Deep.RegionWith
import Derived.Deep.QuietTactic
import Derived.BigQuiet
import Derived.IntWalk
namespace Go.Proofs.YtfjfiljgbkhblaaDoor
open Go.ChangeShapes Go.WideShapes Go.ChangeAt Go.RowKit
/-- a world behind w -/
structure After (w : World) where
  to : World
  h : Below w.heap.size w to
instance (w : World) : Nonempty (After w) := ⟨⟨w, Below.refl _ _⟩⟩
theorem region_after {P : Program} {id : Nat} {Q : Exit → Act → World → Prop} {a : Act} {w : World} {l : List Oper} (hm : P.follows .mixedOrders = true) (hB : Region.lexB .any l.toArray = true)
    (h : wpQuiet P l.toArray (fun w' => ∃ t : After w, w' = t.to) (fun a' => ∀ w', (∃ t : After w, w' = t.to) → Q .normal a' w') l a) : (Code.region id l.toArray true).wp P Q a w :=
  wp_region_quiet (C := fun w' => ∃ t : After w, w' = t.to) hm hB ⟨⟨w.drew, below_drew (Below.refl _ _)⟩, rfl⟩ (by simpa using h)
theorem After.call {P : Program} {f : FuncId} {args : Array Value} {w : World} {v : Value} (t : After w) (h : Calls P f args t.to fun e w' => e = .returned v ∧ Below t.to.heap.size t.to w') :
    Calls P f args t.to fun e w'' => e = .returned v ∧ ∃ t' : After w, w'' = t'.to :=
  h.mono fun _ w' ⟨he, hb⟩ => ⟨he, ⟨w', t.h.trans (hb.mono t.h.size)⟩, rfl⟩
theorem After.same {P : Program} {f : FuncId} {args : Array Value} {w : World} {v : Value} (t : After w) (h : Calls P f args t.to fun e w' => e = .returned v ∧ t.to = w') :
    Calls P f args t.to fun e w'' => e = .returned v ∧ ∃ t' : After w, w'' = t'.to :=
  h.mono fun _ _ ⟨he, hb⟩ => ⟨he, t, hb.symm⟩
theorem After.cell {w : World} (t : After w) {g o : Nat} (hg : g < w.heap.size) : t.to.cell? ⟨g, o, none⟩ = w.cell? ⟨g, o, none⟩ := t.h.cell (p := ⟨g, o, none⟩) hg

theorem ba_inj {p q : ByteArray} (h : p.toList = q.toList) : p = q := by
  rw [Lib.toList_data, Lib.toList_data] at h
  rw [← Lib.mk_data p, ← Lib.mk_data q, h]
theorem own_str {w : World} {lo hi g c : Nat} {P : List ByteArray} (h : Own w lo hi 9 1 (some ⟨g, 0, none⟩) P.length c (strs P)) {k : Nat} (hk : k < P.length) : w.cell? ⟨g, k, none⟩ = some (.string P[k]) ∧ g < hi := by
  obtain ⟨b, o, e, hb, hc⟩ := h.rd.at_ (by omega)
  injection e with e
  injection e with e1 e2 _
  subst e1 e2
  have := hc k _ (strs_at hk)
  rw [Nat.zero_add] at this
  exact ⟨this, hb⟩
/-- a text split into n pieces, of which the first two are told -/
def Splits (n : Nat) (p0 p1 : ByteArray) (w : World) (e : Ending) (w' : World) : Prop :=
  ∃ g c, e = .returned (.slice (some ⟨g, 0, none⟩) n c) ∧ g < w'.heap.size ∧ w'.cell? ⟨g, 0, none⟩ = some (.string p0) ∧ (n = 2 → w'.cell? ⟨g, 1, none⟩ = some (.string p1)) ∧ Below w.heap.size w w'
theorem splits_any (s : ByteArray) (hs : s.size ≤ 1048576) (w : World) :
    Calls Tryd.prog 31 #[.string s, .int .u8 47] w (Splits (partsOf s 47).length ((partsOf s 47).getD 0 ⟨#[]⟩) ((partsOf s 47).getD 1 ⟨#[]⟩) w) := by
  refine (l01Split_any s 47 hs w).mono ?_
  rintro e w' ⟨g, c, rfl, hO, hb⟩
  have hp : 0 < (partsOf s 47).length := parts_pos s 47
  obtain ⟨c0, hg⟩ := own_str hO hp
  refine ⟨g, c, rfl, hg, ?_, fun h2 => ?_, hb⟩
  · rw [c0, List.getD_eq_getElem?_getD, List.getElem?_eq_getElem hp]; rfl
  · obtain ⟨c1, _⟩ := own_str hO (k := 1) (by omega)
    rw [c1, List.getD_eq_getElem?_getD, List.getElem?_eq_getElem (by omega)]; rfl
/-- the walk's own words for what it comes to -/
def byW (n : Nat) (p1 : ByteArray) : Int := if n = 2 then (if powEx p1.data.toList 10 = 0 then 0 else ((2 ^ powEx p1.data.toList 10 : Nat) : Int)) else 1
theorem shl_wrap (k : Nat) (h : k ≤ 10) : wrap64 ((2 : Int) ^ k) = ((2 ^ k : Nat) : Int) := by
  rcases (by omega : k = 0 ∨ k = 1 ∨ k = 2 ∨ k = 3 ∨ k = 4 ∨ k = 5 ∨ k = 6 ∨ k = 7 ∨ k = 8 ∨ k = 9 ∨ k = 10) with rfl | rfl | rfl | rfl | rfl | rfl | rfl | rfl | rfl | rfl | rfl <;> decide +kernel
/-- what l08Number makes of its numbers -/
def badW (n0 : Int) (n : Nat) (p1 : ByteArray) : Bool := decide (n0 < 0) || decide (byW n p1 = 0) || decide (2 < n)
def outB (neg : Bool) (n0 : Int) (n : Nat) (p1 : ByteArray) : Nat := if badW n0 n p1 then 0 else qv (if neg then -n0 else n0) (if n = 2 then powEx p1.data.toList 10 else 0)
def byX (p1 : ByteArray) (q : Nat) : Int := if powEx p1.data.toList q = 0 then 0 else ((2 ^ powEx p1.data.toList q : Nat) : Int)
theorem six_small {p : ByteArray} (h : p.size ≤ 6) : smallV p = match sixV p.data.toList with | some m => (m : Int) | none => -1 := by
  have hz := Lib.size_eq p
  unfold smallV sixV
  rw [if_pos (show p.data.toList.length ≤ 6 by omega)]
  by_cases h1 : 1 ≤ p.size
  · rw [if_pos ⟨h1, by omega⟩]
    cases Lib.decNat p.data.toList <;> rfl
  · rw [if_neg (by omega)]
    have : p.data.toList = [] := List.eq_nil_of_length_eq_zero (by omega)
    rw [this]
    rfl
theorem six_none {p : ByteArray} (h : ¬ p.size ≤ 6) : sixV p.data.toList = none := by
  have hz := Lib.size_eq p
  unfold sixV
  rw [if_neg (by omega)]
theorem pow_int (k : Nat) (h : k ≤ 10) : 1 ≤ 2 ^ k ∧ 2 ^ k ≤ 1024 := by
  rcases (by omega : k = 0 ∨ k = 1 ∨ k = 2 ∨ k = 3 ∨ k = 4 ∨ k = 5 ∨ k = 6 ∨ k = 7 ∨ k = 8 ∨ k = 9 ∨ k = 10) with rfl | rfl | rfl | rfl | rfl | rfl | rfl | rfl | rfl | rfl | rfl <;> decide
theorem dec_eq (b : ByteArray) (n : Nat) : (b = dec n) ↔ b.data.toList = Lib.decDigits n := by
  constructor
  · intro h; rw [h]; simp [dec]
  · intro h
    rw [← Lib.mk_data b, h]
    rfl
theorem byX_yes {p1 : ByteArray} {q : Nat} (h : p1 = dec (2 ^ (q + 1))) : byX p1 (q + 1) = ((2 ^ (q + 1) : Nat) : Int) := by
  have h2 := (dec_eq p1 _).1 h
  unfold byX
  rw [powEx, if_pos h2, if_neg (by omega)]
theorem byX_no {p1 : ByteArray} {q : Nat} (h : ¬ p1 = dec (2 ^ (q + 1))) : byX p1 (q + 1) = byX p1 q := by
  have h2 : ¬ p1.data.toList = _ := fun e => h ((dec_eq p1 _).2 e)
  unfold byX
  rw [powEx, if_neg h2]
theorem byX_range (p1 : ByteArray) {q : Nat} (h : q ≤ 10) : byX p1 q = 0 ∨ (1 ≤ powEx p1.data.toList q ∧ powEx p1.data.toList q ≤ 10 ∧ byX p1 q = ((2 ^ powEx p1.data.toList q : Nat) : Int)) := by
  have := powEx_le p1.data.toList q
  unfold byX
  by_cases e : powEx p1.data.toList q = 0
  · rw [if_pos e]; exact .inl rfl
  · rw [if_neg e]; exact .inr ⟨by omega, by omega, rfl⟩
set_option maxRecDepth 20000 in
set_option maxHeartbeats 6400000 in
theorem l08Number_core (s t : ByteArray) (neg : Bool) (hneg : neg = true ∧ 0 < s.size ∧ bAt s 0 = 45 ∧ t = s.extract 1 s.size ∨ neg = false ∧ t = s ∧ (s.size = 0 ∨ 0 < s.size ∧ bAt s 0 ≠ 45)) (hs : s.size ≤ 1048576) (n : Nat) (p0 p1 : ByteArray) (n0 : Int) (hn : 1 ≤ n) (hn2 : n ≤ 1048577) (hm : -1 ≤ n0 ∧ n0 < 1000000)
    (hsm : p0.size ≤ 6 → ∀ W, Calls Tryd.prog 32 #[.string p0] W fun e w' => e = .returned (.int .i64 n0) ∧ W = w') (hsn : ¬ p0.size ≤ 6 → n0 = -1)
    (hsp : ∀ W, Calls Tryd.prog 31 #[.string t, .int .u8 47] W (Splits n p0 p1 W)) (w : World) :
    Calls Tryd.prog 35 #[.string s] w fun e w' => e = .returned (.tuple #[.float .f32 (outB neg n0 n p1), .bool (!(badW n0 n p1))]) ∧ Below w.heap.size w w' := by
  have HSP := Lib.hid hsp
  have HSM := Lib.hid hsm
  have HSN := Lib.hid hsn
  have HD := Lib.hid (fun (k : Nat) (h : k ≤ 10) W => sDecimal_any (2 ^ k) (by have := pow_int k h; omega) W)
  obtain ⟨m0, m1⟩ := hm
  have hn' : (0 : Int) < n := by omega
  have hqf : Hid (∀ (N : Int) (k : Nat), N.natAbs < 16777216 → k ≤ 10 → ∀ (W : World) t, (binOp .quo t (.float .f32 (floatOfInt .f32 N)) (.float .f32 (floatOfInt .f32 ((2 ^ k : Nat) : Int)))).run Tryd.prog W = .ok (.float .f32 (qv N k)) W) :=
    Lib.hid (fun N k h1 h2 W t => run_float_arith W .quo t .f32 _ _ _ (qv_form h1 h2).1)
  clear hsp hsm hsn
  rcases hneg with ⟨rfl, hz, hb0, ht2⟩ | ⟨rfl, rfl, hb0⟩
  · have hr := fun W => run_bAt (w := W) s 0 hz
    have hc := fun W => run_cutFrom (w := W) s 1 (by omega)
    rw [hb0] at hr
    rw [← ht2] at hc
    have hz' : (0 : Int) < s.size := by omega
    have hz1 : (1 : Int) ≤ s.size := by omega
    simp only [Int.cast_ofNat_Int] at hr hc
    clear ht2 hb0
    go_enter Tryd.func35, Tryd.ntmps35
    go_wp2_with fail
    refine (HSP.out _).mono ?_
    rintro e w2 ⟨g, c, rfl, hg, c0, c1, hb⟩
    have HG := Lib.hid hg
    have C1 := Lib.hid c1
    have HB := Lib.hid hb
    clear hg c1 hb hr hc hz'
    have HSM2 := HSM.out
    have HSN2 := HSN.out
    by_cases h6 : p0.size ≤ 6
    · have h6' : (p0.size : Int) ≤ 6 := by omega
      have HSM3 := Lib.hid (HSM2 h6)
      have hq1 := hqf.out (-n0) 0 (by omega) (by omega)
      rw [show (((2 ^ 0 : Nat) : Int)) = 1 from rfl] at hq1
      clear HSM2 HSN2 h6
      go_wp2_with (go_at_call 32; refine (HSM3.out _).mono ?_; rintro e w' ⟨rfl, rfl⟩)
      · have hnn : n = 2 := by have := beq_iff_eq.1 ‹((n : Int) == 2) = true›; omega
        have c1 := C1.out hnn
        have n2 : ¬ (2 : Int) < n := by omega
        have n1 : (1 : Int) < n := by omega
        have HBY : Hid (byW n p1 = byX p1 10) := Lib.hid (by rw [byW, if_pos hnn]; rfl)
        have HPX : Hid ((if n = 2 then powEx p1.data.toList 10 else 0) = powEx p1.data.toList 10) := Lib.hid (if_pos hnn)
        have HN2 : Hid (¬ 2 < n) := Lib.hid (by omega)
        have hnq : ((n : Int) == 2) = true := ‹((n : Int) == 2) = true›
        clear hnn hq1
        rw [hnq]
        go_loopw [7, 8] (fun b k wr => ∃ q : Nat, q ≤ 10 ∧ k = .int .u64 ((q : Int) + 1) ∧ b = .int .i64 (byX p1 q) ∧ Below w2.heap.size w2 wr) (fun _ k _ => 11 - (intOf k).toNat)
        case atStart => exact ⟨0, by omega, rfl, rfl, Below.refl _ _⟩
        case round =>
          obtain ⟨q, hq, rfl, rfl, hbr⟩ := hrel
          have c1r : wr.cell? ⟨g, 1, none⟩ = some (.string p1) := by rw [(bcell hbr).1 g 1 HG.out]; exact c1
          have HBr := Lib.hid hbr
          clear hbr
          by_cases hlt : q < 10
          · have hlt' : ((q : Int) + 1) ≤ 10 := by omega
            have hsh := shl_wrap (q + 1) (by omega)
            have hd := HD.out (q + 1) (by omega)
            have hgr : g < wr.heap.size := by have := HG.out; have := HBr.out.size; omega
            have hyes : Hid (p1 = dec (2 ^ (q + 1)) → byX p1 (q + 1) = ((2 ^ (q + 1) : Nat) : Int)) := Lib.hid byX_yes
            have hno : Hid (¬ p1 = dec (2 ^ (q + 1)) → byX p1 (q + 1) = byX p1 q) := Lib.hid byX_no
            generalize dec (2 ^ (q + 1)) = D at *
            generalize ((2 ^ (q + 1) : Nat) : Int) = B2 at *
            have HDQ := Lib.hid hd
            clear hd c1
            by_cases hx : p1 = D
            · subst hx
              have hy := hyes.out rfl
              have tc : ∀ t : After wr, t.to.cell? ⟨g, 1, none⟩ = some (.string p1) := fun t => (t.cell hgr).trans c1r
              clear c1r
              go_wp2_with fail
              refine region_after (by kernel_rfl) (by kernel_rfl) ?_
              repeat (go_big_quiet_step (first | (go_at_call 22; exact After.call _ (HDQ.out _))))
              refine wpQuiet_nil ?_
              rintro _ ⟨t, rfl⟩
              have hbt := t.h
              generalize t.to = w7 at hbt ⊢
              clear t tc
              go_wp2
              exact ⟨⟨q + 1, by omega, by go_num, by first | rw [hy, hsh] | rw [hy], HBr.out.trans (hbt.mono HBr.out.size)⟩, by simp [intOf]; omega⟩
            · have hy := hno.out hx
              have hxb : (p1.toList == D.toList) = false := beq_eq_false_iff_ne.2 fun e => hx (ba_inj e)
              have tc : ∀ t : After wr, t.to.cell? ⟨g, 1, none⟩ = some (.string p1) := fun t => (t.cell hgr).trans c1r
              clear c1r
              go_wp2_with fail
              refine region_after (by kernel_rfl) (by kernel_rfl) ?_
              repeat (go_big_quiet_step (first | (go_at_call 22; exact After.call _ (HDQ.out _))))
              refine wpQuiet_nil ?_
              rintro _ ⟨t, rfl⟩
              have hbt := t.h
              generalize t.to = w7 at hbt ⊢
              clear t tc
              go_wp2
              exact ⟨⟨q + 1, by omega, by go_num, by first | rw [hy, hsh] | rw [hy], HBr.out.trans (hbt.mono HBr.out.size)⟩, by simp [intOf]; omega⟩
          · obtain rfl : q = 10 := by omega
            have hBx := byX_range p1 (Nat.le_refl 10)
            rcases hBx with hb0 | ⟨k1, k10, hB⟩
            · rw [hb0]
              have HB0 : Hid (badW n0 n p1 = true) := Lib.hid (by simp [badW, HBY.out, hb0])
              clear hb0
              go_wp2_with fail
              all_goals (go_ret2; exact ⟨by rw [outB, HB0.out]; rfl, HB.out.trans (HBr.out.mono HB.out.size)⟩)
            · rw [hB]
              have hq := hqf.out (-n0) _ (by omega) k10 -- Q
              have hpw := pow_int _ k10
              obtain ⟨B, hBB⟩ : ∃ B : Int, B = ((2 ^ powEx p1.data.toList 10 : Nat) : Int) := ⟨_, rfl⟩
              have hB1 : 1 ≤ B := by omega
              have hB2 : B ≤ 1024 := by omega
              have hBb : (B == 0) = false := beq_eq_false_iff_ne.2 (by omega)
              have HBW : Hid (byW n p1 = B) := Lib.hid (by rw [HBY.out, hB, hBB])
              rw [← hBB] at hq ⊢ -- Q2
              clear hpw hB hBB k1
              go_wp2_with fail
              all_goals go_ret2
              all_goals first
                | (have hbad : badW n0 n p1 = true := by simp only [badW, Bool.or_eq_true, decide_eq_true_eq]; omega
                   exact ⟨by rw [outB, hbad]; rfl, HB.out.trans (HBr.out.mono HB.out.size)⟩)
                | (have hbad : badW n0 n p1 = false := by
                     simp only [badW, Bool.or_eq_false_iff, decide_eq_false_iff_not, HBW.out]
                     omega
                   exact ⟨by rw [outB, hbad, HPX.out]; rfl, HB.out.trans (HBr.out.mono HB.out.size)⟩)
      all_goals
        have hnn : ¬ n = 2 := by have := beq_eq_false_iff_ne.1 ‹((n : Int) == 2) = false›; omega
        have HBW : Hid (byW n p1 = 1) := Lib.hid (by rw [byW, if_neg hnn])
        have HPX : Hid ((if n = 2 then powEx p1.data.toList 10 else 0) = 0) := Lib.hid (if_neg hnn)
        go_ret2
        first
          | (have hbad : badW n0 n p1 = true := by simp only [badW, Bool.or_eq_true, decide_eq_true_eq]; omega
             exact ⟨by rw [outB, hbad]; rfl, HB.out⟩)
          | (have hbad : badW n0 n p1 = false := by
               simp only [badW, Bool.or_eq_false_iff, decide_eq_false_iff_not, HBW.out]
               omega
             exact ⟨by rw [outB, hbad, HPX.out]; rfl, HB.out⟩)
    · have h6' : ¬ (p0.size : Int) ≤ 6 := by omega
      obtain ⟨z0, hz0⟩ : ∃ z0, z0 = n0 := ⟨_, rfl⟩
      have hz1 := HSN2 h6
      rw [hz1] at hz0
      subst hz1
      clear HSM2 HSN2 h6 hz0 z0
      go_wp2_with fail
      · have hnn : n = 2 := by have := beq_iff_eq.1 ‹((n : Int) == 2) = true›; omega
        have c1 := C1.out hnn
        have n2 : ¬ (2 : Int) < n := by omega
        have n1 : (1 : Int) < n := by omega
        have HBY : Hid (byW n p1 = byX p1 10) := Lib.hid (by rw [byW, if_pos hnn]; rfl)
        have HPX : Hid ((if n = 2 then powEx p1.data.toList 10 else 0) = powEx p1.data.toList 10) := Lib.hid (if_pos hnn)
        have HN2 : Hid (¬ 2 < n) := Lib.hid (by omega)
        have hnq : ((n : Int) == 2) = true := ‹((n : Int) == 2) = true›
        clear hnn
        rw [hnq]
        go_loopw [7, 8] (fun b k wr => ∃ q : Nat, q ≤ 10 ∧ k = .int .u64 ((q : Int) + 1) ∧ b = .int .i64 (byX p1 q) ∧ Below w2.heap.size w2 wr) (fun _ k _ => 11 - (intOf k).toNat)
        case atStart => exact ⟨0, by omega, rfl, rfl, Below.refl _ _⟩
        case round =>
          obtain ⟨q, hq, rfl, rfl, hbr⟩ := hrel
          have c1r : wr.cell? ⟨g, 1, none⟩ = some (.string p1) := by rw [(bcell hbr).1 g 1 HG.out]; exact c1
          have HBr := Lib.hid hbr
          clear hbr
          by_cases hlt : q < 10
          · have hlt' : ((q : Int) + 1) ≤ 10 := by omega
            have hsh := shl_wrap (q + 1) (by omega)
            have hd := HD.out (q + 1) (by omega)
            have hgr : g < wr.heap.size := by have := HG.out; have := HBr.out.size; omega
            have hyes : Hid (p1 = dec (2 ^ (q + 1)) → byX p1 (q + 1) = ((2 ^ (q + 1) : Nat) : Int)) := Lib.hid byX_yes
            have hno : Hid (¬ p1 = dec (2 ^ (q + 1)) → byX p1 (q + 1) = byX p1 q) := Lib.hid byX_no
            generalize dec (2 ^ (q + 1)) = D at *
            generalize ((2 ^ (q + 1) : Nat) : Int) = B2 at *
            have HDQ := Lib.hid hd
            clear hd c1
            by_cases hx : p1 = D
            · subst hx
              have hy := hyes.out rfl
              have tc : ∀ t : After wr, t.to.cell? ⟨g, 1, none⟩ = some (.string p1) := fun t => (t.cell hgr).trans c1r
              clear c1r
              go_wp2_with fail
              refine region_after (by kernel_rfl) (by kernel_rfl) ?_
              repeat (go_big_quiet_step (first | (go_at_call 22; exact After.call _ (HDQ.out _))))
              refine wpQuiet_nil ?_
              rintro _ ⟨t, rfl⟩
              have hbt := t.h
              generalize t.to = w7 at hbt ⊢
              clear t tc
              go_wp2
              exact ⟨⟨q + 1, by omega, by go_num, by first | rw [hy, hsh] | rw [hy], HBr.out.trans (hbt.mono HBr.out.size)⟩, by simp [intOf]; omega⟩
            · have hy := hno.out hx
              have hxb : (p1.toList == D.toList) = false := beq_eq_false_iff_ne.2 fun e => hx (ba_inj e)
              have tc : ∀ t : After wr, t.to.cell? ⟨g, 1, none⟩ = some (.string p1) := fun t => (t.cell hgr).trans c1r
              clear c1r
              go_wp2_with fail
              refine region_after (by kernel_rfl) (by kernel_rfl) ?_
              repeat (go_big_quiet_step (first | (go_at_call 22; exact After.call _ (HDQ.out _))))
              refine wpQuiet_nil ?_
              rintro _ ⟨t, rfl⟩
              have hbt := t.h
              generalize t.to = w7 at hbt ⊢
              clear t tc
              go_wp2
              exact ⟨⟨q + 1, by omega, by go_num, by first | rw [hy, hsh] | rw [hy], HBr.out.trans (hbt.mono HBr.out.size)⟩, by simp [intOf]; omega⟩
          · obtain rfl : q = 10 := by omega
            have hBx := byX_range p1 (Nat.le_refl 10)
            rcases hBx with hb0 | ⟨k1, k10, hB⟩
            · rw [hb0]
              have HB0 : Hid (badW (-1) n p1 = true) := Lib.hid (by simp [badW, HBY.out, hb0])
              clear hb0
              go_wp2_with fail
              all_goals (go_ret2; exact ⟨by rw [outB, HB0.out]; rfl, HB.out.trans (HBr.out.mono HB.out.size)⟩)
            · rw [hB]
              have hpw := pow_int _ k10
              obtain ⟨B, hBB⟩ : ∃ B : Int, B = ((2 ^ powEx p1.data.toList 10 : Nat) : Int) := ⟨_, rfl⟩
              have hB1 : 1 ≤ B := by omega
              have hB2 : B ≤ 1024 := by omega
              have hBb : (B == 0) = false := beq_eq_false_iff_ne.2 (by omega)
              have HBW : Hid (byW n p1 = B) := Lib.hid (by rw [HBY.out, hB, hBB])
              rw [← hBB] at ⊢
              clear hpw hB hBB k1
              go_wp2_with fail
              all_goals go_ret2
              all_goals first
                | (have hbad : badW (-1) n p1 = true := by simp only [badW, Bool.or_eq_true, decide_eq_true_eq]; omega
                   exact ⟨by rw [outB, hbad]; rfl, HB.out.trans (HBr.out.mono HB.out.size)⟩)
                | (have hbad : badW (-1) n p1 = false := by
                     simp only [badW, Bool.or_eq_false_iff, decide_eq_false_iff_not, HBW.out]
                     omega
                   exact ⟨by rw [outB, hbad, HPX.out]; rfl, HB.out.trans (HBr.out.mono HB.out.size)⟩)
      all_goals
        have hnn : ¬ n = 2 := by have := beq_eq_false_iff_ne.1 ‹((n : Int) == 2) = false›; omega
        have HBW : Hid (byW n p1 = 1) := Lib.hid (by rw [byW, if_neg hnn])
        have HPX : Hid ((if n = 2 then powEx p1.data.toList 10 else 0) = 0) := Lib.hid (if_neg hnn)
        go_ret2
        first
          | (have hbad : badW (-1) n p1 = true := by simp only [badW, Bool.or_eq_true, decide_eq_true_eq]; omega
             exact ⟨by rw [outB, hbad]; rfl, HB.out⟩)
          | (have hbad : badW (-1) n p1 = false := by
               simp only [badW, Bool.or_eq_false_iff, decide_eq_false_iff_not, HBW.out]
               omega
             exact ⟨by rw [outB, hbad, HPX.out]; rfl, HB.out⟩)
  · have hz : t.size = 0 ∨ 0 < t.size := by omega
    rcases hz with hz | hz
    · have hz' : ¬ (0 : Int) < t.size := by omega
      clear hb0
      go_enter Tryd.func35, Tryd.ntmps35
      go_wp2_with fail
      refine (HSP.out _).mono ?_
      rintro e w2 ⟨g, c, rfl, hg, c0, c1, hb⟩
      have HG := Lib.hid hg
      have C1 := Lib.hid c1
      have HB := Lib.hid hb
      clear hg c1 hb hz'
      have HSM2 := HSM.out
      have HSN2 := HSN.out
      by_cases h6 : p0.size ≤ 6
      · have h6' : (p0.size : Int) ≤ 6 := by omega
        have HSM3 := Lib.hid (HSM2 h6)
        have hq1 := hqf.out (n0) 0 (by omega) (by omega)
        rw [show (((2 ^ 0 : Nat) : Int)) = 1 from rfl] at hq1
        clear HSM2 HSN2 h6
        go_wp2_with (go_at_call 32; refine (HSM3.out _).mono ?_; rintro e w' ⟨rfl, rfl⟩)
        · have hnn : n = 2 := by have := beq_iff_eq.1 ‹((n : Int) == 2) = true›; omega
          have c1 := C1.out hnn
          have n2 : ¬ (2 : Int) < n := by omega
          have n1 : (1 : Int) < n := by omega
          have HBY : Hid (byW n p1 = byX p1 10) := Lib.hid (by rw [byW, if_pos hnn]; rfl)
          have HPX : Hid ((if n = 2 then powEx p1.data.toList 10 else 0) = powEx p1.data.toList 10) := Lib.hid (if_pos hnn)
          have HN2 : Hid (¬ 2 < n) := Lib.hid (by omega)
          have hnq : ((n : Int) == 2) = true := ‹((n : Int) == 2) = true›
          clear hnn hq1
          rw [hnq]
          go_loopw [7, 8] (fun b k wr => ∃ q : Nat, q ≤ 10 ∧ k = .int .u64 ((q : Int) + 1) ∧ b = .int .i64 (byX p1 q) ∧ Below w2.heap.size w2 wr) (fun _ k _ => 11 - (intOf k).toNat)
          case atStart => exact ⟨0, by omega, rfl, rfl, Below.refl _ _⟩
          case round =>
            obtain ⟨q, hq, rfl, rfl, hbr⟩ := hrel
            have c1r : wr.cell? ⟨g, 1, none⟩ = some (.string p1) := by rw [(bcell hbr).1 g 1 HG.out]; exact c1
            have HBr := Lib.hid hbr
            clear hbr
            by_cases hlt : q < 10
            · have hlt' : ((q : Int) + 1) ≤ 10 := by omega
              have hsh := shl_wrap (q + 1) (by omega)
              have hd := HD.out (q + 1) (by omega)
              have hgr : g < wr.heap.size := by have := HG.out; have := HBr.out.size; omega
              have hyes : Hid (p1 = dec (2 ^ (q + 1)) → byX p1 (q + 1) = ((2 ^ (q + 1) : Nat) : Int)) := Lib.hid byX_yes
              have hno : Hid (¬ p1 = dec (2 ^ (q + 1)) → byX p1 (q + 1) = byX p1 q) := Lib.hid byX_no
              generalize dec (2 ^ (q + 1)) = D at *
              generalize ((2 ^ (q + 1) : Nat) : Int) = B2 at *
              have HDQ := Lib.hid hd
              clear hd c1
              by_cases hx : p1 = D
              · subst hx
                have hy := hyes.out rfl
                have tc : ∀ t : After wr, t.to.cell? ⟨g, 1, none⟩ = some (.string p1) := fun t => (t.cell hgr).trans c1r
                clear c1r
                go_wp2_with fail
                refine region_after (by kernel_rfl) (by kernel_rfl) ?_
                repeat (go_big_quiet_step (first | (go_at_call 22; exact After.call _ (HDQ.out _))))
                refine wpQuiet_nil ?_
                rintro _ ⟨t, rfl⟩
                have hbt := t.h
                generalize t.to = w7 at hbt ⊢
                clear t tc
                go_wp2
                exact ⟨⟨q + 1, by omega, by go_num, by first | rw [hy, hsh] | rw [hy], HBr.out.trans (hbt.mono HBr.out.size)⟩, by simp [intOf]; omega⟩
              · have hy := hno.out hx
                have hxb : (p1.toList == D.toList) = false := beq_eq_false_iff_ne.2 fun e => hx (ba_inj e)
                have tc : ∀ t : After wr, t.to.cell? ⟨g, 1, none⟩ = some (.string p1) := fun t => (t.cell hgr).trans c1r
                clear c1r
                go_wp2_with fail
                refine region_after (by kernel_rfl) (by kernel_rfl) ?_
                repeat (go_big_quiet_step (first | (go_at_call 22; exact After.call _ (HDQ.out _))))
                refine wpQuiet_nil ?_
                rintro _ ⟨t, rfl⟩
                have hbt := t.h
                generalize t.to = w7 at hbt ⊢
                clear t tc
                go_wp2
                exact ⟨⟨q + 1, by omega, by go_num, by first | rw [hy, hsh] | rw [hy], HBr.out.trans (hbt.mono HBr.out.size)⟩, by simp [intOf]; omega⟩
            · obtain rfl : q = 10 := by omega
              have hBx := byX_range p1 (Nat.le_refl 10)
              rcases hBx with hb0 | ⟨k1, k10, hB⟩
              · rw [hb0]
                have HB0 : Hid (badW n0 n p1 = true) := Lib.hid (by simp [badW, HBY.out, hb0])
                clear hb0
                go_wp2_with fail
                all_goals (go_ret2; exact ⟨by rw [outB, HB0.out]; rfl, HB.out.trans (HBr.out.mono HB.out.size)⟩)
              · rw [hB]
                have hq := hqf.out (n0) _ (by omega) k10 -- Q
                have hpw := pow_int _ k10
                obtain ⟨B, hBB⟩ : ∃ B : Int, B = ((2 ^ powEx p1.data.toList 10 : Nat) : Int) := ⟨_, rfl⟩
                have hB1 : 1 ≤ B := by omega
                have hB2 : B ≤ 1024 := by omega
                have hBb : (B == 0) = false := beq_eq_false_iff_ne.2 (by omega)
                have HBW : Hid (byW n p1 = B) := Lib.hid (by rw [HBY.out, hB, hBB])
                rw [← hBB] at hq ⊢ -- Q2
                clear hpw hB hBB k1
                go_wp2_with fail
                all_goals go_ret2
                all_goals first
                  | (have hbad : badW n0 n p1 = true := by simp only [badW, Bool.or_eq_true, decide_eq_true_eq]; omega
                     exact ⟨by rw [outB, hbad]; rfl, HB.out.trans (HBr.out.mono HB.out.size)⟩)
                  | (have hbad : badW n0 n p1 = false := by
                       simp only [badW, Bool.or_eq_false_iff, decide_eq_false_iff_not, HBW.out]
                       omega
                     exact ⟨by rw [outB, hbad, HPX.out]; rfl, HB.out.trans (HBr.out.mono HB.out.size)⟩)
        all_goals
          have hnn : ¬ n = 2 := by have := beq_eq_false_iff_ne.1 ‹((n : Int) == 2) = false›; omega
          have HBW : Hid (byW n p1 = 1) := Lib.hid (by rw [byW, if_neg hnn])
          have HPX : Hid ((if n = 2 then powEx p1.data.toList 10 else 0) = 0) := Lib.hid (if_neg hnn)
          go_ret2
          first
            | (have hbad : badW n0 n p1 = true := by simp only [badW, Bool.or_eq_true, decide_eq_true_eq]; omega
               exact ⟨by rw [outB, hbad]; rfl, HB.out⟩)
            | (have hbad : badW n0 n p1 = false := by
                 simp only [badW, Bool.or_eq_false_iff, decide_eq_false_iff_not, HBW.out]
                 omega
               exact ⟨by rw [outB, hbad, HPX.out]; rfl, HB.out⟩)
      · have h6' : ¬ (p0.size : Int) ≤ 6 := by omega
        obtain ⟨z0, hz0⟩ : ∃ z0, z0 = n0 := ⟨_, rfl⟩
        have hz1 := HSN2 h6
        rw [hz1] at hz0
        subst hz1
        clear HSM2 HSN2 h6 hz0 z0
        go_wp2_with fail
        · have hnn : n = 2 := by have := beq_iff_eq.1 ‹((n : Int) == 2) = true›; omega
          have c1 := C1.out hnn
          have n2 : ¬ (2 : Int) < n := by omega
          have n1 : (1 : Int) < n := by omega
          have HBY : Hid (byW n p1 = byX p1 10) := Lib.hid (by rw [byW, if_pos hnn]; rfl)
          have HPX : Hid ((if n = 2 then powEx p1.data.toList 10 else 0) = powEx p1.data.toList 10) := Lib.hid (if_pos hnn)
          have HN2 : Hid (¬ 2 < n) := Lib.hid (by omega)
          have hnq : ((n : Int) == 2) = true := ‹((n : Int) == 2) = true›
          clear hnn
          rw [hnq]
          go_loopw [7, 8] (fun b k wr => ∃ q : Nat, q ≤ 10 ∧ k = .int .u64 ((q : Int) + 1) ∧ b = .int .i64 (byX p1 q) ∧ Below w2.heap.size w2 wr) (fun _ k _ => 11 - (intOf k).toNat)
          case atStart => exact ⟨0, by omega, rfl, rfl, Below.refl _ _⟩
          case round =>
            obtain ⟨q, hq, rfl, rfl, hbr⟩ := hrel
            have c1r : wr.cell? ⟨g, 1, none⟩ = some (.string p1) := by rw [(bcell hbr).1 g 1 HG.out]; exact c1
            have HBr := Lib.hid hbr
            clear hbr
            by_cases hlt : q < 10
            · have hlt' : ((q : Int) + 1) ≤ 10 := by omega
              have hsh := shl_wrap (q + 1) (by omega)
              have hd := HD.out (q + 1) (by omega)
              have hgr : g < wr.heap.size := by have := HG.out; have := HBr.out.size; omega
              have hyes : Hid (p1 = dec (2 ^ (q + 1)) → byX p1 (q + 1) = ((2 ^ (q + 1) : Nat) : Int)) := Lib.hid byX_yes
              have hno : Hid (¬ p1 = dec (2 ^ (q + 1)) → byX p1 (q + 1) = byX p1 q) := Lib.hid byX_no
              generalize dec (2 ^ (q + 1)) = D at *
              generalize ((2 ^ (q + 1) : Nat) : Int) = B2 at *
              have HDQ := Lib.hid hd
              clear hd c1
              by_cases hx : p1 = D
              · subst hx
                have hy := hyes.out rfl
                have tc : ∀ t : After wr, t.to.cell? ⟨g, 1, none⟩ = some (.string p1) := fun t => (t.cell hgr).trans c1r
                clear c1r
                go_wp2_with fail
                refine region_after (by kernel_rfl) (by kernel_rfl) ?_
                repeat (go_big_quiet_step (first | (go_at_call 22; exact After.call _ (HDQ.out _))))
                refine wpQuiet_nil ?_
                rintro _ ⟨t, rfl⟩
                have hbt := t.h
                generalize t.to = w7 at hbt ⊢
                clear t tc
                go_wp2
                exact ⟨⟨q + 1, by omega, by go_num, by first | rw [hy, hsh] | rw [hy], HBr.out.trans (hbt.mono HBr.out.size)⟩, by simp [intOf]; omega⟩
              · have hy := hno.out hx
                have hxb : (p1.toList == D.toList) = false := beq_eq_false_iff_ne.2 fun e => hx (ba_inj e)
                have tc : ∀ t : After wr, t.to.cell? ⟨g, 1, none⟩ = some (.string p1) := fun t => (t.cell hgr).trans c1r
                clear c1r
                go_wp2_with fail
                refine region_after (by kernel_rfl) (by kernel_rfl) ?_
                repeat (go_big_quiet_step (first | (go_at_call 22; exact After.call _ (HDQ.out _))))
                refine wpQuiet_nil ?_
                rintro _ ⟨t, rfl⟩
                have hbt := t.h
                generalize t.to = w7 at hbt ⊢
                clear t tc
                go_wp2
                exact ⟨⟨q + 1, by omega, by go_num, by first | rw [hy, hsh] | rw [hy], HBr.out.trans (hbt.mono HBr.out.size)⟩, by simp [intOf]; omega⟩
            · obtain rfl : q = 10 := by omega
              have hBx := byX_range p1 (Nat.le_refl 10)
              rcases hBx with hb0 | ⟨k1, k10, hB⟩
              · rw [hb0]
                have HB0 : Hid (badW (-1) n p1 = true) := Lib.hid (by simp [badW, HBY.out, hb0])
                clear hb0
                go_wp2_with fail
                all_goals (go_ret2; exact ⟨by rw [outB, HB0.out]; rfl, HB.out.trans (HBr.out.mono HB.out.size)⟩)
              · rw [hB]
                have hpw := pow_int _ k10
                obtain ⟨B, hBB⟩ : ∃ B : Int, B = ((2 ^ powEx p1.data.toList 10 : Nat) : Int) := ⟨_, rfl⟩
                have hB1 : 1 ≤ B := by omega
                have hB2 : B ≤ 1024 := by omega
                have hBb : (B == 0) = false := beq_eq_false_iff_ne.2 (by omega)
                have HBW : Hid (byW n p1 = B) := Lib.hid (by rw [HBY.out, hB, hBB])
                rw [← hBB] at ⊢
                clear hpw hB hBB k1
                go_wp2_with fail
                all_goals go_ret2
                all_goals first
                  | (have hbad : badW (-1) n p1 = true := by simp only [badW, Bool.or_eq_true, decide_eq_true_eq]; omega
                     exact ⟨by rw [outB, hbad]; rfl, HB.out.trans (HBr.out.mono HB.out.size)⟩)
                  | (have hbad : badW (-1) n p1 = false := by
                       simp only [badW, Bool.or_eq_false_iff, decide_eq_false_iff_not, HBW.out]
                       omega
                     exact ⟨by rw [outB, hbad, HPX.out]; rfl, HB.out.trans (HBr.out.mono HB.out.size)⟩)
        all_goals
          have hnn : ¬ n = 2 := by have := beq_eq_false_iff_ne.1 ‹((n : Int) == 2) = false›; omega
          have HBW : Hid (byW n p1 = 1) := Lib.hid (by rw [byW, if_neg hnn])
          have HPX : Hid ((if n = 2 then powEx p1.data.toList 10 else 0) = 0) := Lib.hid (if_neg hnn)
          go_ret2
          first
            | (have hbad : badW (-1) n p1 = true := by simp only [badW, Bool.or_eq_true, decide_eq_true_eq]; omega
               exact ⟨by rw [outB, hbad]; rfl, HB.out⟩)
            | (have hbad : badW (-1) n p1 = false := by
                 simp only [badW, Bool.or_eq_false_iff, decide_eq_false_iff_not, HBW.out]
                 omega
               exact ⟨by rw [outB, hbad, HPX.out]; rfl, HB.out⟩)
    · have hr := fun W => run_bAt (w := W) t 0 hz
      have hb1 : ¬ bAt t 0 = 45 := by
        rcases hb0 with h | ⟨_, h⟩
        · omega
        · exact h
      have hz' : (0 : Int) < t.size := by omega
      simp only [Int.cast_ofNat_Int] at hr
      clear hb0
      generalize bAt t 0 = x0 at *
      go_enter Tryd.func35, Tryd.ntmps35
      go_wp2_with fail
      refine (HSP.out _).mono ?_
      rintro e w2 ⟨g, c, rfl, hg, c0, c1, hb⟩
      have HG := Lib.hid hg
      have C1 := Lib.hid c1
      have HB := Lib.hid hb
      clear hg c1 hb hr hz'
      have HSM2 := HSM.out
      have HSN2 := HSN.out
      by_cases h6 : p0.size ≤ 6
      · have h6' : (p0.size : Int) ≤ 6 := by omega
        have HSM3 := Lib.hid (HSM2 h6)
        have hq1 := hqf.out (n0) 0 (by omega) (by omega)
        rw [show (((2 ^ 0 : Nat) : Int)) = 1 from rfl] at hq1
        clear HSM2 HSN2 h6
        go_wp2_with (go_at_call 32; refine (HSM3.out _).mono ?_; rintro e w' ⟨rfl, rfl⟩)
        · have hnn : n = 2 := by have := beq_iff_eq.1 ‹((n : Int) == 2) = true›; omega
          have c1 := C1.out hnn
          have n2 : ¬ (2 : Int) < n := by omega
          have n1 : (1 : Int) < n := by omega
          have HBY : Hid (byW n p1 = byX p1 10) := Lib.hid (by rw [byW, if_pos hnn]; rfl)
          have HPX : Hid ((if n = 2 then powEx p1.data.toList 10 else 0) = powEx p1.data.toList 10) := Lib.hid (if_pos hnn)
          have HN2 : Hid (¬ 2 < n) := Lib.hid (by omega)
          have hnq : ((n : Int) == 2) = true := ‹((n : Int) == 2) = true›
          clear hnn hq1
          rw [hnq]
          go_loopw [7, 8] (fun b k wr => ∃ q : Nat, q ≤ 10 ∧ k = .int .u64 ((q : Int) + 1) ∧ b = .int .i64 (byX p1 q) ∧ Below w2.heap.size w2 wr) (fun _ k _ => 11 - (intOf k).toNat)
          case atStart => exact ⟨0, by omega, rfl, rfl, Below.refl _ _⟩
          case round =>
            obtain ⟨q, hq, rfl, rfl, hbr⟩ := hrel
            have c1r : wr.cell? ⟨g, 1, none⟩ = some (.string p1) := by rw [(bcell hbr).1 g 1 HG.out]; exact c1
            have HBr := Lib.hid hbr
            clear hbr
            by_cases hlt : q < 10
            · have hlt' : ((q : Int) + 1) ≤ 10 := by omega
              have hsh := shl_wrap (q + 1) (by omega)
              have hd := HD.out (q + 1) (by omega)
              have hgr : g < wr.heap.size := by have := HG.out; have := HBr.out.size; omega
              have hyes : Hid (p1 = dec (2 ^ (q + 1)) → byX p1 (q + 1) = ((2 ^ (q + 1) : Nat) : Int)) := Lib.hid byX_yes
              have hno : Hid (¬ p1 = dec (2 ^ (q + 1)) → byX p1 (q + 1) = byX p1 q) := Lib.hid byX_no
              generalize dec (2 ^ (q + 1)) = D at *
              generalize ((2 ^ (q + 1) : Nat) : Int) = B2 at *
              have HDQ := Lib.hid hd
              clear hd c1
              by_cases hx : p1 = D
              · subst hx
                have hy := hyes.out rfl
                have tc : ∀ t : After wr, t.to.cell? ⟨g, 1, none⟩ = some (.string p1) := fun t => (t.cell hgr).trans c1r
                clear c1r
                go_wp2_with fail
                refine region_after (by kernel_rfl) (by kernel_rfl) ?_
                repeat (go_big_quiet_step (first | (go_at_call 22; exact After.call _ (HDQ.out _))))
                refine wpQuiet_nil ?_
                rintro _ ⟨t, rfl⟩
                have hbt := t.h
                generalize t.to = w7 at hbt ⊢
                clear t tc
                go_wp2
                exact ⟨⟨q + 1, by omega, by go_num, by first | rw [hy, hsh] | rw [hy], HBr.out.trans (hbt.mono HBr.out.size)⟩, by simp [intOf]; omega⟩
              · have hy := hno.out hx
                have hxb : (p1.toList == D.toList) = false := beq_eq_false_iff_ne.2 fun e => hx (ba_inj e)
                have tc : ∀ t : After wr, t.to.cell? ⟨g, 1, none⟩ = some (.string p1) := fun t => (t.cell hgr).trans c1r
                clear c1r
                go_wp2_with fail
                refine region_after (by kernel_rfl) (by kernel_rfl) ?_
                repeat (go_big_quiet_step (first | (go_at_call 22; exact After.call _ (HDQ.out _))))
                refine wpQuiet_nil ?_
                rintro _ ⟨t, rfl⟩
                have hbt := t.h
                generalize t.to = w7 at hbt ⊢
                clear t tc
                go_wp2
                exact ⟨⟨q + 1, by omega, by go_num, by first | rw [hy, hsh] | rw [hy], HBr.out.trans (hbt.mono HBr.out.size)⟩, by simp [intOf]; omega⟩
            · obtain rfl : q = 10 := by omega
              have hBx := byX_range p1 (Nat.le_refl 10)
              rcases hBx with hb0 | ⟨k1, k10, hB⟩
              · rw [hb0]
                have HB0 : Hid (badW n0 n p1 = true) := Lib.hid (by simp [badW, HBY.out, hb0])
                clear hb0
                go_wp2_with fail
                all_goals (go_ret2; exact ⟨by rw [outB, HB0.out]; rfl, HB.out.trans (HBr.out.mono HB.out.size)⟩)
              · rw [hB]
                have hq := hqf.out (n0) _ (by omega) k10 -- Q
                have hpw := pow_int _ k10
                obtain ⟨B, hBB⟩ : ∃ B : Int, B = ((2 ^ powEx p1.data.toList 10 : Nat) : Int) := ⟨_, rfl⟩
                have hB1 : 1 ≤ B := by omega
                have hB2 : B ≤ 1024 := by omega
                have hBb : (B == 0) = false := beq_eq_false_iff_ne.2 (by omega)
                have HBW : Hid (byW n p1 = B) := Lib.hid (by rw [HBY.out, hB, hBB])
                rw [← hBB] at hq ⊢ -- Q2
                clear hpw hB hBB k1
                go_wp2_with fail
                all_goals go_ret2
                all_goals first
                  | (have hbad : badW n0 n p1 = true := by simp only [badW, Bool.or_eq_true, decide_eq_true_eq]; omega
                     exact ⟨by rw [outB, hbad]; rfl, HB.out.trans (HBr.out.mono HB.out.size)⟩)
                  | (have hbad : badW n0 n p1 = false := by
                       simp only [badW, Bool.or_eq_false_iff, decide_eq_false_iff_not, HBW.out]
                       omega
                     exact ⟨by rw [outB, hbad, HPX.out]; rfl, HB.out.trans (HBr.out.mono HB.out.size)⟩)
        all_goals
          have hnn : ¬ n = 2 := by have := beq_eq_false_iff_ne.1 ‹((n : Int) == 2) = false›; omega
          have HBW : Hid (byW n p1 = 1) := Lib.hid (by rw [byW, if_neg hnn])
          have HPX : Hid ((if n = 2 then powEx p1.data.toList 10 else 0) = 0) := Lib.hid (if_neg hnn)
          go_ret2
          first
            | (have hbad : badW n0 n p1 = true := by simp only [badW, Bool.or_eq_true, decide_eq_true_eq]; omega
               exact ⟨by rw [outB, hbad]; rfl, HB.out⟩)
            | (have hbad : badW n0 n p1 = false := by
                 simp only [badW, Bool.or_eq_false_iff, decide_eq_false_iff_not, HBW.out]
                 omega
               exact ⟨by rw [outB, hbad, HPX.out]; rfl, HB.out⟩)
      · have h6' : ¬ (p0.size : Int) ≤ 6 := by omega
        obtain ⟨z0, hz0⟩ : ∃ z0, z0 = n0 := ⟨_, rfl⟩
        have hz1 := HSN2 h6
        rw [hz1] at hz0
        subst hz1
        clear HSM2 HSN2 h6 hz0 z0
        go_wp2_with fail
        · have hnn : n = 2 := by have := beq_iff_eq.1 ‹((n : Int) == 2) = true›; omega
          have c1 := C1.out hnn
          have n2 : ¬ (2 : Int) < n := by omega
          have n1 : (1 : Int) < n := by omega
          have HBY : Hid (byW n p1 = byX p1 10) := Lib.hid (by rw [byW, if_pos hnn]; rfl)
          have HPX : Hid ((if n = 2 then powEx p1.data.toList 10 else 0) = powEx p1.data.toList 10) := Lib.hid (if_pos hnn)
          have HN2 : Hid (¬ 2 < n) := Lib.hid (by omega)
          have hnq : ((n : Int) == 2) = true := ‹((n : Int) == 2) = true›
          clear hnn
          rw [hnq]
          go_loopw [7, 8] (fun b k wr => ∃ q : Nat, q ≤ 10 ∧ k = .int .u64 ((q : Int) + 1) ∧ b = .int .i64 (byX p1 q) ∧ Below w2.heap.size w2 wr) (fun _ k _ => 11 - (intOf k).toNat)
          case atStart => exact ⟨0, by omega, rfl, rfl, Below.refl _ _⟩
          case round =>
            obtain ⟨q, hq, rfl, rfl, hbr⟩ := hrel
            have c1r : wr.cell? ⟨g, 1, none⟩ = some (.string p1) := by rw [(bcell hbr).1 g 1 HG.out]; exact c1
            have HBr := Lib.hid hbr
            clear hbr
            by_cases hlt : q < 10
            · have hlt' : ((q : Int) + 1) ≤ 10 := by omega
              have hsh := shl_wrap (q + 1) (by omega)
              have hd := HD.out (q + 1) (by omega)
              have hgr : g < wr.heap.size := by have := HG.out; have := HBr.out.size; omega
              have hyes : Hid (p1 = dec (2 ^ (q + 1)) → byX p1 (q + 1) = ((2 ^ (q + 1) : Nat) : Int)) := Lib.hid byX_yes
              have hno : Hid (¬ p1 = dec (2 ^ (q + 1)) → byX p1 (q + 1) = byX p1 q) := Lib.hid byX_no
              generalize dec (2 ^ (q + 1)) = D at *
              generalize ((2 ^ (q + 1) : Nat) : Int) = B2 at *
              have HDQ := Lib.hid hd
              clear hd c1
              by_cases hx : p1 = D
              · subst hx
                have hy := hyes.out rfl
                have tc : ∀ t : After wr, t.to.cell? ⟨g, 1, none⟩ = some (.string p1) := fun t => (t.cell hgr).trans c1r
                clear c1r
                go_wp2_with fail
                refine region_after (by kernel_rfl) (by kernel_rfl) ?_
                repeat (go_big_quiet_step (first | (go_at_call 22; exact After.call _ (HDQ.out _))))
                refine wpQuiet_nil ?_
                rintro _ ⟨t, rfl⟩
                have hbt := t.h
                generalize t.to = w7 at hbt ⊢
                clear t tc
                go_wp2
                exact ⟨⟨q + 1, by omega, by go_num, by first | rw [hy, hsh] | rw [hy], HBr.out.trans (hbt.mono HBr.out.size)⟩, by simp [intOf]; omega⟩
              · have hy := hno.out hx
                have hxb : (p1.toList == D.toList) = false := beq_eq_false_iff_ne.2 fun e => hx (ba_inj e)
                have tc : ∀ t : After wr, t.to.cell? ⟨g, 1, none⟩ = some (.string p1) := fun t => (t.cell hgr).trans c1r
                clear c1r
                go_wp2_with fail
                refine region_after (by kernel_rfl) (by kernel_rfl) ?_
                repeat (go_big_quiet_step (first | (go_at_call 22; exact After.call _ (HDQ.out _))))
                refine wpQuiet_nil ?_
                rintro _ ⟨t, rfl⟩
                have hbt := t.h
                generalize t.to = w7 at hbt ⊢
                clear t tc
                go_wp2
                exact ⟨⟨q + 1, by omega, by go_num, by first | rw [hy, hsh] | rw [hy], HBr.out.trans (hbt.mono HBr.out.size)⟩, by simp [intOf]; omega⟩
            · obtain rfl : q = 10 := by omega
              have hBx := byX_range p1 (Nat.le_refl 10)
              rcases hBx with hb0 | ⟨k1, k10, hB⟩
              · rw [hb0]
                have HB0 : Hid (badW (-1) n p1 = true) := Lib.hid (by simp [badW, HBY.out, hb0])
                clear hb0
                go_wp2_with fail
                all_goals (go_ret2; exact ⟨by rw [outB, HB0.out]; rfl, HB.out.trans (HBr.out.mono HB.out.size)⟩)
              · rw [hB]
                have hpw := pow_int _ k10
                obtain ⟨B, hBB⟩ : ∃ B : Int, B = ((2 ^ powEx p1.data.toList 10 : Nat) : Int) := ⟨_, rfl⟩
                have hB1 : 1 ≤ B := by omega
                have hB2 : B ≤ 1024 := by omega
                have hBb : (B == 0) = false := beq_eq_false_iff_ne.2 (by omega)
                have HBW : Hid (byW n p1 = B) := Lib.hid (by rw [HBY.out, hB, hBB])
                rw [← hBB] at ⊢
                clear hpw hB hBB k1
                go_wp2_with fail
                all_goals go_ret2
                all_goals first
                  | (have hbad : badW (-1) n p1 = true := by simp only [badW, Bool.or_eq_true, decide_eq_true_eq]; omega
                     exact ⟨by rw [outB, hbad]; rfl, HB.out.trans (HBr.out.mono HB.out.size)⟩)
                  | (have hbad : badW (-1) n p1 = false := by
                       simp only [badW, Bool.or_eq_false_iff, decide_eq_false_iff_not, HBW.out]
                       omega
                     exact ⟨by rw [outB, hbad, HPX.out]; rfl, HB.out.trans (HBr.out.mono HB.out.size)⟩)
        all_goals
          have hnn : ¬ n = 2 := by have := beq_eq_false_iff_ne.1 ‹((n : Int) == 2) = false›; omega
          have HBW : Hid (byW n p1 = 1) := Lib.hid (by rw [byW, if_neg hnn])
          have HPX : Hid ((if n = 2 then powEx p1.data.toList 10 else 0) = 0) := Lib.hid (if_neg hnn)
          go_ret2
          first
            | (have hbad : badW (-1) n p1 = true := by simp only [badW, Bool.or_eq_true, decide_eq_true_eq]; omega
               exact ⟨by rw [outB, hbad]; rfl, HB.out⟩)
            | (have hbad : badW (-1) n p1 = false := by
                 simp only [badW, Bool.or_eq_false_iff, decide_eq_false_iff_not, HBW.out]
                 omega
               exact ⟨by rw [outB, hbad, HPX.out]; rfl, HB.out⟩)
end Go.Proofs.YtfjfiljgbkhblaaDoor
