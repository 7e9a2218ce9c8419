/- Sf, Sb, Ud, Ua, FrB, Ub, Na, Ya in one text. -/
import Derived.Test.YtmagaapdijapiaaDoorRows
import Derived.Test.YtmagaapdijapiaaDoorGx1
import Derived.Test.YtmagaapdijapiaaDoorLd
import Derived.Deep.RegionLaw
import Derived.Test.YtmagaapdijapiaaDoorSl
import Derived.Test.YtmagaapdijapiaaDoorEqA
import Derived.Deep.QuietTactic
import Derived.BigQuiet
import Derived.Laws.BytesArg
import Derived.Lib.EndianBits
import Derived.Test.YtmagaapdijapiaaDoorInr
import Derived.Lib.SlBytesConst
import Derived.ArgAppend
import Derived.Deep.RegionHeld3
import Derived.Deep.Cut
import Derived.Laws.Bits64b
import Derived.Test.YtmagaapdijapiaaDoorTr
namespace Go.Proofs.YtmagaapdijapiaaDoor
open Go.ChangeShapes Go.WideShapes Go.ChangeAt Go.RowKit

def mkFrame (x : Int) : Int := x % 256

section
end

end Go.Proofs.YtmagaapdijapiaaDoor
namespace Go.Proofs.YtmagaapdijapiaaDoor
open Go.ChangeShapes Go.WideShapes Go.ChangeAt Go.RowKit

theorem Byte_info : (Tryd.prog.info? 5).map (fun i => (i.zero, i.size, i.bytes)) = some (some (.int .u8 0), 1, 1) := by kernel_rfl

def mkByte (x : Int) : Int := x % 256
theorem Int64_info : (Tryd.prog.info? 2).map (fun i => (i.zero, i.size, i.bytes)) = some (some (.int .i64 0), 1, 8) := by kernel_rfl

def mkInt64 (x : Int) : Int := x
end Go.Proofs.YtmagaapdijapiaaDoor
namespace Go.Proofs.YtmagaapdijapiaaDoor
open Go.ChangeShapes Go.WideShapes Go.ChangeAt Go.RowKit

theorem rowAt_drewN (W : World) (m g o n : Nat) : rowAt (W.drewN m) g o n = rowAt W g o n := rfl
theorem hasRow_drewN (W : World) (m g o n : Nat) : hasRow (W.drewN m) g o n = hasRow W g o n := rfl
theorem beq_of_takes {α : Type} [BEq α] [LawfulBEq α] {a b : List α} {n : Nat} (ha : a.length = n) (hb : b.length = n) (h : a.take n = b.take n) : (a == b) = true := by
  rw [List.take_of_length_le (by omega), List.take_of_length_le (by omega)] at h
  subst h
  exact beq_self_eq_true _
theorem bne_of_at {α : Type} [BEq α] [LawfulBEq α] {a b : List α} {k : Nat} (ha : k < a.length) (hb : k < b.length) (h : a[k] ≠ b[k]) : (a == b) = false := by
  rw [beq_eq_false_iff_ne]
  rintro rfl
  exact h rfl
theorem take_eq_succ {α : Type} {a b : List α} {k : Nat} (ha : k < a.length) (hb : k < b.length) (h : a.take k = b.take k) (he : a[k] = b[k]) : a.take (k + 1) = b.take (k + 1) := by
  rw [List.take_succ_eq_append_getElem ha, List.take_succ_eq_append_getElem hb, h, he]

section
end
end Go.Proofs.YtmagaapdijapiaaDoor
namespace Go.Proofs.YtmagaapdijapiaaDoor
open Go.ChangeShapes Go.WideShapes Go.ChangeAt Go.RowKit

def num4 (b0 b1 b2 b3 : Int) : Int := b0 * 16777216 + b1 * 65536 + b2 * 256 + b3

theorem cell_alloc {w : World} {g i : Nat} {v : Value} (o : Obj) (h : w.cell? ⟨g, i, none⟩ = some v) : (w.alloc o).cell? ⟨g, i, none⟩ = some v :=
  (((Below.refl w.heap.size w).alloc (Nat.le_refl _) o).cell (p := ⟨g, i, none⟩) (World.block_lt_of_cell? w _ h)).trans h

theorem shl8_or (x b : Int) (h0 : 0 ≤ x) (h1 : x < 16777216) (g0 : 0 ≤ b) (g1 : b ≤ 255) : bits .or .u32 (x * 256) b = x * 256 + b :=
  bits_join .u32 32 (by decide) wraps_u32 8 (x * 256) b (by omega) (by omega) (by omega) g0 (by omega) (by omega)

def numTo (b0 b1 b2 b3 : Int) : Nat → Int
  | 0 => 0
  | 1 => b0
  | 2 => b0 * 256 + b1
  | 3 => b0 * 65536 + b1 * 256 + b2
  | _ => num4 b0 b1 b2 b3

theorem conv_bytes {W : World} {g o n c : Nat} {l : List Int} (hl : l.length = n) (hr : W.rangeAt g o (l.map (.int .u8))) :
    (convert 22 9 (.slice (some ⟨g, o, none⟩) n c)).run Tryd.prog W = .ok (.string (strOfNums l)) W :=
  run_convert_bytes_arg W 22 5 Tryd.underlying22 Tryd.underlying5 g o n c l hl (fun i hi => by
    rw [hr i (.int .u8 (l.getD i 0)) (by rw [List.getElem?_map, List.getElem?_eq_getElem (by omega)]; simp [List.getD, List.getElem?_eq_getElem (show i < l.length by omega)])]) 9 Tryd.underlying9

end Go.Proofs.YtmagaapdijapiaaDoor
namespace Go.Proofs.YtmagaapdijapiaaDoor
open Go.ChangeShapes Go.WideShapes Go.ChangeAt Go.RowKit

set_option maxHeartbeats 400000 in
theorem inRange_any (n lo hi : Int) (w : World) : Calls Tryd.prog 60 #[.int .i64 n, .int .i64 lo, .int .i64 hi] w fun e w' => e = .returned (.bool (inB n lo hi)) ∧ w = w' := by
  go_enter Tryd.func60, Tryd.ntmps60
  go_wp2
  all_goals
    go_ret
    exact ⟨by simp [inB, *]; try omega, rfl⟩

def four (n : Int) : List Int := [n / 16777216 % 256, n / 65536 % 256, n / 256 % 256, n % 256]

theorem uint8_info : (Tryd.prog.info? 5).map (fun i => (i.zero, i.size, i.bytes)) = some (some (.int .u8 0), 1, 1) := by kernel_rfl

def put4 (l : List Int) (o : Nat) (n : Int) : List Int := (((l.set o (n / 16777216 % 256)).set (o + 1) (n / 65536 % 256)).set (o + 2) (n / 256 % 256)).set (o + 3) (n % 256)
theorem put4_length (l : List Int) (o : Nat) (n : Int) : (put4 l o n).length = l.length := by simp [put4]

end Go.Proofs.YtmagaapdijapiaaDoor
namespace Go.Proofs.YtmagaapdijapiaaDoor
open Go.ChangeShapes Go.WideShapes Go.ChangeAt Go.RowKit

def is255 (l : List Int) : Prop := ∀ x ∈ l, 0 ≤ x ∧ x ≤ 255
theorem is255_of_wfs {l : List Int} (h : ∀ x ∈ l, (Lit.int .u8 x).wf = true) : is255 l := fun x hx => by
  have := h x hx
  simp [Lit.wf, IntKind.min, IntKind.max, IntKind.signed, IntKind.bits] at this
  omega
theorem is255.getD {l : List Int} (h : is255 l) (i : Nat) : 0 ≤ l.getD i 0 ∧ l.getD i 0 ≤ 255 := by
  by_cases hi : i < l.length
  · rw [List.getD_eq_getElem?_getD, List.getElem?_eq_getElem hi]
    exact h _ (List.getElem_mem hi)
  · rw [List.getD_eq_getElem?_getD, List.getElem?_eq_none (by omega)]
    exact ⟨by decide, by decide⟩
def numAt (F : List Int) (o : Nat) : Int := num4 (F.getD o 0) (F.getD (o + 1) 0) (F.getD (o + 2) 0) (F.getD (o + 3) 0)
theorem numAt_range {F : List Int} (h : is255 F) (o : Nat) : 0 ≤ numAt F o ∧ numAt F o ≤ 4294967295 := by
  have h0 := h.getD o
  have h1 := h.getD (o + 1)
  have h2 := h.getD (o + 2)
  have h3 := h.getD (o + 3)
  unfold numAt num4
  omega
def hdKind (F : List Int) : Int := F.getD 3 0
def hdOk (F : List Int) : Bool := F.take 3 == [77, 80, 78]
theorem Blk.getAt {w : World} {g : Nat} {t : TypeId} {k : IntKind} {l : List Int} (h : Blk w g t (ivs k l)) {i : Nat} (hi : i < l.length) : w.cell? ⟨g, i, none⟩ = some (.int k (l.getD i 0)) := by
  have := h.getD i hi
  rwa [Nat.zero_add] at this
theorem strOfNums_inj {a b : List Int} (ha : is255 a) (hb : is255 b) : ((strOfNums a).toList == (strOfNums b).toList) = (a == b) := by
  rw [ByteArray.toList_eq, ByteArray.toList_eq, strOfNums_data, strOfNums_data]
  induction a generalizing b with
  | nil => cases b <;> rfl
  | cons x a ih =>
    cases b with
    | nil => rfl
    | cons y b =>
      have h1 := ha x (List.mem_cons_self ..)
      have h2 := hb y (List.mem_cons_self ..)
      rw [List.map_cons, List.map_cons, List.cons_beq_cons, List.cons_beq_cons, ih (fun z hz => ha z (List.mem_cons_of_mem _ hz)) (fun z hz => hb z (List.mem_cons_of_mem _ hz))]
      congr 1
      rw [Bool.eq_iff_iff, beq_iff_eq, beq_iff_eq]
      constructor
      · intro h
        have := congrArg UInt8.toNat h
        simp only [UInt8.toNat_ofNat'] at this
        omega
      · rintro rfl; rfl

theorem hdOk_eq {F : List Int} (h : is255 F) : ((strOfNums (F.take 3)).toList == (strOfNums [77, 80, 78]).toList) = hdOk F :=
  strOfNums_inj (fun x hx => h x (List.mem_of_mem_take hx)) (fun x hx => by simp at hx; omega)

theorem results_tmp4 {fn : Func} {t u v x : Tmp} (h : fn.results = #[.tmp t, .tmp u, .tmp v, .tmp x]) (tmps : Array Value) (P : Program) (w : World) :
    (results fn tmps).run P w = .ok (.tuple #[tmps.getD t undef, tmps.getD u undef, tmps.getD v undef, tmps.getD x undef]) w := by simp [results, h]

end Go.Proofs.YtmagaapdijapiaaDoor
namespace Go.Proofs.YtmagaapdijapiaaDoor
open Go.ChangeShapes Go.WideShapes Go.ChangeAt Go.RowKit

/-- the source's block: the bytes, how many are read, the seed -/
def Src (W : World) (g : Nat) (A : Option Addr) (n c : Nat) (k : Nat) : Prop := ∃ s : Int, 0 ≤ s ∧ s < 18446744073709551616 ∧ Blk W g 90 #[.slice A n c, .int .i64 k, .int .u64 s]
theorem Src.lt {W : World} {g : Nat} {A : Option Addr} {n c k : Nat} (h : Src W g A n c k) : g < W.heap.size := by
  obtain ⟨s, _, _, h⟩ := h
  exact h.lt
theorem u64wrap (x : Int) : 0 ≤ IntKind.wrap .u64 x ∧ IntKind.wrap .u64 x < 18446744073709551616 := by
  have h : IntKind.wrap .u64 x = x % 18446744073709551616 := rfl
  omega
theorem and255 {x : Int} (h0 : 0 ≤ x) (h1 : x < 18446744073709551616) : 0 ≤ bits .and .u64 x 255 ∧ bits .and .u64 x 255 ≤ 255 := by
  obtain ⟨a, rfl⟩ := Int.eq_ofNat_of_zero_le h0
  have h := bits_and_u64_nat a 255 (by omega) (by decide)
  have h2 : a &&& 255 ≤ 255 := Nat.and_le_right
  rw [show ((255 : Nat) : Int) = 255 from rfl] at h
  rw [h]
  omega
theorem wrap64_small {x : Int} (h0 : 0 ≤ x) (h1 : x ≤ 255) : wrap64 x = x := by
  unfold wrap64
  go_num
theorem div40 {x : Int} (h0 : 0 ≤ x) (h1 : x < 18446744073709551616) : 0 ≤ x / 1099511627776 ∧ x / 1099511627776 < 18446744073709551616 := by omega
set_option maxHeartbeats 1600000 in
theorem next_any (g : Nat) (A : Option Addr) (n c : Nat) (l : List Int) (hl : l.length = n) (h255 : is255 l) (k : Nat) (hk : k < 1000000000) (hn : n ≤ 1000000000) (w : World) (hs : Src w g A n c k) (hR : Rd w g 1 A n (l.map (.int .u8))) :
    Calls Tryd.prog 62 #[.pointer (some ⟨g, 0, none⟩)] w fun e w' => (∃ v : Int, 0 ≤ v ∧ v ≤ 255 ∧ e = .returned (.int .i64 v)) ∧ Src w' g A n c (k + 1) ∧ w.grownBy w' (some g) := by
  obtain ⟨s, hs0, hs1, hb⟩ := hs
  have c0 : w.cell? ⟨g, 0, none⟩ = some (.slice A n c) := hb.cell 0
  have c1 : w.cell? ⟨g, 1, none⟩ = some (.int .i64 k) := hb.cell 1
  have c2 : w.cell? ⟨g, 2, none⟩ = some (.int .u64 s) := hb.cell 2
  have f1 := hb.frozen 1
  have f2 := hb.frozen 2
  by_cases hlt : k < n
  · obtain ⟨b, o, rfl, hbg, hc⟩ := hR.at_ (by omega)
    have cb := hc k (.int .u8 (l[k]'(by omega))) (by rw [List.getElem?_map, List.getElem?_eq_getElem (by omega)]; rfl)
    have hv := h255 _ (List.getElem_mem (l := l) (n := k) (by omega))
    generalize l[k]'(by omega) = v at *
    have hlt' : (k : Int) < n := by omega
    clear hc hR
    go_enter Tryd.func62, Tryd.ntmps62
    go_wp2
    go_quiet (fail)
    go_wp2
    go_quiet (fail)
    go_wp2
    go_quiet (fail)
    go_wp2
    go_ret
    refine ⟨⟨_, hv.1, hv.2, rfl⟩, ?_, ?_⟩
    · exact ⟨_, (u64wrap _).1, (u64wrap _).2, (((hb.drewN _).set_ 1 _).set_ 2 _).drewN _⟩
    · exact only_drewN (only_setCell (g := g) (p := ⟨g, 2, none⟩) (only_setCell (g := g) (p := ⟨g, 1, none⟩) (only_drewN (World.grownBy.refl _ _) _) rfl _) rfl _) _
  · have hge : (n : Int) ≤ k := by omega
    clear hR
    go_enter Tryd.func62, Tryd.ntmps62
    go_wp2
    go_quiet (fail)
    go_wp2
    go_quiet (fail)
    go_wp2
    go_ret
    obtain ⟨q0, q1⟩ := u64wrap (IntKind.wrap .u64 (IntKind.wrap .u64 (s * 6364136223846793005)) + 1442695040888963407)
    obtain ⟨p0, p1⟩ := and255 (div40 q0 q1).1 (div40 q0 q1).2
    refine ⟨⟨_, ?_, ?_, rfl⟩, ?_, ?_⟩
    · have h : wrap64 (bits .and .u64 (IntKind.wrap .u64 (IntKind.wrap .u64 (IntKind.wrap .u64 (s * 6364136223846793005)) + 1442695040888963407) / 1099511627776) 255) = bits .and .u64 (IntKind.wrap .u64 (IntKind.wrap .u64 (IntKind.wrap .u64 (s * 6364136223846793005)) + 1442695040888963407) / 1099511627776) 255 := wrap64_small p0 p1
      rw [h]; exact p0
    · have h : wrap64 (bits .and .u64 (IntKind.wrap .u64 (IntKind.wrap .u64 (IntKind.wrap .u64 (s * 6364136223846793005)) + 1442695040888963407) / 1099511627776) 255) = bits .and .u64 (IntKind.wrap .u64 (IntKind.wrap .u64 (IntKind.wrap .u64 (s * 6364136223846793005)) + 1442695040888963407) / 1099511627776) 255 := wrap64_small p0 p1
      rw [h]; exact p1
    · exact ⟨_, q0, q1, (((hb.drewN _).set_ 1 _).set_ 2 _).drewN _⟩
    · exact only_drewN (only_setCell (g := g) (p := ⟨g, 2, none⟩) (only_setCell (g := g) (p := ⟨g, 1, none⟩) (only_drewN (World.grownBy.refl _ _) _) rfl _) rfl _) _
/-- what a call of the source gives: a number, and the source has gone on by at most d bytes -/
def Gone (w : World) (g : Nat) (A : Option Addr) (n c k d : Nat) (w' : World) : Prop := (∃ k', k' ≤ k + d ∧ Src w' g A n c k') ∧ w.grownBy w' (some g)
set_option maxHeartbeats 1600000 in
theorem pick_any (m : Int) (hm1 : 2 ≤ m) (hm2 : m ≤ 200) (g : Nat) (A : Option Addr) (n c : Nat) (l : List Int) (hl : l.length = n) (h255 : is255 l) (k : Nat) (hk : k < 1000000000) (hn : n ≤ 1000000000) (w : World) (hs : Src w g A n c k) (hR : Rd w g 1 A n (l.map (.int .u8))) :
    Calls Tryd.prog 33 #[.pointer (some ⟨g, 0, none⟩), .int .i64 m] w fun e w' => (∃ v : Int, 0 ≤ v ∧ v < m ∧ e = .returned (.int .i64 v)) ∧ Gone w g A n c k 1 w' := by
  have hx := next_any g A n c l hl h255 k hk hn w hs hR
  have HX := Lib.hid hx
  clear hx hs hR
  go_enter Tryd.func33, Tryd.ntmps33
  go_wp2_with (go_at_call 62; refine HX.out.mono ?_; rintro e w2 ⟨⟨v, hv0, hv1, rfl⟩, hs2, hg2⟩; have HS := Lib.hid hs2; have HG := Lib.hid hg2; clear hs2 hg2)
  go_ret
  exact ⟨⟨_, Int.emod_nonneg _ (by omega), Int.emod_lt_of_pos _ (by omega), rfl⟩, ⟨k + 1, Nat.le_refl _, HS.out⟩, HG.out⟩
set_option maxHeartbeats 1600000 in
theorem one_any (m : Int) (hm1 : 2 ≤ m) (hm2 : m ≤ 200) (g : Nat) (A : Option Addr) (n c : Nat) (l : List Int) (hl : l.length = n) (h255 : is255 l) (k : Nat) (hk : k < 1000000000) (hn : n ≤ 1000000000) (w : World) (hs : Src w g A n c k) (hR : Rd w g 1 A n (l.map (.int .u8))) :
    Calls Tryd.prog 66 #[.pointer (some ⟨g, 0, none⟩), .int .i64 m] w fun e w' => (∃ b : Bool, e = .returned (.bool b)) ∧ Gone w g A n c k 1 w' := by
  have hx := pick_any m hm1 hm2 g A n c l hl h255 k hk hn w hs hR
  have HX := Lib.hid hx
  clear hx hs hR
  go_enter Tryd.func66, Tryd.ntmps66
  go_wp2_with (go_at_call 33; refine HX.out.mono ?_; rintro e w2 ⟨⟨v, hv0, hv1, rfl⟩, hg2⟩; have HG := Lib.hid hg2; clear hg2)
  go_ret
  exact ⟨⟨_, rfl⟩, HG.out⟩
end Go.Proofs.YtmagaapdijapiaaDoor
namespace Go.Proofs.YtmagaapdijapiaaDoor
open Go.ChangeShapes Go.WideShapes Go.ChangeAt Go.RowKit
def bitK (M : List Int) (k : Nat) : Bool := bitB M (k % 16) (k / 16)
/-- what has been told up to cell k: the bytes, where the run began, whether it is set -/
def pmTo (M : List Int) : Nat → List Int × Nat × Bool
  | 0 => ([], 0, false)
  | k + 1 => if bitK M k = (pmTo M k).2.2 then pmTo M k else ((pmTo M k).1 ++ [((k - (pmTo M k).2.1 : Nat) : Int)], k, !(pmTo M k).2.2)
def pmL (M : List Int) : List Int := (pmTo M 256).1
theorem pmTo_same {M : List Int} {k : Nat} (h : bitK M k = (pmTo M k).2.2) : pmTo M (k + 1) = pmTo M k := by rw [pmTo, if_pos h]
theorem pmTo_turn {M : List Int} {k : Nat} (h : ¬ bitK M k = (pmTo M k).2.2) : pmTo M (k + 1) = ((pmTo M k).1 ++ [((k - (pmTo M k).2.1 : Nat) : Int)], k, !(pmTo M k).2.2) := by rw [pmTo, if_neg h]
theorem pmTo_from (M : List Int) : ∀ k, (pmTo M k).2.1 ≤ k
  | 0 => Nat.le_refl _
  | k + 1 => by
    have := pmTo_from M k
    by_cases h : bitK M k = (pmTo M k).2.2
    · rw [pmTo_same h]; omega
    · rw [pmTo_turn h]; exact Nat.le_succ k
theorem pmTo_length (M : List Int) : ∀ k, (pmTo M k).1.length ≤ k
  | 0 => Nat.le_refl _
  | k + 1 => by
    have := pmTo_length M k
    by_cases h : bitK M k = (pmTo M k).2.2
    · rw [pmTo_same h]; omega
    · rw [pmTo_turn h, List.length_append, List.length_singleton]; omega
theorem pmTo_in (M : List Int) : ∀ k, k ≤ 256 → ∀ x ∈ (pmTo M k).1, 0 ≤ x ∧ x ≤ 255
  | 0, _ => fun x hx => by cases hx
  | k + 1, hk => fun x hx => by
    have ih := pmTo_in M k (by omega)
    by_cases h : bitK M k = (pmTo M k).2.2
    · rw [pmTo_same h] at hx; exact ih x hx
    · rw [pmTo_turn h] at hx
      rcases List.mem_append.1 hx with hx | hx
      · exact ih x hx
      · rw [List.mem_singleton] at hx
        subst hx
        omega
theorem pmL_length (M : List Int) : (pmL M).length ≤ 256 := pmTo_length M 256
theorem pmL_in (M : List Int) : ∀ x ∈ pmL M, 0 ≤ x ∧ x ≤ 255 := pmTo_in M 256 (Nat.le_refl _)
/-! ### the runs -/
def sumN (l : List Int) (k : Nat) : Nat := ((l.take k).map Int.toNat).sum
theorem sumN_zero (l : List Int) : sumN l 0 = 0 := rfl
theorem sumN_succ {l : List Int} {k : Nat} (h : k < l.length) : sumN l (k + 1) = sumN l k + (l[k]).toNat := by
  rw [sumN, List.take_succ_eq_append_getElem h, List.map_append, List.sum_append, sumN]
  simp
theorem sumN_mono (l : List Int) {i j : Nat} (h : i ≤ j) : sumN l i ≤ sumN l j := by
  induction j with
  | zero => rw [Nat.le_zero.1 h]; exact Nat.le_refl _
  | succ j ih =>
    by_cases e : i = j + 1
    · rw [e]; exact Nat.le_refl _
    · refine Nat.le_trans (ih (by omega)) ?_
      by_cases hj : j < l.length
      · rw [sumN_succ hj]; omega
      · rw [sumN, sumN, List.take_of_length_le (by omega), List.take_of_length_le (by omega)]; exact Nat.le_refl _
theorem sumN_append (a b : List Int) {k : Nat} (h : k ≤ a.length) : sumN (a ++ b) k = sumN a k := by rw [sumN, sumN, List.take_append_of_le_length h]
def oddB (n : Nat) : Bool := n % 2 == 1
theorem oddB_succ (n : Nat) : oddB (n + 1) = !oddB n := by
  have h : n % 2 = 0 ∨ n % 2 = 1 := by omega
  rcases h with h | h
  · rw [oddB, oddB, h, show (n + 1) % 2 = 1 by omega]; rfl
  · rw [oddB, oddB, h, show (n + 1) % 2 = 0 by omega]; rfl
structure Runs (M : List Int) (k : Nat) : Prop where
  sum : sumN (pmTo M k).1 (pmTo M k).1.length = (pmTo M k).2.1
  odd : (pmTo M k).2.2 = oddB (pmTo M k).1.length
  run : ∀ i, i < (pmTo M k).1.length → ∀ j, sumN (pmTo M k).1 i ≤ j → j < sumN (pmTo M k).1 (i + 1) → bitK M j = oddB i
  last : ∀ j, (pmTo M k).2.1 ≤ j → j < k → bitK M j = (pmTo M k).2.2
theorem runs_all (M : List Int) : ∀ k, Runs M k
  | 0 => ⟨rfl, rfl, fun i hi => by simp [pmTo] at hi, fun j _ h => by omega⟩
  | k + 1 => by
    have ih := runs_all M k
    have hf := pmTo_from M k
    by_cases h : bitK M k = (pmTo M k).2.2
    · have hs := pmTo_same h
      refine ⟨by rw [hs]; exact ih.sum, by rw [hs]; exact ih.odd, by rw [hs]; exact ih.run, fun j h1 h2 => ?_⟩
      rw [hs] at h1 ⊢
      by_cases e : j = k
      · rw [e]; exact h
      · exact ih.last j h1 (by omega)
    · have ht := pmTo_turn h
      obtain ⟨O, hO⟩ : ∃ O, O = (pmTo M k).1 := ⟨_, rfl⟩
      obtain ⟨f, hfe⟩ : ∃ f, f = (pmTo M k).2.1 := ⟨_, rfl⟩
      have isum := ih.sum
      have iodd := ih.odd
      have irun := ih.run
      have ilast := ih.last
      rw [← hO, ← hfe] at isum
      rw [← hO] at iodd irun
      rw [← hfe] at ilast hf
      rw [← hO, ← hfe] at ht
      have hl : (O ++ [((k - f : Nat) : Int)]).length = O.length + 1 := by rw [List.length_append]; rfl
      have hsl : sumN (O ++ [((k - f : Nat) : Int)]) (O.length + 1) = k := by
        rw [sumN_succ (by rw [hl]; exact Nat.lt_succ_self _), sumN_append _ _ (Nat.le_refl _), isum]
        simp
        omega
      refine ⟨?_, ?_, fun i hi j h1 h2 => ?_, fun j h1 h2 => ?_⟩
      · rw [ht, hl]; exact hsl
      · rw [ht]
        show (!(pmTo M k).2.2) = oddB (O ++ [((k - f : Nat) : Int)]).length
        rw [hl, oddB_succ, iodd]
      · rw [ht] at hi h1 h2
        rw [hl] at hi
        by_cases e : i = O.length
        · subst e
          rw [hsl] at h2
          rw [sumN_append _ _ (Nat.le_refl _), isum] at h1
          rw [ilast j h1 h2, iodd]
        · have hi2 : i < O.length := by omega
          rw [sumN_append _ _ (by omega)] at h1 h2
          exact irun i hi2 j h1 h2
      · rw [ht] at h1
        have h1 : k ≤ j := h1
        have e : j = k := by omega
        rw [e, ht]
        show bitK M k = !(pmTo M k).2.2
        cases hb : bitK M k <;> cases hc : (pmTo M k).2.2 <;> first | rfl | (rw [hb, hc] at h; exact absurd rfl h)
/-! ### found again -/
def setK (M : List Int) (k : Nat) : List Int := setOr M (k / 16) (k % 16)
theorem setK_length {M : List Int} (hM : M.length = 16) (k : Nat) : (setK M k).length = 16 := setOr_length hM _ _
theorem setK_16 {M : List Int} (h : is16 M) (k : Nat) : is16 (setK M k) := setOr_16 h _ _
theorem setK_bit {M : List Int} (hM : M.length = 16) (h16 : is16 M) {k : Nat} (hk : k < 256) (j : Nat) : bitK (setK M k) j = (bitK M j || decide (j = k)) := by
  rw [bitK, setK, setOr_bit hM h16 (by omega) (by omega), bitK]
  congr 1
  rw [Bool.eq_iff_iff, Bool.and_eq_true, decide_eq_true_iff, decide_eq_true_iff, decide_eq_true_iff]
  omega
def fillK (M : List Int) (a : Nat) : Nat → List Int
  | 0 => M
  | n + 1 => setK (fillK M a n) (a + n)
theorem fillK_ok {M : List Int} (hM : M.length = 16) (h16 : is16 M) (a : Nat) : ∀ n, (fillK M a n).length = 16 ∧ is16 (fillK M a n)
  | 0 => ⟨hM, h16⟩
  | n + 1 => ⟨setK_length (fillK_ok hM h16 a n).1 _, setK_16 (fillK_ok hM h16 a n).2 _⟩
theorem fillK_bit {M : List Int} (hM : M.length = 16) (h16 : is16 M) (a : Nat) (j : Nat) : ∀ n, a + n ≤ 256 → bitK (fillK M a n) j = (bitK M j || (decide (a ≤ j) && decide (j < a + n)))
  | 0, _ => by
    have : (decide (a ≤ j) && decide (j < a + 0)) = false := by
      rw [Bool.and_eq_false_iff, decide_eq_false_iff_not, decide_eq_false_iff_not]
      omega
    rw [fillK, this, Bool.or_false]
  | n + 1, h => by
    obtain ⟨h1, h2⟩ := fillK_ok hM h16 a n
    rw [fillK, setK_bit h1 h2 (by omega), fillK_bit hM h16 a j n (by omega), Bool.or_assoc]
    congr 1
    rw [Bool.eq_iff_iff]
    simp only [Bool.or_eq_true, Bool.and_eq_true, decide_eq_true_iff]
    omega
/-- where the first bytes lead -/
def atK (d : List Int) (k : Nat) : Nat := min 256 (sumN d k)
theorem atK_mono (d : List Int) (k : Nat) : atK d k ≤ atK d (k + 1) := by
  have : sumN d k ≤ sumN d (k + 1) := sumN_mono d (Nat.le_succ k)
  unfold atK
  omega
theorem atK_le (d : List Int) (k : Nat) : atK d k ≤ 256 := by unfold atK; omega
def decK (d : List Int) : Nat → List Int
  | 0 => zr16
  | k + 1 => if oddB k then fillK (decK d k) (atK d k) (atK d (k + 1) - atK d k) else decK d k
theorem decK_ok (d : List Int) : ∀ k, (decK d k).length = 16 ∧ is16 (decK d k)
  | 0 => ⟨rfl, zr16_16⟩
  | k + 1 => by
    have ih := decK_ok d k
    rw [decK]
    split
    · exact fillK_ok ih.1 ih.2 _ _
    · exact ih
/-- all bytes, and the cells behind -/
def decA (d : List Int) : List Int := if oddB d.length then fillK (decK d d.length) (atK d d.length) (256 - atK d d.length) else decK d d.length
theorem decA_ok (d : List Int) : (decA d).length = 16 ∧ is16 (decA d) := by
  have ih := decK_ok d d.length
  rw [decA]
  split
  · exact fillK_ok ih.1 ih.2 _ _
  · exact ih
theorem pmL_sum (M : List Int) : sumN (pmL M) (pmL M).length ≤ 256 := by
  have h := (runs_all M 256).sum
  have h2 := pmTo_from M 256
  rw [pmL]
  omega
theorem mask_extK {a b : List Int} (ha : a.length = 16) (hb : b.length = 16) (h1 : is16 a) (h2 : is16 b) (h : ∀ j, j < 256 → bitK a j = bitK b j) : a = b :=
  mask_ext ha hb h1 h2 fun x y hx hy => by
    have := h (16 * y + x) (by omega)
    rw [bitK, bitK, show (16 * y + x) % 16 = x by omega, show (16 * y + x) / 16 = y by omega] at this
    exact this
theorem decK_bit (M : List Int) : ∀ k, k ≤ (pmL M).length → ∀ j, j < 256 → bitK (decK (pmL M) k) j = (decide (j < sumN (pmL M) k) && bitK M j)
  | 0, _ => fun j hj => by
    rw [decK, sumN_zero, show decide (j < 0) = false by simp, Bool.false_and, bitK, zr16_bit]
  | k + 1, hk => fun j hj => by
    have ih := decK_bit M k (by omega) j hj
    have hr := (runs_all M 256).run k (by exact hk) j
    have hm : sumN (pmL M) k ≤ sumN (pmL M) (k + 1) := sumN_mono (pmL M) (Nat.le_succ k)
    have hs := pmL_sum M
    have hm2 := sumN_mono (pmL M) hk
    have hr : sumN (pmL M) k ≤ j → j < sumN (pmL M) (k + 1) → bitK M j = oddB k := hr
    obtain ⟨d1, d2⟩ := decK_ok (pmL M) k
    have e1 : atK (pmL M) k = sumN (pmL M) k := by unfold atK; omega
    have e2 : atK (pmL M) (k + 1) = sumN (pmL M) (k + 1) := by unfold atK; omega
    rw [decK, e1, e2]
    generalize sumN (pmL M) k = a at *
    generalize sumN (pmL M) (k + 1) = b at *
    by_cases h1 : j < a
    · have h2 : j < b := by omega
      rw [decide_eq_true h1, Bool.true_and] at ih
      rw [decide_eq_true h2, Bool.true_and]
      split
      · rw [fillK_bit d1 d2 _ _ _ (by omega), ih]
        have : (decide (a ≤ j) && decide (j < a + (b - a))) = false := by
          rw [Bool.and_eq_false_iff, decide_eq_false_iff_not, decide_eq_false_iff_not]
          omega
        rw [this, Bool.or_false]
      · exact ih
    · rw [decide_eq_false h1, Bool.false_and] at ih
      by_cases h2 : j < b
      · rw [decide_eq_true h2, Bool.true_and, hr (by omega) h2]
        split
        · rename_i ho
          rw [fillK_bit d1 d2 _ _ _ (by omega), ih, ho, decide_eq_true (show a ≤ j by omega), decide_eq_true (show j < a + (b - a) by omega)]
          rfl
        · rename_i ho
          rw [ih]
          cases hb : oddB k
          · rfl
          · exact absurd hb ho
      · rw [decide_eq_false h2, Bool.false_and]
        split
        · rw [fillK_bit d1 d2 _ _ _ (by omega), ih, decide_eq_false (show ¬ j < a + (b - a) by omega), Bool.and_false]
          rfl
        · exact ih
/-- what was packed is found again -/
theorem dec_pack {M : List Int} (hM : M.length = 16) (h16 : is16 M) : decA (pmL M) = M := by
  obtain ⟨a1, a2⟩ := decA_ok (pmL M)
  refine mask_extK a1 hM a2 h16 fun j hj => ?_
  have ih := decK_bit M (pmL M).length (Nat.le_refl _) j hj
  have R := runs_all M 256
  have hs : sumN (pmL M) (pmL M).length = (pmTo M 256).2.1 := R.sum
  have ho : (pmTo M 256).2.2 = oddB (pmL M).length := R.odd
  have hl := R.last j
  have h256 := pmL_sum M
  obtain ⟨d1, d2⟩ := decK_ok (pmL M) (pmL M).length
  have e1 : atK (pmL M) (pmL M).length = sumN (pmL M) (pmL M).length := by unfold atK; omega
  rw [← hs, ho] at hl
  rw [decA, e1]
  generalize sumN (pmL M) (pmL M).length = a at *
  by_cases h1 : j < a
  · rw [decide_eq_true h1, Bool.true_and] at ih
    split
    · rw [fillK_bit d1 d2 _ _ _ (by omega), ih]
      have : (decide (a ≤ j) && decide (j < a + (256 - a))) = false := by
        rw [Bool.and_eq_false_iff, decide_eq_false_iff_not, decide_eq_false_iff_not]
        omega
      rw [this, Bool.or_false]
    · exact ih
  · rw [decide_eq_false h1, Bool.false_and] at ih
    rw [hl (by omega) hj]
    split
    · rename_i hodd
      rw [fillK_bit d1 d2 _ _ _ (by omega), ih, hodd, decide_eq_true (show a ≤ j by omega), decide_eq_true (show j < a + (256 - a) by omega)]
      rfl
    · rename_i hodd
      rw [ih]
      cases hb : oddB (pmL M).length
      · rfl
      · exact absurd hb hodd
/-- what is told of bytes that may be those of a mask -/
def unM (d : List Int) : List Int := if pmL (decA d) = d then decA d else zr16
def unC (d : List Int) : Int := if pmL (decA d) = d then 0 else 5
theorem un_long {d : List Int} (h : 256 < sumN d d.length ∨ 256 < d.length) : pmL (decA d) ≠ d := fun e => by
  have h1 := pmL_sum (decA d)
  have h2 := pmL_length (decA d)
  rw [e] at h1 h2
  omega
end Go.Proofs.YtmagaapdijapiaaDoor
