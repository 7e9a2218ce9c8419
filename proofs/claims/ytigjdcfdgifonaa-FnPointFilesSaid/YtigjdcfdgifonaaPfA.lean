/- Na, Nb, Nc, Nd in one text. -/
import Derived.Test.YtigjdcfdgifonaaRows
import Derived.Test.YtigjdcfdgifonaaSl
import Derived.Test.YtigjdcfdgifonaaWl
import Derived.Deep.Cut
import Derived.Laws.Bits64b
import Derived.Test.YtigjdcfdgifonaaFk
import Derived.Laws.FloatArith
import Derived.Deep.RegionWith
import Derived.Deep.Draws
import Derived.Laws.BitsAllLaws
import Derived.Test.YtigjdcfdgifonaaRp
namespace Go.Proofs.Ytigjdcfdgifonaa
open Go.ChangeShapes Go.WideShapes Go.ChangeAt Go.RowKit

/-- the source's block: the bytes, how many are read, the seed -/
def Src (W : World) (g : Nat) (A : Option Addr) (n c : Nat) (k : Nat) : Prop := ∃ s : Int, 0 ≤ s ∧ s < 18446744073709551616 ∧ Blk W g 121 #[.slice A n c, .int .i64 k, .int .u64 s]
theorem Src.lt {W : World} {g : Nat} {A : Option Addr} {n c k : Nat} (h : Src W g A n c k) : g < W.heap.size := by
  obtain ⟨s, _, _, h⟩ := h
  exact h.lt
theorem u64wrap (x : Int) : 0 ≤ IntKind.wrap .u64 x ∧ IntKind.wrap .u64 x < 18446744073709551616 := by
  have h : IntKind.wrap .u64 x = x % 18446744073709551616 := rfl
  omega
theorem and255 {x : Int} (h0 : 0 ≤ x) (h1 : x < 18446744073709551616) : 0 ≤ bits .and .u64 x 255 ∧ bits .and .u64 x 255 ≤ 255 := by
  obtain ⟨a, rfl⟩ := Int.eq_ofNat_of_zero_le h0
  have h := bits_and_u64_nat a 255 (by omega) (by decide)
  have h2 : a &&& 255 ≤ 255 := Nat.and_le_right
  rw [show ((255 : Nat) : Int) = 255 from rfl] at h
  rw [h]
  omega
theorem wrap64_small {x : Int} (h0 : 0 ≤ x) (h1 : x ≤ 255) : wrap64 x = x := by
  unfold wrap64
  go_num
theorem div40 {x : Int} (h0 : 0 ≤ x) (h1 : x < 18446744073709551616) : 0 ≤ x / 1099511627776 ∧ x / 1099511627776 < 18446744073709551616 := by omega
set_option maxHeartbeats 1600000 in
theorem next_any (g : Nat) (A : Option Addr) (n c : Nat) (l : List Int) (hl : l.length = n) (h255 : is255 l) (k : Nat) (hk : k < 1000000000) (hn : n ≤ 1000000000) (w : World) (hs : Src w g A n c k) (hR : Rd w g 1 A n (l.map (.int .u8))) :
    Calls Try.prog 93 #[.pointer (some ⟨g, 0, none⟩)] w fun e w' => (∃ v : Int, 0 ≤ v ∧ v ≤ 255 ∧ e = .returned (.int .i64 v)) ∧ Src w' g A n c (k + 1) ∧ w.grownBy w' (some g) := by
  obtain ⟨s, hs0, hs1, hb⟩ := hs
  have c0 : w.cell? ⟨g, 0, none⟩ = some (.slice A n c) := hb.cell 0
  have c1 : w.cell? ⟨g, 1, none⟩ = some (.int .i64 k) := hb.cell 1
  have c2 : w.cell? ⟨g, 2, none⟩ = some (.int .u64 s) := hb.cell 2
  have f1 := hb.frozen 1
  have f2 := hb.frozen 2
  by_cases hlt : k < n
  · obtain ⟨b, o, rfl, hbg, hc⟩ := hR.at_ (by omega)
    have cb := hc k (.int .u8 (l[k]'(by omega))) (by rw [List.getElem?_map, List.getElem?_eq_getElem (by omega)]; rfl)
    have hv := h255 _ (List.getElem_mem (l := l) (n := k) (by omega))
    generalize l[k]'(by omega) = v at *
    have hlt' : (k : Int) < n := by omega
    clear hc hR
    go_enter Try.func93, Try.ntmps93
    go_wp2
    go_quiet (fail)
    go_wp2
    go_quiet (fail)
    go_wp2
    go_quiet (fail)
    go_wp2
    go_ret
    refine ⟨⟨_, hv.1, hv.2, rfl⟩, ?_, ?_⟩
    · exact ⟨_, (u64wrap _).1, (u64wrap _).2, (((hb.drewN _).set_ 1 _).set_ 2 _).drewN _⟩
    · exact only_drewN (only_setCell (g := g) (p := ⟨g, 2, none⟩) (only_setCell (g := g) (p := ⟨g, 1, none⟩) (only_drewN (World.grownBy.refl _ _) _) rfl _) rfl _) _
  · have hge : (n : Int) ≤ k := by omega
    clear hR
    go_enter Try.func93, Try.ntmps93
    go_wp2
    go_quiet (fail)
    go_wp2
    go_quiet (fail)
    go_wp2
    go_ret
    obtain ⟨q0, q1⟩ := u64wrap (IntKind.wrap .u64 (IntKind.wrap .u64 (s * 6364136223846793005)) + 1442695040888963407)
    obtain ⟨p0, p1⟩ := and255 (div40 q0 q1).1 (div40 q0 q1).2
    refine ⟨⟨_, ?_, ?_, rfl⟩, ?_, ?_⟩
    · have h : wrap64 (bits .and .u64 (IntKind.wrap .u64 (IntKind.wrap .u64 (IntKind.wrap .u64 (s * 6364136223846793005)) + 1442695040888963407) / 1099511627776) 255) = bits .and .u64 (IntKind.wrap .u64 (IntKind.wrap .u64 (IntKind.wrap .u64 (s * 6364136223846793005)) + 1442695040888963407) / 1099511627776) 255 := wrap64_small p0 p1
      rw [h]; exact p0
    · have h : wrap64 (bits .and .u64 (IntKind.wrap .u64 (IntKind.wrap .u64 (IntKind.wrap .u64 (s * 6364136223846793005)) + 1442695040888963407) / 1099511627776) 255) = bits .and .u64 (IntKind.wrap .u64 (IntKind.wrap .u64 (IntKind.wrap .u64 (s * 6364136223846793005)) + 1442695040888963407) / 1099511627776) 255 := wrap64_small p0 p1
      rw [h]; exact p1
    · exact ⟨_, q0, q1, (((hb.drewN _).set_ 1 _).set_ 2 _).drewN _⟩
    · exact only_drewN (only_setCell (g := g) (p := ⟨g, 2, none⟩) (only_setCell (g := g) (p := ⟨g, 1, none⟩) (only_drewN (World.grownBy.refl _ _) _) rfl _) rfl _) _
/-- what a call of the source gives: a number, and the source has gone on by at most d bytes -/
def Gone (w : World) (g : Nat) (A : Option Addr) (n c k d : Nat) (w' : World) : Prop := (∃ k', k' ≤ k + d ∧ Src w' g A n c k') ∧ w.grownBy w' (some g)
set_option maxHeartbeats 1600000 in
theorem pick_any (m : Int) (hm1 : 2 ≤ m) (hm2 : m ≤ 200) (g : Nat) (A : Option Addr) (n c : Nat) (l : List Int) (hl : l.length = n) (h255 : is255 l) (k : Nat) (hk : k < 1000000000) (hn : n ≤ 1000000000) (w : World) (hs : Src w g A n c k) (hR : Rd w g 1 A n (l.map (.int .u8))) :
    Calls Try.prog 64 #[.pointer (some ⟨g, 0, none⟩), .int .i64 m] w fun e w' => (∃ v : Int, 0 ≤ v ∧ v < m ∧ e = .returned (.int .i64 v)) ∧ Gone w g A n c k 1 w' := by
  have hx := next_any g A n c l hl h255 k hk hn w hs hR
  have HX := Lib.hid hx
  clear hx hs hR
  go_enter Try.func64, Try.ntmps64
  go_wp2_with (go_at_call 93; refine HX.out.mono ?_; rintro e w2 ⟨⟨v, hv0, hv1, rfl⟩, hs2, hg2⟩; have HS := Lib.hid hs2; have HG := Lib.hid hg2; clear hs2 hg2)
  go_ret
  exact ⟨⟨_, Int.emod_nonneg _ (by omega), Int.emod_lt_of_pos _ (by omega), rfl⟩, ⟨k + 1, Nat.le_refl _, HS.out⟩, HG.out⟩
set_option maxHeartbeats 1600000 in
theorem one_any (m : Int) (hm1 : 2 ≤ m) (hm2 : m ≤ 200) (g : Nat) (A : Option Addr) (n c : Nat) (l : List Int) (hl : l.length = n) (h255 : is255 l) (k : Nat) (hk : k < 1000000000) (hn : n ≤ 1000000000) (w : World) (hs : Src w g A n c k) (hR : Rd w g 1 A n (l.map (.int .u8))) :
    Calls Try.prog 94 #[.pointer (some ⟨g, 0, none⟩), .int .i64 m] w fun e w' => (∃ b : Bool, e = .returned (.bool b)) ∧ Gone w g A n c k 1 w' := by
  have hx := pick_any m hm1 hm2 g A n c l hl h255 k hk hn w hs hR
  have HX := Lib.hid hx
  clear hx hs hR
  go_enter Try.func94, Try.ntmps94
  go_wp2_with (go_at_call 64; refine HX.out.mono ?_; rintro e w2 ⟨⟨v, hv0, hv1, rfl⟩, hg2⟩; have HG := Lib.hid hg2; clear hg2)
  go_ret
  exact ⟨⟨_, rfl⟩, HG.out⟩
end Go.Proofs.Ytigjdcfdgifonaa
namespace Go.Proofs.Ytigjdcfdgifonaa
open Go.ChangeShapes Go.WideShapes Go.ChangeAt Go.RowKit

theorem frombits64_run (x : Int) (W : World) : (callFunc 118 #[.int .u64 x]).run Try.prog W = .ok (.value (.float .f64 x.toNat)) W := by kernel_rfl
theorem bits64_run (x : Nat) (W : World) : (callFunc 119 #[.float .f64 x]).run Try.prog W = .ok (.value (.int .u64 x)) W := by kernel_rfl
theorem NaN_any (w : World) : Calls Try.prog 114 #[] w fun e w' => e = .returned (.float .f64 9221120237041090561) ∧ w' = w := by
  have h := frombits64_run
  go_enter Try.func114, Try.ntmps114
  go_wp2_with (simp only [h])
  go_ret
  exact ⟨rfl, rfl⟩
theorem Inf_pos (w : World) : Calls Try.prog 115 #[.int .i64 1] w fun e w' => e = .returned (.float .f64 9218868437227405312) ∧ w' = w := by
  have h := frombits64_run
  go_enter Try.func115, Try.ntmps115
  go_wp2_with (simp only [h])
  go_ret
  exact ⟨rfl, rfl⟩
theorem Inf_neg (w : World) : Calls Try.prog 115 #[.int .i64 (-1)] w fun e w' => e = .returned (.float .f64 18442240474082181120) ∧ w' = w := by
  have h := frombits64_run
  go_enter Try.func115, Try.ntmps115
  go_wp2_with (simp only [h])
  go_ret
  exact ⟨rfl, rfl⟩
theorem Copysign_any (w : World) : Calls Try.prog 116 #[.float .f64 0, .float .f64 13830554455654793216] w fun e w' => e = .returned (.float .f64 9223372036854775808) ∧ w' = w := by
  have h := frombits64_run
  have h2 := bits64_run
  go_enter Try.func116, Try.ntmps116
  go_wp2_with (simp only [h, h2])
  go_ret
  exact ⟨rfl, rfl⟩

/-- any float32 -/
def F32 (e : Ending) : Prop := ∃ x : Nat, x < 4294967296 ∧ e = .returned (.float .f32 x)
theorem plain_quo : ∀ k : Nat, k < 129 → ∃ r, r < 4294967296 ∧ floatBits .quo .f32 (floatOfInt .f32 ((k : Int) - 64)) 1090519040 = some r := by
  have h : ∀ k : Nat, k < 129 → (floatBits .quo .f32 (floatOfInt .f32 ((k : Int) - 64)) 1090519040).any (fun r => decide (r < 4294967296)) = true := by decide +kernel
  intro k hk
  have := h k hk
  cases e : floatBits .quo .f32 (floatOfInt .f32 ((k : Int) - 64)) 1090519040 with
  | none => rw [e] at this; cases this
  | some r => rw [e] at this; exact ⟨r, by simpa using this, rfl⟩
theorem tiny_mul : ∀ k : Nat, k < 9 → ∃ r, r < 4294967296 ∧ floatBits .mul .f32 2147483649 (floatOfInt .f32 (k : Int)) = some r := by
  have h : ∀ k : Nat, k < 9 → (floatBits .mul .f32 2147483649 (floatOfInt .f32 (k : Int))).any (fun r => decide (r < 4294967296)) = true := by decide +kernel
  intro k hk
  have := h k hk
  cases e : floatBits .mul .f32 2147483649 (floatOfInt .f32 (k : Int)) with
  | none => rw [e] at this; cases this
  | some r => rw [e] at this; exact ⟨r, by simpa using this, rfl⟩
set_option maxHeartbeats 1600000 in
theorem l01Plain_any (g : Nat) (A : Option Addr) (n c : Nat) (l : List Int) (hl : l.length = n) (h255 : is255 l) (k : Nat) (hk : k < 1000000000) (hn : n ≤ 1000000000) (w : World) (hs : Src w g A n c k) (hR : Rd w g 1 A n (l.map (.int .u8))) :
    Calls Try.prog 107 #[.pointer (some ⟨g, 0, none⟩)] w fun e w' => F32 e ∧ Gone w g A n c k 1 w' := by
  have hx := pick_any 129 (by decide) (by decide) g A n c l hl h255 k hk hn w hs hR
  have HX := Lib.hid hx
  clear hx hs hR
  go_enter Try.func107, Try.ntmps107
  go_wp2_with fail
  refine HX.out.mono ?_
  rintro e w2 ⟨⟨v, hv0, hv1, rfl⟩, hg2⟩
  obtain ⟨a, rfl⟩ := Int.eq_ofNat_of_zero_le hv0
  obtain ⟨r, hr, hq⟩ := plain_quo a (by omega)
  have hq2 := fun (W : World) t => run_float_arith (P := Try.prog) W .quo t .f32 _ _ _ hq
  have HG := Lib.hid hg2
  clear hg2 hq
  go_wp2
  go_ret
  exact ⟨⟨r, hr, rfl⟩, HG.out⟩
end Go.Proofs.Ytigjdcfdgifonaa
namespace Go.Proofs.Ytigjdcfdgifonaa
open Go.ChangeShapes Go.WideShapes Go.ChangeAt Go.RowKit

theorem nan32_lt (x t : Nat) : (Question.nanConv .f32 x).cut t < 4294967296 := by
  have h : (Question.nanConv .f32 x).cut t = (t % 2) * 2147483648 + 2139095040 + 1 + (t / 2) % 8388607 := rfl
  rw [h]
  obtain ⟨y, hy⟩ : ∃ y, y = (t / 2) % 8388607 := ⟨_, rfl⟩
  have hy2 : y < 8388607 := by omega
  rw [← hy]
  clear hy h
  rcases Nat.mod_two_eq_zero_or_one t with e | e <;> rw [e] <;> omega
theorem run_nan32 (W : World) : ∃ r, r < 4294967296 ∧ (convert 75 104 (.float .f64 9221120237041090561)).run Try.prog W = .ok (.float .f32 r) W.drew := by
  refine ⟨_, nan32_lt 9221120237041090561 (W.tape W.drawn (.nanConv .f32 9221120237041090561)), ?_⟩
  kernel_rfl
theorem run_f32 {x r : Nat} (h : floatToFloatBits .f64 x .f32 = some r) (W : World) : (convert 75 104 (.float .f64 x)).run Try.prog W = .ok (.float .f32 r) W :=
  run_convert_float_float W _ _ .f64 .f32 x r (by kernel_rfl) Try.underlying104 h
theorem Gone.step {w w1 w2 : World} {g n c k k1 d d1 d2 : Nat} {A : Option Addr} (hg1 : w.grownBy w1 (some g)) (hk1 : k1 ≤ k + d1) (h2 : Gone w1 g A n c k1 d2 w2) (hd : d1 + d2 ≤ d) : Gone w g A n c k d w2 := by
  obtain ⟨⟨k2, hk2, hs2⟩, hg2⟩ := h2
  exact ⟨⟨k2, by omega, hs2⟩, hg1.trans hg2⟩
theorem Gone.le {w w1 : World} {g n c k d d1 : Nat} {A : Option Addr} (h1 : Gone w g A n c k d1 w1) (hd : d1 ≤ d) : Gone w g A n c k d w1 := by
  obtain ⟨⟨k1, hk1, hs1⟩, hg1⟩ := h1
  exact ⟨⟨k1, by omega, hs1⟩, hg1⟩
theorem Gone.drew {w w1 : World} {g n c k d : Nat} {A : Option Addr} (h : Gone w g A n c k d w1) : Gone w g A n c k d w1.drew := ⟨h.1, only_drew h.2⟩
theorem Gone.drewN {w w1 : World} {g n c k d : Nat} {A : Option Addr} (h : Gone w g A n c k d w1) (q : Nat) : Gone w g A n c k d (w1.drewN q) := ⟨h.1, only_drewN h.2 q⟩

theorem Src.alloc {w : World} {g n c k : Nat} {A : Option Addr} (h : Src w g A n c k) (o : Obj) : Src (w.alloc o) g A n c k := by
  obtain ⟨s, h0, h1, hb⟩ := h
  exact ⟨s, h0, h1, hb.alloc o⟩
theorem or32 {x y : Int} (h0 : 0 ≤ x) (h1 : x < 4294967296) (h2 : 0 ≤ y) (h3 : y < 4294967296) : 0 ≤ bits .or .u32 x y ∧ bits .or .u32 x y < 4294967296 := by
  obtain ⟨a, rfl⟩ := Int.eq_ofNat_of_zero_le h0
  obtain ⟨b, rfl⟩ := Int.eq_ofNat_of_zero_le h2
  have h := u32_or_nat a b (by omega) (by omega)
  have hl : a ||| b < 2 ^ 32 := Nat.or_lt_two_pow (by omega) (by omega)
  rw [h]
  omega
theorem pick7 (v : Int) (h0 : 0 ≤ v) (h1 : v < 7) : ∃ x : Nat, x < 4294967296 ∧ (#[Value.float .f32 0, .float .f32 2139095039, .float .f32 1, .float .f32 8388608, .float .f32 8388607, .float .f32 1266679808, .float .f32 1065353216] : Array Value)[v.toNat]? = some (.float .f32 x) := by
  have : v = 0 ∨ v = 1 ∨ v = 2 ∨ v = 3 ∨ v = 4 ∨ v = 5 ∨ v = 6 := by omega
  rcases this with rfl | rfl | rfl | rfl | rfl | rfl | rfl
  all_goals exact ⟨_, by decide, rfl⟩

set_option maxRecDepth 20000 in
set_option maxHeartbeats 6400000 in
theorem l01Any_any (g : Nat) (A : Option Addr) (n c : Nat) (l : List Int) (hl : l.length = n) (h255 : is255 l) (k : Nat) (hk : k < 900000000) (hn : n ≤ 1000000000) (w : World) (hs : Src w g A n c k) (hR : Rd w g 1 A n (l.map (.int .u8))) :
    Calls Try.prog 106 #[.pointer (some ⟨g, 0, none⟩)] w fun e w' => F32 e ∧ Gone w g A n c k 5 w' := by
  have hx := pick_any 8 (by decide) (by decide) g A n c l hl h255 k (by omega) hn w hs hR
  have HX := Lib.hid hx
  have hgl := hs.lt
  have hfb := frombits_run
  clear hx
  go_enter Try.func106, Try.ntmps106
  go_wp2_with fail
  refine HX.out.mono ?_
  rintro e w1 ⟨⟨v, hv0, hv1, rfl⟩, ⟨k1, hk1, hs1⟩, hg1⟩
  have hR1 := hR.grown hg1 (by omega) (fun g' e => by cases e; omega)
  have hgl1 := hs1.lt
  have HP := Lib.hid (fun m h1 h2 W k2 hk2 hs2 hR2 => pick_any m h1 h2 g A n c l hl h255 k2 hk2 hn W hs2 hR2)
  have G1 := Lib.hid hg1
  have HR1 := Lib.hid hR1
  have HS1 := Lib.hid hs1
  clear HX hs hR hR1 hs1 hg1
  by_cases h0 : v = 0
  · subst h0
    go_wp2_with fail
    go_loopw [3, 4] (fun bs i wr => ∃ q : Nat, q ≤ 4 ∧ i = .int .i64 q ∧ (∃ b : Int, 0 ≤ b ∧ b < 4294967296 ∧ bs = .int .u32 b) ∧ ∃ kq, kq ≤ k + 1 + q ∧ Src wr g A n c kq ∧ Rd wr g 1 A n (l.map (.int .u8)) ∧ w.grownBy wr (some g)) (fun _ i _ => 4 - (intOf i).toNat)
    case atStart => exact ⟨0, by omega, rfl, ⟨0, by omega, by omega, rfl⟩, k1, by omega, HS1.out, HR1.out, G1.out⟩
    case round =>
      obtain ⟨q, hq, rfl, ⟨b, hb0, hb1, rfl⟩, kq, hkq, hsq, hrq, hgq⟩ := hrel
      by_cases hlt : q < 4
      · have hgl2 := hsq.lt
        have hx := HP.out 200 (by decide) (by decide) wr kq (by omega) hsq hrq
        have HX := Lib.hid hx
        have HRQ := Lib.hid hrq
        have HGQ := Lib.hid hgq
        clear hx hsq hrq hgq
        go_wp2_with (go_at_call 64; refine HX.out.mono ?_; rintro e w2 ⟨⟨v, hv0, hv1, rfl⟩, hG2⟩; have HG2 := Lib.hid hG2; clear hG2)
        obtain ⟨⟨k3, hk3, hs3⟩, hg3⟩ := HG2.out
        obtain ⟨o0, o1⟩ := or32 (x := IntKind.wrap .u32 (b * 256)) (y := v) (by have h : IntKind.wrap .u32 (b * 256) = (b * 256) % 4294967296 := rfl; omega) (by have h : IntKind.wrap .u32 (b * 256) = (b * 256) % 4294967296 := rfl; omega) hv0 (by omega)
        exact ⟨⟨q + 1, by omega, by go_num, ⟨_, o0, o1, rfl⟩, k3, by omega, hs3, HRQ.out.grown hg3 (by omega) (fun g' e => by cases e; omega), HGQ.out.trans hg3⟩, by simp [intOf]; omega⟩
      · obtain rfl : q = 4 := by omega
        go_wp2
        go_ret
        exact ⟨⟨_, by omega, rfl⟩, ⟨kq, by omega, hsq⟩, hgq⟩
  · by_cases h1 : v = 1
    · subst h1
      go_wp2_with fail
      refine (HP.out 7 (by decide) (by decide) _ k1 (by omega) (HS1.out.alloc _) (HR1.out.alloc (by omega) _)).mono ?_
      rintro e w2 ⟨⟨v, hv0, hv1, rfl⟩, hG2⟩
      obtain ⟨x, hx0, hx1⟩ := pick7 v hv0 hv1
      have hG2' : Gone w1 g A n c k1 1 w2 := ⟨hG2.1, (only_alloc (World.grownBy.refl _ _) _).trans hG2.2⟩
      have hblk : Blk w2 w1.heap.size 104 #[.float .f32 0, .float .f32 2139095039, .float .f32 1, .float .f32 8388608, .float .f32 8388607, .float .f32 1266679808, .float .f32 1065353216] := (hG2.2.block _ (by rw [size_alloc]; omega) (by intro e; injection e; omega)).trans (Blk.newAt rfl rfl)
      have cx : w2.cell? ⟨w1.heap.size, v.toNat, none⟩ = some (.float .f32 x) := (hblk.cell _).trans hx1
      have HG2 := Lib.hid hG2'
      obtain ⟨u, rfl⟩ := Int.eq_ofNat_of_zero_le hv0
      rw [Int.toNat_natCast] at cx
      clear hblk hx1 hG2 hG2'
      go_wp2
      go_ret
      exact ⟨⟨x, hx0, rfl⟩, Gone.step G1.out hk1 HG2.out (by decide)⟩
    · by_cases h2 : v = 2
      · subst h2
        go_wp2_with fail
        refine (HP.out 6 (by decide) (by decide) _ k1 (by omega) HS1.out HR1.out).mono ?_
        rintro e w2 ⟨⟨v, hv0, hv1, rfl⟩, hG2⟩
        have HG2 := Lib.hid hG2
        clear hG2
        by_cases e0 : v = 0
        · subst e0
          obtain ⟨r, hr, hrn⟩ := run_nan32 w2
          go_wp2_with (go_at_call 114; refine (NaN_any _).mono ?_; rintro e w3 ⟨rfl, rfl⟩)
          go_ret
          exact ⟨⟨r, hr, rfl⟩, (Gone.step G1.out hk1 HG2.out (by decide)).drew⟩
        · by_cases e1 : v = 1
          · subst e1
            have hc := run_f32 (x := 9218868437227405312) (r := 2139095040) (by decide +kernel)
            go_wp2_with (go_at_call 115; refine (Inf_pos _).mono ?_; rintro e w3 ⟨rfl, rfl⟩)
            go_ret
            exact ⟨⟨_, by decide, rfl⟩, Gone.step G1.out hk1 HG2.out (by decide)⟩
          · by_cases e2 : v = 2
            · subst e2
              have hc := run_f32 (x := 18442240474082181120) (r := 4286578688) (by decide +kernel)
              go_wp2_with (go_at_call 115; refine (Inf_neg _).mono ?_; rintro e w3 ⟨rfl, rfl⟩)
              go_ret
              exact ⟨⟨_, by decide, rfl⟩, Gone.step G1.out hk1 HG2.out (by decide)⟩
            · by_cases e3 : v = 3
              · subst e3
                have hc := run_f32 (x := 9223372036854775808) (r := 2147483648) (by decide +kernel)
                go_wp2_with (go_at_call 116; refine (Copysign_any _).mono ?_; rintro e w3 ⟨rfl, rfl⟩)
                go_ret
                exact ⟨⟨_, by decide, rfl⟩, Gone.step G1.out hk1 HG2.out (by decide)⟩
              · obtain ⟨⟨k2, hk2, hs2⟩, hg2⟩ := HG2.out
                have HG3 := Lib.hid (G1.out.trans hg2)
                have hs2lt := hs2.lt
                have HS2 := Lib.hid hs2
                have HR2 := Lib.hid (HR1.out.grown hg2 (by omega) (fun g' e => by cases e; omega))
                clear hs2 hg2 HG2
                go_wp2_with fail
                refine (HP.out 9 (by decide) (by decide) _ k2 (by omega) HS2.out HR2.out).mono ?_
                rintro e w3 ⟨⟨v3, hv30, hv31, rfl⟩, hG3⟩
                obtain ⟨a, rfl⟩ := Int.eq_ofNat_of_zero_le hv30
                obtain ⟨r, hr, hq⟩ := tiny_mul a (by omega)
                have hq2 := fun (W : World) t => run_float_arith (P := Try.prog) W .mul t .f32 _ _ _ hq
                have HG4 := Lib.hid hG3
                clear hG3 hq
                go_wp2
                go_ret
                exact ⟨⟨r, hr, rfl⟩, Gone.step HG3.out (by omega) HG4.out (by decide : 2 + 1 ≤ 5)⟩
      · go_wp2_with fail
        refine (l01Plain_any g A n c l hl h255 k1 (by omega) hn w1 HS1.out HR1.out).mono ?_
        rintro e w2 ⟨⟨x, hx, rfl⟩, hG2⟩
        go_wp2
        go_ret
        exact ⟨⟨x, hx, rfl⟩, Gone.step G1.out hk1 hG2 (by decide)⟩
end Go.Proofs.Ytigjdcfdgifonaa
namespace Go.Proofs.Ytigjdcfdgifonaa
open Go.ChangeShapes Go.WideShapes Go.ChangeAt Go.RowKit

/-- any complex64 -/
def C32 (e : Ending) : Prop := ∃ x y : Nat, x < 4294967296 ∧ y < 4294967296 ∧ e = .returned (.complex .f32 x y)
set_option maxHeartbeats 1600000 in
theorem l02Plain_any (g : Nat) (A : Option Addr) (n c : Nat) (l : List Int) (hl : l.length = n) (h255 : is255 l) (k : Nat) (hk : k < 900000000) (hn : n ≤ 1000000000) (w : World) (hs : Src w g A n c k) (hR : Rd w g 1 A n (l.map (.int .u8))) :
    Calls Try.prog 96 #[.pointer (some ⟨g, 0, none⟩)] w fun e w' => C32 e ∧ Gone w g A n c k 2 w' := by
  have hx := l01Plain_any g A n c l hl h255 k (by omega) hn w hs hR
  have HX := Lib.hid hx
  have hgl := hs.lt
  clear hx
  go_enter Try.func96, Try.ntmps96
  go_wp2_with fail
  refine HX.out.mono ?_
  rintro e w2 ⟨⟨x, hx0, rfl⟩, ⟨k2, hk2, hs2⟩, hg2⟩
  have hR2 := hR.grown hg2 (by omega) (fun g' e => by cases e; omega)
  have hy := l01Plain_any g A n c l hl h255 k2 (by omega) hn w2 hs2 hR2
  have HY := Lib.hid hy
  have HG := Lib.hid hg2
  clear hy hs hR hs2 hR2 hg2 HX
  go_wp2_with fail
  refine HY.out.mono ?_
  rintro e w3 ⟨⟨y, hy0, rfl⟩, hg3⟩
  have HG3 := Lib.hid hg3
  clear hg3
  go_wp2
  go_ret
  exact ⟨⟨x, y, hx0, hy0, rfl⟩, Gone.step HG.out hk2 HG3.out (by decide)⟩
set_option maxHeartbeats 1600000 in
theorem l02Any_any (g : Nat) (A : Option Addr) (n c : Nat) (l : List Int) (hl : l.length = n) (h255 : is255 l) (k : Nat) (hk : k < 800000000) (hn : n ≤ 1000000000) (w : World) (hs : Src w g A n c k) (hR : Rd w g 1 A n (l.map (.int .u8))) :
    Calls Try.prog 95 #[.pointer (some ⟨g, 0, none⟩)] w fun e w' => C32 e ∧ Gone w g A n c k 11 w' := by
  have hx := l01Any_any g A n c l hl h255 k (by omega) hn w hs hR
  have HX := Lib.hid hx
  have hgl := hs.lt
  clear hx
  go_enter Try.func95, Try.ntmps95
  go_wp2_with fail
  refine HX.out.mono ?_
  rintro e w2 ⟨⟨x, hx0, rfl⟩, ⟨k2, hk2, hs2⟩, hg2⟩
  have hR2 := hR.grown hg2 (by omega) (fun g' e => by cases e; omega)
  have hgl2 := hs2.lt
  have hy := one_any 3 (by decide) (by decide) g A n c l hl h255 k2 (by omega) hn w2 hs2 hR2
  have HY := Lib.hid hy
  have HG := Lib.hid hg2
  have HR2 := Lib.hid hR2
  clear hy hs hR hs2 hR2 hg2 HX
  go_wp2_with fail
  refine HY.out.mono ?_
  rintro e w3 ⟨⟨b, rfl⟩, ⟨k3, hk3, hs3⟩, hg3⟩
  have hR3 := HR2.out.grown hg3 (by omega) (fun g' e => by cases e; omega)
  have hz := l01Any_any g A n c l hl h255 k3 (by omega) hn w3 hs3 hR3
  have HZ := Lib.hid hz
  have HS3 := Lib.hid hs3
  have HG3 := Lib.hid (HG.out.trans hg3)
  clear hz hs3 hg3 hR3 HY HR2
  cases b
  · go_wp2_with fail
    refine HZ.out.mono ?_
    rintro e w4 ⟨⟨y, hy0, rfl⟩, hg4⟩
    have HG4 := Lib.hid hg4
    clear hg4
    go_wp2
    go_ret
    exact ⟨⟨x, y, hx0, hy0, rfl⟩, Gone.step HG3.out (by omega) HG4.out (by decide : 6 + 5 ≤ 11)⟩
  · go_wp2
    go_ret
    exact ⟨⟨x, 0, hx0, by decide, rfl⟩, ⟨k3, by omega, HS3.out⟩, HG3.out⟩
set_option maxHeartbeats 1600000 in
theorem l02Some_any (g : Nat) (A : Option Addr) (n c : Nat) (l : List Int) (hl : l.length = n) (h255 : is255 l) (k : Nat) (hk : k < 700000000) (hn : n ≤ 1000000000) (w : World) (hs : Src w g A n c k) (hR : Rd w g 1 A n (l.map (.int .u8))) :
    Calls Try.prog 65 #[.pointer (some ⟨g, 0, none⟩)] w fun e w' => C32 e ∧ Gone w g A n c k 12 w' := by
  have hx := one_any 4 (by decide) (by decide) g A n c l hl h255 k (by omega) hn w hs hR
  have HX := Lib.hid hx
  have hgl := hs.lt
  clear hx
  go_enter Try.func65, Try.ntmps65
  go_wp2_with fail
  refine HX.out.mono ?_
  rintro e w2 ⟨⟨b, rfl⟩, ⟨k2, hk2, hs2⟩, hg2⟩
  have hR2 := hR.grown hg2 (by omega) (fun g' e => by cases e; omega)
  have hy := l02Any_any g A n c l hl h255 k2 (by omega) hn w2 hs2 hR2
  have hz := l02Plain_any g A n c l hl h255 k2 (by omega) hn w2 hs2 hR2
  have HY := Lib.hid hy
  have HZ := Lib.hid hz
  have HG := Lib.hid hg2
  clear hy hz hs hR hs2 hR2 hg2 HX
  cases b
  · go_wp2_with fail
    refine HZ.out.mono ?_
    rintro e w3 ⟨⟨x, y, hx0, hy0, rfl⟩, hg3⟩
    have HG3 := Lib.hid hg3
    clear hg3
    go_wp2
    go_ret
    exact ⟨⟨x, y, hx0, hy0, rfl⟩, Gone.step HG.out hk2 HG3.out (by decide)⟩
  · go_wp2_with fail
    refine HY.out.mono ?_
    rintro e w3 ⟨⟨x, y, hx0, hy0, rfl⟩, hg3⟩
    have HG3 := Lib.hid hg3
    clear hg3
    go_wp2
    go_ret
    exact ⟨⟨x, y, hx0, hy0, rfl⟩, Gone.step HG.out hk2 HG3.out (by decide)⟩
/-- the bits of float32 -/
def is32 (l : List (Nat × Nat)) : Prop := ∀ p ∈ l, p.1 < 4294967296 ∧ p.2 < 4294967296
theorem l00From_any (A : Option Addr) (n c : Nat) (w : World) :
    Calls Try.prog 63 #[.slice A n c] w fun e w' => e = .returned (.pointer (some ⟨w.heap.size, 0, none⟩)) ∧ Src w' w.heap.size A n c 0 ∧ Below w.heap.size w w' := by
  go_enter Try.func63, Try.ntmps63
  go_wp2
  go_ret
  exact ⟨rfl, ⟨0, by omega, by omega, Blk.newAt rfl rfl⟩, (Below.refl _ _).alloc (Nat.le_refl _) _⟩
theorem Src.grown {w w' : World} {g n c k : Nat} {A : Option Addr} {row : Option Nat} (h : Src w g A n c k) (hg : w.grownBy w' row) (hr : row ≠ some g) : Src w' g A n c k := by
  have hl := h.lt
  obtain ⟨s, h0, h1, hb⟩ := h
  exact ⟨s, h0, h1, (hg.block g hl (fun e => hr e.symm)).trans hb⟩
set_option maxRecDepth 20000 in
set_option maxHeartbeats 3200000 in
theorem sA2Points_any (A : Option Addr) (n c : Nat) (l : List Int) (hl : l.length = n) (h255 : is255 l) (hn : n ≤ 1000000000) (w : World) (hR : Rd w w.heap.size 1 A n (l.map (.int .u8))) :
    Calls Try.prog 34 #[.slice A n c, .int .i64 8] w fun e w' => ∃ xs : List (Nat × Nat), xs.length ≤ 8 ∧ is32 xs ∧ ∃ g' c', e = .returned (.slice (some ⟨g', 0, none⟩) xs.length c') ∧ Own w' w.heap.size w'.heap.size 39 1 (some ⟨g', 0, none⟩) xs.length c' (cxs xs) ∧ Below w.heap.size w w' := by
  obtain ⟨i0, hi, hz0, hz1, hz2⟩ := info_parts Cx_info
  have HRD := Lib.hid hR
  clear hR
  go_enter Try.func34, Try.ntmps34
  go_wp2_with fail
  refine (l00From_any A n c w).mono ?_
  rintro e w1 ⟨rfl, hs1, hb1⟩
  have z1 := hs1.lt
  have hs2 := hs1.alloc (.cells #[] 39)
  have hR2 := (HRD.out.below hb1 (Nat.le_refl _)).alloc (by omega) (.cells #[] 39)
  have o2 : (w1.alloc (.cells #[] 39)).ownsRow w1.heap.size 39 1 (.slice (some ⟨w1.heap.size, 0, none⟩) 0 0) 0 (cxs []) := World.ownsRow_lit (e := 39) (base := w1.heap.size) (size := 1) w1 #[] 0 (Nat.le_refl _) (by unfold maxLen; omega) rfl
  have b2 := hb1.alloc (by omega) (.cells #[] 39)
  have HX := Lib.hid (pick_any 9 (by decide) (by decide) w.heap.size A n c l hl h255 0 (by omega) hn _ hs2 hR2)
  have HR2 := Lib.hid hR2
  have HO2 := Lib.hid o2
  have B2 := Lib.hid b2
  have HS := Lib.hid (fun W k2 hk2 hs2 hR2 => l02Some_any w.heap.size A n c l hl h255 k2 hk2 hn W hs2 hR2)
  clear hs1 hb1 hs2 hR2 o2 b2 HRD
  go_wp2_with fail
  refine HX.out.mono ?_
  rintro e w3 ⟨⟨r, hr0, hr1, rfl⟩, ⟨k3, hk3, hs3⟩, hg3⟩
  have hz3 := hg3.size
  rw [size_alloc] at hz3
  have hR3 := HR2.out.grown hg3 (by rw [size_alloc]; omega) (fun g' e => by cases e; omega)
  obtain ⟨A2, c2, e2, hO2⟩ := Own.of_row HO2.out
  cases e2
  have hO3 := (hO2.grown hg3 (fun g' e => by cases e; omega)).more hg3.size
  have b3 := B2.out.grown hg3 (by rw [size_alloc]; omega) (fun g' e => by cases e; omega)
  obtain ⟨a, rfl⟩ := Int.eq_ofNat_of_zero_le hr0
  have H3 : Hid (Src w3 w.heap.size A n c k3 ∧ Rd w3 w.heap.size 1 A n (l.map (.int .u8)) ∧ Own w3 w1.heap.size w3.heap.size 39 1 (some ⟨w1.heap.size, 0, none⟩) 0 0 (cxs []) ∧ Below w.heap.size w w3) := Lib.hid ⟨hs3, hR3, hO3, b3⟩
  clear hs3 hg3 hR3 hO2 hO3 b3 HX HR2 HO2 B2
  go_wp2_with fail
  go_loopw [6, 7] (fun v i wr => ∃ xs : List (Nat × Nat), ∃ q : Nat, xs.length + q ≤ 8 ∧ i = .int .i64 q ∧ is32 xs ∧ (∃ g2 cc, v = .slice (some ⟨g2, 0, none⟩) xs.length cc ∧ Own wr w1.heap.size wr.heap.size 39 1 (some ⟨g2, 0, none⟩) xs.length cc (cxs xs)) ∧ w1.heap.size ≤ wr.heap.size ∧ (∃ kq, kq ≤ 1 + 12 * xs.length ∧ Src wr w.heap.size A n c kq) ∧ Rd wr w.heap.size 1 A n (l.map (.int .u8)) ∧ Below w.heap.size w wr) (fun _ i _ => (intOf i).toNat)
  case atStart => exact ⟨[], a, by simp; omega, rfl, (fun p hp => by cases hp), ⟨_, _, rfl, H3.out.2.2.1⟩, by omega, ⟨k3, by simp; omega, H3.out.1⟩, H3.out.2.1, H3.out.2.2.2⟩
  case round =>
    clear H3
    obtain ⟨xs, q, hq, rfl, h32, ⟨g2, cc, rfl, hO⟩, hzr, ⟨kq, hkq, hsq⟩, hRq, hbq⟩ := hrel
    by_cases h0 : 0 < q
    · have hx := HS.out wr kq (by omega) hsq hRq
      have HX := Lib.hid hx
      have HQ : Hid (Rd wr w.heap.size 1 A n (l.map (.int .u8)) ∧ Own wr w1.heap.size wr.heap.size 39 1 (some ⟨g2, 0, none⟩) xs.length cc (cxs xs) ∧ Below w.heap.size w wr) := Lib.hid ⟨hRq, hO, hbq⟩
      have hlx : xs.length ≤ 8 := by omega
      have hzw := hsq.lt
      clear hx hRq hO hbq hsq
      go_wp2_with (first
        | (go_at_call 65; refine HX.out.mono ?_; rintro e w5 ⟨⟨x, y, hx0, hy0, rfl⟩, ⟨k5, hk5, hs5⟩, hg5⟩; have hz5 := hg5.size; have H5 : Hid (Src w5 w.heap.size A n c k5 ∧ Rd w5 w.heap.size 1 A n (l.map (.int .u8)) ∧ w5.ownsRow w1.heap.size 39 1 (.slice (some ⟨g2, 0, none⟩) xs.length cc) xs.length (cxs xs) ∧ Below w.heap.size w w5) := Lib.hid ⟨hs5, HQ.out.1.grown hg5 (by omega) (fun g' e => by cases e; omega), (HQ.out.2.1.grown hg5 (fun g' e => by cases e; omega)).more hz5 |>.row, HQ.out.2.2.grown hg5 (by omega) (fun g' e => by cases e; omega)⟩; have HN5 := Lib.hid (cx_news w5 x y); clear hs5 hg5)
        | (at_builtin; refine wpList_append_own _ rfl _ _ 24 rfl w1.heap.size 39 i0 _ 1 8 Try.underlying24 hi hz0 hz1 hz2 rfl (by decide) (.slice (some ⟨g2, 0, none⟩) xs.length cc) xs.length _ rfl (H5.out.2.2.1.alloc _) ⟨w5.heap.size, 0, none⟩ 1 1 (cxs [(x, y)]) rfl rfl HN5.out cxs_one' (by unfold maxLen; omega) (by omega) (by rw [size_alloc]; omega) ?_; intro v' w6 hown' hgrow _; have HOWN := Lib.hid hown'; have HGR := Lib.hid hgrow; clear hown' hgrow))
      obtain ⟨A1, c1', hve, hOO⟩ := Own.of_row HOWN.out
      obtain ⟨g3, cur1, hA1, _⟩ := hOO.at_ (by omega)
      subst hve hA1
      have hlo := fun j (e : (Value.slice (some ⟨g2, 0, none⟩) xs.length cc).ownBlock = some j) => (H5.out.2.2.1.lt _ e)
      have hx : cxs xs ++ cxs [(x, y)] = cxs (xs ++ [(x, y)]) := (List.map_append ..).symm
      rw [hx] at hOO
      have hll : (xs ++ [(x, y)]).length = xs.length + 1 := by simp
      obtain ⟨p, rfl⟩ : ∃ p, q = p + 1 := ⟨q - 1, by omega⟩
      refine ⟨⟨xs ++ [(x, y)], p, by rw [hll]; omega, by go_num, ?_, ?_, ?_, ⟨k5, by rw [hll]; omega, ?_⟩, ?_, ?_⟩, by simp [intOf]⟩
      · intro u hu
        rcases List.mem_append.1 hu with h | h
        · exact h32 u h
        · rw [List.mem_singleton.1 h]; exact ⟨hx0, hy0⟩
      · rw [hll]; exact ⟨g3, c1', rfl, hOO⟩
      · have := HGR.out.size
        rw [size_alloc] at this
        omega
      · exact (H5.out.1.alloc _).grown HGR.out (fun e => by have := (hlo _ e).1; omega)
      · exact (H5.out.2.1.alloc (by omega) _).grown HGR.out (by rw [size_alloc]; omega) (fun j e => by have := (hlo _ e).1; omega)
      · exact (H5.out.2.2.2.alloc (by omega) _).grown HGR.out (by rw [size_alloc]; omega) (fun j e => by have := (hlo _ e).1; omega)
    · obtain rfl : q = 0 := by omega
      have HO := Lib.hid hO
      have HB := Lib.hid hbq
      clear hO hbq hRq hsq
      go_wp2
      go_ret
      exact ⟨xs, by omega, h32, _, cc, rfl, HO.out.less (by omega), HB.out⟩
end Go.Proofs.Ytigjdcfdgifonaa
