/- The law FnNumbers, walked. -/
import Derived.Test.YtfjfiljgbkhblaaDoorRows
import Derived.Test.YtfjfiljgbkhblaaDoorNz
import Derived.Test.YtfjfiljgbkhblaaDoorNm
import Derived.Test.YtfjfiljgbkhblaaDoorNa
import Derived.Laws.Concat
namespace Go.Proofs.YtfjfiljgbkhblaaDoor
open Go.ChangeShapes Go.WideShapes Go.ChangeAt Go.RowKit

theorem l00FromN_any (A : Option Addr) (n c : Nat) (w : World) :
    Calls Tryd.prog 41 #[.slice A n c] w fun e w' => e = .returned (.pointer (some ⟨w.heap.size, 0, none⟩)) ∧ Src w' w.heap.size A n c 0 ∧ Below w.heap.size w w' := by
  go_enter Tryd.func41, Tryd.ntmps41
  go_wp2
  go_ret
  exact ⟨rfl, ⟨0, by omega, by omega, Blk.newAt rfl rfl⟩, (Below.refl _ _).alloc (Nat.le_refl _) _⟩
set_option maxHeartbeats 1600000 in
theorem pickW_any (m : Int) (hm1 : 200 < m) (hm2 : m ≤ 65536) (g : Nat) (A : Option Addr) (n c : Nat) (l : List Int) (hl : l.length = n) (h255 : is255 l) (k : Nat) (hk : k < 900000000) (hn : n ≤ 1000000000) (w : World) (hs : Src w g A n c k) (hR : Rd w g 1 A n (l.map (.int .u8))) :
    Calls Tryd.prog 42 #[.pointer (some ⟨g, 0, none⟩), .int .i64 m] w fun e w' => (∃ v : Int, 0 ≤ v ∧ v < m ∧ e = .returned (.int .i64 v)) ∧ Gone w g A n c k 2 w' := by
  have hx := next_any g A n c l hl h255 k (by omega) hn w hs hR
  have HX := Lib.hid hx
  have HR := Lib.hid hR
  have hgl := hs.lt
  clear hx hs hR
  go_enter Tryd.func42, Tryd.ntmps42
  go_wp2_with fail
  refine HX.out.mono ?_
  rintro e w2 ⟨⟨v, hv0, hv1, rfl⟩, hs2, hg2⟩
  have hz2 := hg2.size
  have hR2 := HR.out.grown hg2 (by omega) (fun g' e => by cases e; omega)
  have HY := Lib.hid (next_any g A n c l hl h255 (k + 1) (by omega) hn w2 hs2 hR2)
  have HG2 := Lib.hid hg2
  clear hs2 hg2 hR2 HX HR
  go_wp2_with fail
  refine HY.out.mono ?_
  rintro e w3 ⟨⟨y, hy0, hy1, rfl⟩, hs3, hg3⟩
  have HS3 := Lib.hid hs3
  have HG3 := Lib.hid hg3
  clear hs3 hg3 HY
  go_wp2
  go_ret
  exact ⟨⟨_, Int.emod_nonneg _ (by omega), Int.emod_lt_of_pos _ (by omega), rfl⟩, ⟨⟨k + 2, by omega, HS3.out⟩, HG2.out.trans HG3.out⟩⟩
theorem p6Pick_any (m : Int) (hm : 2 ≤ m) (hm2 : m ≤ 65536) (A : Option Addr) (n c : Nat) (l : List Int) (hl : l.length = n) (h255 : is255 l) (hn : n ≤ 1000000000) (w : World) (hR : Rd w w.heap.size 1 A n (l.map (.int .u8))) :
    Calls Tryd.prog 21 #[.slice A n c, .int .i64 m] w fun e w' => (∃ v : Nat, (v : Int) < m ∧ e = .returned (.int .i64 v)) ∧ Below w.heap.size w w' := by
  have hp : ∀ W, Src W w.heap.size A n c 0 → Rd W w.heap.size 1 A n (l.map (.int .u8)) → Calls Tryd.prog 42 #[.pointer (some ⟨w.heap.size, 0, none⟩), .int .i64 m] W fun e w' => (∃ v : Int, 0 ≤ v ∧ v < m ∧ e = .returned (.int .i64 v)) ∧ W.grownBy w' (some w.heap.size) := by
    intro W hs hr
    by_cases h : m ≤ 200
    · exact (pick_any m hm h w.heap.size A n c l hl h255 0 (by omega) hn W hs hr).mono fun e w' h => ⟨h.1, h.2.2⟩
    · exact (pickW_any m (by omega) hm2 w.heap.size A n c l hl h255 0 (by omega) hn W hs hr).mono fun e w' h => ⟨h.1, h.2.2⟩
  have HP := Lib.hid hp
  have HF := Lib.hid (l00FromN_any A n c w)
  have HR := Lib.hid hR
  clear hp hR hl h255
  go_enter Tryd.func21, Tryd.ntmps21
  go_wp2_with (first
    | (go_at_call 41; refine HF.out.mono ?_; rintro e w2 ⟨rfl, hs, hb⟩; have HB := Lib.hid hb; have HS := Lib.hid hs; clear hb hs)
    | (go_at_call 42; refine (HP.out _ HS.out (HR.out.below HB.out (Nat.le_refl _))).mono ?_; rintro e w3 ⟨⟨v, hv0, hv1, rfl⟩, hg⟩; have HG := Lib.hid hg; clear hg))
  go_ret
  refine ⟨⟨v.toNat, by omega, by rw [Int.toNat_of_nonneg hv0]; rfl⟩, HB.out.grown HG.out HB.out.size (fun g' e => by cases e; exact Nat.le_refl _)⟩
theorem neg_run (x : Nat) (W : World) : (Op.unary .neg (.float .f32 x)).run Tryd.prog W = .ok (.float .f32 (Op.negFloat .f32 x)) W := rfl
theorem hid_step {w W w' : World} (h : Hid (Below w.heap.size w W)) (hb : Below W.heap.size W w') : Hid (Below w.heap.size w w') := Lib.hid (h.out.trans (hb.mono h.out.size))
theorem f6big_any (A : Option Addr) (n c : Nat) (w : World) : Calls Tryd.prog 20 #[.slice A n c] w fun e w' => e = .returned (.bool (decide (4096 < n))) ∧ w = w' := by
  have h : decide ((4096 : Int) < n) = decide (4096 < n) := by simp only [decide_eq_decide]; omega
  go_enter Tryd.func20, Tryd.ntmps20
  by_cases hn : (4096 : Int) < n
  · go_wp2
    go_ret
    exact ⟨by rw [← h, decide_eq_true hn]; rfl, rfl⟩
  · go_wp2
    go_ret
    exact ⟨by rw [← h, decide_eq_false (by omega)]; rfl, rfl⟩
theorem dec_toList (n : Nat) : (dec n).data.toList = Lib.decDigits n := by simp [dec]
theorem cat_toList (a b : ByteArray) : (a ++ b).data.toList = a.data.toList ++ b.data.toList := by
  rw [ByteArray.data_append, Array.toList_append]
/-- what ReadNumber tells of the three texts -/
theorem read_three (v k : Nat) (hv : v < 30000) (k1 : 1 ≤ k) (k10 : k ≤ 10) :
    (numB (dec v).data.toList = floatOfInt .f32 v ∧ numC (dec v).data.toList = 0) ∧
    (numB (({ data := #[45] } : ByteArray) ++ dec v ++ { data := #[47] } ++ dec (2 ^ k)).data.toList = qv (-(v : Int)) k ∧ numC (({ data := #[45] } : ByteArray) ++ dec v ++ { data := #[47] } ++ dec (2 ^ k)).data.toList = 0) ∧
    numC (dec v ++ { data := #[47] } ++ dec (2 ^ k + 1)).data.toList = 5 := by
  have e2 : (({ data := #[45] } : ByteArray) ++ dec v ++ { data := #[47] } ++ dec (2 ^ k)).data.toList = 45 :: (Lib.decDigits v ++ 47 :: Lib.decDigits (2 ^ k)) := by
    simp only [cat_toList, dec_toList, List.append_assoc]
    rfl
  have e3 : (dec v ++ { data := #[47] } ++ dec (2 ^ k + 1)).data.toList = Lib.decDigits v ++ 47 :: Lib.decDigits (2 ^ k + 1) := by
    simp only [cat_toList, dec_toList, List.append_assoc]
    rfl
  rw [e2, e3, dec_toList]
  have n1 := num_whole (n := v) (by omega)
  have n2 := num_neg (n := v) (by omega) k1 k10
  have n3 := num_odd (n := v) (by omega) k1 k10
  unfold numB numC
  rw [n1, n2, n3]
  exact ⟨⟨qv_one (by omega), rfl⟩, ⟨rfl, rfl⟩, rfl⟩
set_option maxRecDepth 20000 in
set_option maxHeartbeats 6400000 in
theorem lawNumbers_any (A : Option Addr) (n c : Nat) (l : List Int) (hl : l.length = n) (h255 : is255 l) (A' : Option Addr) (n' c' : Nat) (l' : List Int) (hl' : l'.length = n') (h255' : is255 l') (w : World) (mx : Int)
    (hm : w.cell? ⟨3, 0, none⟩ = some (.int .i64 mx)) (ht : Tab w) (hR : Rd w w.heap.size 1 A n (l.map (.int .u8))) (hR' : Rd w w.heap.size 1 A' n' (l'.map (.int .u8))) :
    Calls Tryd.prog 7 #[.slice A n c, .slice A' n' c'] w fun e w' => e = .returned (.bool true) ∧ Below w.heap.size w w' := by
  have HB1 := Lib.hid (fun W => f6big_any A n c W)
  have HB2 := Lib.hid (fun W => f6big_any A' n' c' W)
  rcases hn : decide (4096 < n) with _ | _
  · rcases hn' : decide (4096 < n') with _ | _
    · rw [hn] at HB1
      rw [hn'] at HB2
      have hn1 := of_decide_eq_false hn
      have hn2 := of_decide_eq_false hn'
      have hltM : 3 < w.heap.size := World.block_lt_of_cell? _ _ hm
      have hI : Hid (∀ (s : ByteArray) (W : World), s.size ≤ 1048576 → Below w.heap.size w W → Calls Tryd.prog 18 #[.string s] W fun e w' => e = .returned (.tuple #[.float .f32 (numB s.data.toList), .int .i64 (numC s.data.toList)]) ∧ Below W.heap.size W w') :=
        Lib.hid (fun s W hs hb => iReadNumber_any s hs mx W (by rw [(bcell hb).1 _ 0 hltM]; exact hm) (ht.below hb ht.lt))
      have HK1 := Lib.hid (p6Pick_any 30000 (by omega) (by omega) A n c l hl h255 (by omega) w hR)
      have HK2 := Lib.hid (fun (W : World) (hb : Below w.heap.size w W) => p6Pick_any 10 (by omega) (by omega) A' n' c' l' hl' h255' (by omega) W ((hR'.below hb (Nat.le_refl _)).more hb.size))
      clear hn hn' hn1 hn2 hm ht hR hR' hl hl' h255 h255'
      go_enter Tryd.func7, Tryd.ntmps7
      go_wp2_with (first
        | (go_at_call_of 20 (Value.slice A n c); refine (HB1.out _).mono ?_; rintro e w1 ⟨rfl, rfl⟩)
        | (go_at_call_of 20 (Value.slice A' n' c'); refine (HB2.out _).mono ?_; rintro e w1 ⟨rfl, rfl⟩)
        | (go_at_call_of 21 (Value.slice A n c); refine HK1.out.mono ?_; rintro e w2 ⟨⟨v, hv, rfl⟩, hb⟩; have HB3 := Lib.hid hb; clear hb)
        | (go_at_call_of 21 (Value.slice A' n' c'); refine (HK2.out _ HB3.out).mono ?_; rintro e w3 ⟨⟨u, hu, rfl⟩, hb⟩; have HB4 := Lib.hid (HB3.out.trans (hb.mono HB3.out.size)); clear hb))
      have hv3 : v < 30000 := by omega
      have s45 : ({ data := #[45] } : ByteArray).size = 1 := rfl
      have s47 : ({ data := #[47] } : ByteArray).size = 1 := rfl
      have hu1 : 1 ≤ 1 + u := by omega
      have hu2 : 1 + u ≤ 10 := by omega
      have hpw := pow_int (1 + u) hu2
      have HDv := Lib.hid (fun W => sDecimal_any v (by omega) W)
      have HDb := Lib.hid (fun W => sDecimal_any (2 ^ (1 + u)) (by omega) W)
      have HDc := Lib.hid (fun W => sDecimal_any (2 ^ (1 + u) + 1) (by omega) W)
      obtain ⟨⟨r1, r2⟩, ⟨r3, r4⟩, r5⟩ := read_three v (1 + u) hv3 hu1 hu2
      have zv := dec_size (n := v) (by omega)
      have zb := dec_size (n := 2 ^ (1 + u)) (by omega)
      have zc := dec_size (n := 2 ^ (1 + u) + 1) (by omega)
      have hi1 := fun W hb => hI.out (dec v) W (by omega) hb
      have hi2 := fun W hb => hI.out (({ data := #[45] } : ByteArray) ++ dec v ++ { data := #[47] } ++ dec (2 ^ (1 + u))) W (by rw [ByteArray.size_append, ByteArray.size_append, ByteArray.size_append, s45, s47]; omega) hb
      have hi3 := fun W hb => hI.out (dec v ++ { data := #[47] } ++ dec (2 ^ (1 + u) + 1)) W (by rw [ByteArray.size_append, ByteArray.size_append, s47]; omega) hb
      rw [r1, r2] at hi1
      rw [r3, r4] at hi2
      rw [r5] at hi3
      have qm := fun (W : World) t => run_float_arith (P := Tryd.prog) W .mul t .f32 _ _ _ (qv_form (n := -(v : Int)) (k := 1 + u) (by omega) hu2).2
      have o1 := flo_self (n := (v : Int)) (by omega)
      have o2 := flo_neg (n := (v : Int)) (by omega) (by omega)
      have hcB : ((2 ^ (1 + u) + 1 : Nat) : Int) = ((2 ^ (1 + u) : Nat) : Int) + 1 := by omega
      have hB1 : 1 ≤ ((2 ^ (1 + u) : Nat) : Int) := by omega
      have hB2 : ((2 ^ (1 + u) : Nat) : Int) ≤ 1024 := by omega
      rw [hcB] at HDc
      have HI1 := Lib.hid hi1
      have HI2 := Lib.hid hi2
      have HI3 := Lib.hid hi3
      rw [shl_wrap (1 + u) hu2]
      clear r1 r2 r3 r4 r5 hi1 hi2 hi3 hI hpw hcB hltM
      generalize qv (-(v : Int)) (1 + u) = Qf at *
      generalize dec v = dv at *
      generalize dec (2 ^ (1 + u)) = db at *
      generalize dec (2 ^ (1 + u) + 1) = dc at *
      generalize ((2 ^ (1 + u) : Nat) : Int) = B at *
      have ss1 : (({ data := #[45] } : ByteArray) ++ dv).size = dv.size + 1 := by rw [ByteArray.size_append, s45]; omega
      have ss2 : (({ data := #[45] } : ByteArray) ++ dv ++ { data := #[47] }).size = dv.size + 2 := by rw [ByteArray.size_append, ss1, s47]
      have ss3 : (dv ++ { data := #[47] }).size = dv.size + 1 := by rw [ByteArray.size_append, s47]
      go_wp2_with (first
        | (go_at_call_of 22 (Value.int .i64 (v : Int)); refine (HDv.out _).mono ?_; rintro e w5 ⟨rfl, hb⟩; have hh := hid_step (w := w) (by assumption) hb; clear hb)
        | (go_at_call_of 22 (Value.int .i64 B); refine (HDb.out _).mono ?_; rintro e w5 ⟨rfl, hb⟩; have hh := hid_step (w := w) (by assumption) hb; clear hb)
        | (go_at_call_of 18 (Value.string dv); refine (HI1.out _ (Hid.out (by assumption))).mono ?_; rintro e w5 ⟨rfl, hb⟩; have hh := hid_step (w := w) (by assumption) hb; clear hb))
      refine (HI2.out _ (Hid.out (by assumption))).mono ?_
      rintro e w9 ⟨rfl, hb9⟩
      have hh9 := hid_step (w := w) (by assumption) hb9
      clear hb9
      go_wp2_with (first
        | (go_at_call_of 22 (Value.int .i64 (v : Int)); refine (HDv.out _).mono ?_; rintro e w5 ⟨rfl, hb⟩; have hh := hid_step (w := w) (by assumption) hb; clear hb)
        | (go_at_call_of 22 (Value.int .i64 B); refine (HDb.out _).mono ?_; rintro e w5 ⟨rfl, hb⟩; have hh := hid_step (w := w) (by assumption) hb; clear hb)
        | (go_at_call_of 18 (Value.string dv); refine (HI1.out _ (Hid.out (by assumption))).mono ?_; rintro e w5 ⟨rfl, hb⟩; have hh := hid_step (w := w) (by assumption) hb; clear hb))
      refine (HDc.out _).mono ?_
      rintro e w11 ⟨rfl, hb11⟩
      have hh11 := hid_step (w := w) (by assumption) hb11
      clear hb11
      go_wp2_with fail
      refine (HI3.out _ (Hid.out (by assumption))).mono ?_
      rintro e w12 ⟨rfl, hb12⟩
      have hh12 := hid_step (w := w) (by assumption) hb12
      clear hb12
      generalize numB _ = NB3
      have hng := fun (W : World) => neg_run (floatOfInt .f32 (v : Int)) W
      go_wp2_with fail
      go_ret
      exact ⟨rfl, hh12.out⟩
    · rw [hn] at HB1
      rw [hn'] at HB2
      clear hn hn' hm ht hR hR' hl hl' h255 h255'
      go_enter Tryd.func7, Tryd.ntmps7
      go_wp2_with (first
        | (go_at_call_of 20 (Value.slice A n c); refine (HB1.out _).mono ?_; rintro e w1 ⟨rfl, rfl⟩)
        | (go_at_call_of 20 (Value.slice A' n' c'); refine (HB2.out _).mono ?_; rintro e w1 ⟨rfl, rfl⟩))
      go_ret
      exact ⟨rfl, Below.refl _ _⟩
  · rw [hn] at HB1
    clear hn hm ht hR hR' hl hl' h255 h255' HB2
    go_enter Tryd.func7, Tryd.ntmps7
    go_wp2_with (go_at_call 20; refine (HB1.out _).mono ?_; rintro e w1 ⟨rfl, rfl⟩)
    go_ret
    exact ⟨rfl, Below.refl _ _⟩
end Go.Proofs.YtfjfiljgbkhblaaDoor
