/- Pg, Lr, Qe, Qc, Cm3, Jn3, Vb, Gw in one text. -/
import Derived.Test.YtmagaapdijapiaaDoorRows
import Derived.Test.YtmagaapdijapiaaDoorGx3
import Derived.Test.YtmagaapdijapiaaDoorGx1
import Derived.Test.YtmagaapdijapiaaDoorGx2
import Derived.StillTailTactics
import Derived.Test.YtmagaapdijapiaaDoorCo
import Derived.Test.YtmagaapdijapiaaDoorMr
namespace Go.Proofs.YtmagaapdijapiaaDoor
open Go.ChangeShapes Go.WideShapes Go.ChangeAt Go.RowKit
theorem okC_in {x y : Int} (h : okC [x, y] = true) : (-1000000 ≤ x ∧ x ≤ 1000000) ∧ (-1000000 ≤ y ∧ y ≤ 1000000) := cellB_in h
section
attribute [local go_sem ↓] exec_ldCorner exec_ldMask
attribute [local go_sem] run_ldCorner run_ldMask
end
end Go.Proofs.YtmagaapdijapiaaDoor
namespace Go.Proofs.YtmagaapdijapiaaDoor
open Go.ChangeShapes Go.WideShapes Go.ChangeAt Go.RowKit
def pvl (l : List (List Int)) : List Value := l.flatten.map (Value.int .i64)
/-- what lies in a row of another type stays, whatever is appended -/
theorem own_other {w w' : World} {lo hi base : Nat} {e e2 : TypeId} {size s2 n n2 c c2 q : Nat} {A : Option Addr} {xs ys : List Value} (h : Own w lo hi e size A n c xs) (h2 : w.ownsRow base e2 s2 (.slice (some ⟨q, 0, none⟩) n2 c2) n2 ys) (he : e ≠ e2) (hg : w.grownBy w' (some q)) : Own w' lo hi e size A n c xs := by
  refine ⟨h.1, ?_⟩
  rcases h.2 with h1 | ⟨g, cur, k1, k2, k3, k4, k5⟩
  · exact .inl h1
  · refine .inr ⟨g, cur, k1, k2, k3, k4.grown hg fun e3 => ?_, k5⟩
    injection e3 with e3
    subst e3
    rcases h2.2 with ⟨h3, _⟩ | ⟨g2, _, cur2, h3, _, h4, _⟩
    · cases h3
    · cases h3
      unfold Blk at k4
      rw [k4] at h4
      injection h4 with h4
      injection h4 with _ h4
      exact he h4
theorem pvl_one {l : List (List Int)} : ∀ v ∈ pvl l, v.oneCell' = true := fun v hv => by
  simp only [pvl, List.mem_map] at hv
  obtain ⟨s, _, rfl⟩ := hv
  rfl
theorem pvl_append (a b : List (List Int)) : pvl (a ++ b) = pvl a ++ pvl b := by rw [pvl, pvl, pvl, List.flatten_append, List.map_append]
end Go.Proofs.YtmagaapdijapiaaDoor
namespace Go.Proofs.YtmagaapdijapiaaDoor
open Go.ChangeShapes Go.WideShapes Go.ChangeAt Go.RowKit
/-- what the program has left -/
structure RestI (l : List Bl) (cn : Bool) (k : Nat) (lo : List Bl) : Prop where
  tab : Tab lo
  iff : ∀ U V, hasB lo U V = true ↔ (hasB l U V = true ∧ ¬ Old (hasB l) cn ((specC l).take k) U V)
theorem rest_zero {l : List Bl} (h : Pic l) (cn : Bool) : RestI l cn 0 l := ⟨Tab.of_pic h, fun _U _V => ⟨fun hh => ⟨hh, old_zero _ _ _ _ _⟩, fun hh => hh.1⟩⟩
section
variable {l lo lo' : List Bl} {cn : Bool} {k : Nat} {x y : Int} {L : List (List Int)}
theorem RestI.old (h : RestI l cn k lo) (hk : k < (specC l).length) (he : (specC l)[k] = [x, y]) (hm : hasB l x y = true) (hh : hasB lo x y = false) (hL : PieceL (hasB lo) cn x y L) (ht : Tab lo') (hr : ∀ U V, hasB lo' U V = (hasB lo U V && !decide ([U, V] ∈ L))) : L.length = 0 ∧ RestI l cn (k + 1) lo' ∧ sizesTo (hasB l) cn (specC l) (k + 1) = sizesTo (hasB l) cn (specC l) k := by
  have hno : Old (hasB l) cn ((specC l).take k) x y := by
    classical
    by_cases ho : Old (hasB l) cn ((specC l).take k) x y
    · exact ho
    · rw [(h.iff x y).2 ⟨hm, ho⟩] at hh
      cases hh
  have ho' : Old (hasB l) cn ((specC l).take k) (((specC l)[k]).getD 0 0) (((specC l)[k]).getD 1 0) := by rw [he]; exact hno
  have hnil : L = [] := by
    cases L with
    | nil => rfl
    | cons c L =>
      have h2 := hL.two c (List.mem_cons_self ..)
      have h3 := (hL.iff (c.getD 0 0) (c.getD 1 0)).1 (by rw [← two_of h2]; exact List.mem_cons_self ..)
      rw [h3.has0] at hh
      cases hh
  subst hnil
  refine ⟨rfl, ⟨ht, fun U V => ?_⟩, sizes_old hk ho'⟩
  rw [hr, show decide ([U, V] ∈ ([] : List (List Int))) = false by simp, Bool.not_false, Bool.and_true, h.iff, old_same hk ho']
theorem RestI.new (h : RestI l cn k lo) (hk : k < (specC l).length) (he : (specC l)[k] = [x, y]) (hh : hasB lo x y = true) (hL : PieceL (hasB lo) cn x y L) (ht : Tab lo') (hr : ∀ U V, hasB lo' U V = (hasB lo U V && !decide ([U, V] ∈ L))) : 0 < L.length ∧ RestI l cn (k + 1) lo' ∧ sizesTo (hasB l) cn (specC l) (k + 1) = sizesTo (hasB l) cn (specC l) k ++ [(L.length : Int)] := by
  have e0 : ((specC l)[k]).getD 0 0 = x := by rw [he]; rfl
  have e1 : ((specC l)[k]).getD 1 0 = y := by rw [he]; rfl
  have hLk : PieceL (hasB lo) cn (((specC l)[k]).getD 0 0) (((specC l)[k]).getD 1 0) L := by rw [e0, e1]; exact hL
  have hhk : hasB lo (((specC l)[k]).getD 0 0) (((specC l)[k]).getD 1 0) = true := by rw [e0, e1]; exact hh
  refine ⟨List.length_pos_of_mem ((hL.iff x y).2 (.start hh)), ⟨ht, rest_succ hk h.iff hLk hhk hr⟩, sizes_new hk ?_ (hLk.congr (reach_rest h.iff hhk))⟩
  rw [e0, e1]
  exact ((h.iff x y).1 hh).2
end
theorem own_fr {w w' : World} {base B g0 : Nat} {e : TypeId} {size n : Nat} {v : Value} {xs : List Value} (h : w.ownsRow base e size v n xs) (hf : Fr B g0 w w') (hB : w.heap.size ≤ B) (hg : g0 < base) : w'.ownsRow base e size v n xs := by
  refine ⟨h.1, ?_⟩
  rcases h.2 with h' | ⟨g, cap, cur, h1, h2, h3, h4⟩
  · exact .inl h'
  · have hlt := Blk.lt h3
    refine .inr ⟨g, cap, cur, h1, h2, ?_, h4⟩
    exact (hf.block g (by omega) (by omega)).trans h3
theorem Own.fr {w w' : World} {lo hi B g0 : Nat} {e : TypeId} {size n c : Nat} {A : Option Addr} {xs : List Value} (h : Own w lo hi e size A n c xs) (hf : Fr B g0 w w') (hB : w.heap.size ≤ B) (hg : g0 < lo) : Own w' lo hi e size A n c xs := by
  refine ⟨h.1, ?_⟩
  rcases h.2 with h1 | ⟨g, cur, k1, k2, k3, k4, k5⟩
  · exact .inl h1
  · have hlt := Blk.lt k4
    refine .inr ⟨g, cur, k1, k2, k3, ?_, k5⟩
    exact (hf.block g (by omega) (by omega)).trans k4
theorem L8.fr {w w' : World} {B g0 : Nat} (h : L8 w) (hf : Fr B g0 w w') (hg : 0 < g0) (hB : 0 < B) : L8 w' := ⟨h.at_.fr hf hg hB⟩
set_option maxRecDepth 20000 in
set_option maxHeartbeats 6400000 in
theorem iPiecesOf_any (A : Option Addr) (n c : Nat) (l : List Bl) (hl : l.length = n) (hrow : Bls l) (h16 : ∀ b ∈ l, is16 b.2) (h32 : ∀ b ∈ l, ∀ x ∈ b.1, -2147483648 ≤ x ∧ x ≤ 2147483647) (cn : Bool) (hn : n ≤ 1048576) (w : World) (hst : Laid8 w) (hR : Rd w w.heap.size 18 A n (bcs l)) :
    Calls Tryd.prog 9 #[.slice A n c, .bool cn] w (GivesToldI (psL l cn) (psK l) w) := by
  obtain ⟨i0, hi, hz0, hz1, hz2⟩ := info_parts Int64_info
  have ho := fun W h => iValidPicture_any A n c l hl hrow h16 h32 hn W h
  have hv := fun h => vpic_of hrow h16 h
  have hm := fun (h : vpB l = true) W hR => masksOf_any A n c l hl hrow (apart_of_rising (rising_of_vpB h)) hn W hR
  rw [psL, psK]
  cases hok : vpB l
  · rw [hok] at ho
    clear hm hv hok hrow h16 h32 hl hst
    go_enter Tryd.func9, Tryd.ntmps9
    go_wp2_with (go_at_call 36; refine (ho _ (hR.more (by first | exact Nat.le_refl _ | omega))).mono ?_; rintro e w1 ⟨rfl, b1⟩)
    go_ret2
    exact GivesToldI.nil b1
  · rw [hok] at ho
    have hV := hv hok
    have HV := Lib.hid hV
    have HMO := Lib.hid (hm hok)
    have HCS := Lib.hid (fun W h => cellsOf_any A n c l hl hV W h)
    have HO := Lib.hid ho
    have HR := Lib.hid hR
    have HST := Lib.hid hst
    have hcnt := hV.count
    clear ho hv hm hok hrow h16 h32 hl hV hR hst
    simp only [if_true]
    go_enter Tryd.func9, Tryd.ntmps9
    go_wp2_with (first
      | (go_at_call 36; refine (HO.out _ HR.out).mono ?_; rintro e w1 ⟨rfl, b1⟩; have B1 := Lib.hid b1; clear b1)
      | (go_at_call 40; refine (HMO.out _ ((HR.out.below B1.out (Nat.le_refl _)).more B1.out.size)).mono ?_; rintro e w2 ⟨g1, rfl, k1, k2, k3, b2⟩; have K := Lib.hid (And.intro (Nat.le_trans B1.out.size k1) (And.intro k2 k3)); have B2 := Lib.hid (B1.out.trans (b2.mono B1.out.size)); have B2a := Lib.hid (B2.out.alloc B2.out.size (.cells #[] 2)); clear b2 k1 k2 k3)
      | (go_at_call 37; refine (HCS.out _ ((HR.out.below B2a.out (Nat.le_refl _)).more B2a.out.size)).mono ?_; rintro e w3 ⟨g, cc, rfl, hO2, b3⟩; have HCL := Lib.hid hO2.rd; have HCO := Lib.hid hO2; have HGB := Lib.hid hO2.blk_; have B3a := Lib.hid b3; have B3 := Lib.hid (B2a.out.trans (b3.mono B2a.out.size)); clear hO2 b3))
    have hi0 := World.ownsRow_lit (e := 2) (base := w2.heap.size) (size := 1) w2 #[] 0 (Nat.le_refl _) (by unfold maxLen; omega) rfl
    have hg1 : g1 < w2.heap.size ∧ w.heap.size ≤ g1 := ⟨K.out.2.1, K.out.1⟩
    have S0 := Lib.hid (And.intro (heap_below B3a.out (heap_below ((Below.refl w2.heap.size w2).alloc (Nat.le_refl _) (.cells #[] 2)) K.out.2.2)) (And.intro (own_below hi0 B3a.out (Nat.le_refl _)) (L8.below ⟨HST.out⟩ B3.out (Nat.zero_le _))))
    have C0 : Hid (Own w3 w2.heap.size w3.heap.size 35 2 (some ⟨g, 0, none⟩) (specC l).length cc (pvs (specC l))) := Lib.hid (HCO.out.less (by simp))
    have hpos := HST.out.pos
    clear hi0 B1 B2 B2a B3a HCO K HO HMO HCS HGB HCL HR HST
    go_loopw [7, 20] (fun o i wr => ∃ (k : Nat) (lo : List Bl) (N : List Int) (q cq : Nat), k ≤ (specC l).length ∧ i = .int .i64 k ∧ o = .slice (some ⟨q, 0, none⟩) N.length cq ∧ Hid (RestI l cn k lo) ∧ Hid (N = sizesTo (hasB l) cn (specC l) k) ∧ Hid (wr.heap[g1]? = some (.map (ents lo 0).toArray lo.length)) ∧ Hid (Own wr w2.heap.size wr.heap.size 35 2 (some ⟨g, 0, none⟩) (specC l).length cc (pvs (specC l))) ∧ Hid (wr.ownsRow w2.heap.size 2 1 (.slice (some ⟨q, 0, none⟩) N.length cq) N.length (N.map (.int .i64))) ∧ Hid (L8 wr) ∧ Hid (Below w.heap.size w wr)) (fun _ i _ => (specC l).length - (intOf i).toNat)
    case atStart => exact ⟨0, l, [], _, _, Nat.zero_le _, rfl, rfl, Lib.hid (rest_zero HV.out.pic cn), Lib.hid rfl, Lib.hid S0.out.1, C0, Lib.hid S0.out.2.1, Lib.hid S0.out.2.2, B3⟩
    case round =>
      clear S0 C0 B3
      obtain ⟨k, lo, N, q, cq, hk, rfl, rfl, HS, HN, HM, HC, HI, H8, HB⟩ := hrel
      by_cases hlt : k < (specC l).length
      · have hkI : (k : Int) < (specC l).length := by omega
        have hk0 : (0 : Int) ≤ k := by omega
        obtain ⟨x, y, hxy⟩ : ∃ x y, (specC l)[k] = [x, y] := ⟨_, _, two_of ((specC_rows l).at_ hlt)⟩
        have hmem : hasB l x y = true := ((spec_mem HV.out.pic.apart HV.out.pic.bls [x, y]).1 (by rw [← hxy]; exact List.getElem_mem hlt)).2
        obtain ⟨⟨hx2, hx3⟩, ⟨hy2, hy3⟩⟩ := cellB_in (HV.out.cells hmem)
        have hrg := pvs_row2 (specC_rows l) hlt HC.out.rd rfl
        rw [hxy] at hrg
        rw [Nat.zero_add] at hrg
        have HRG : Hid (wr.rangeAt g (k * 2) [.int .i32 x, .int .i32 y]) := Lib.hid hrg
        have hNk : N.length ≤ k := by rw [HN.out]; exact sizes_length _ _ _ _
        have hkc : k ≤ 16384 := by omega
        have HTK := Lib.hid (fun W hst hg => takePiece_any g1 lo HS.out.tab (specC l) (fun u v h => (spec_mem HV.out.pic.apart HV.out.pic.bls [u, v]).2 ⟨rfl, ((HS.out.iff u v).1 h).1⟩) (by omega) (fun u v h => cellB_in (HV.out.cells ((HS.out.iff u v).1 h).1)) x y ⟨hx2, hx3⟩ ⟨hy2, hy3⟩ cn W hst (by omega) hg)
        have hlw : w.heap.size ≤ wr.heap.size := HB.out.size
        cases hh : hasB lo x y
        · have HST := Lib.hid (fun L lo' h1 h2 h3 => HS.out.old (L := L) (lo' := lo') hlt hxy hmem hh h1 h2 h3)
          clear hrg hmem hxy hh
          go_wp2_with (first
            | refine wpList_load_mid rfl _ _ rfl g (k * 2) (by rfl) [.int .i32 x, .int .i32 y] _ HRG.out Tryd.underlying35 rfl (by exact size35) ?_
            | (refine wpList_store_row rfl _ _ _ rfl wr.heap.size (ivs .i32 [x, y]) rfl rfl 35 #[.int .i32 0, .int .i32 0] (Blk.newAt rfl rfl) (by exact size35) rfl ivs_one ?_; generalize hw5 : World.setRow _ _ _ = w5; have G5 : Hid (Blk w5 wr.heap.size 35 (ivs .i32 [x, y])) := Lib.hid (by rw [← hw5]; exact (Blk.newAt rfl rfl).row _); have B5 : Hid (Below wr.heap.size wr w5) := Lib.hid (by rw [← hw5]; exact below_setRow ((Below.refl _ _).alloc (Nat.le_refl _) _) (g := wr.heap.size) (Nat.le_refl _) _); clear hw5)
            | refine wpList_load_row rfl _ _ rfl wr.heap.size rfl 35 (ivs .i32 [x, y]) (0, 0) _ G5.out Tryd.underlying35 rfl (by exact size35) ?_
            | (go_at_call 41; refine (HTK.out _ (H8.out.below B5.out (Nat.zero_le _)).at_ (heap_below B5.out HM.out)).mono ?_; rintro e w6 ⟨A5, c5, L5, lo5, rfl, t1, t2, t3, t4, f5, m5⟩; have HQ := Lib.hid (HST.out L5 lo5 t1 t2 t4); have hl5 : (L5.length : Int) = 0 := (by have := HQ.out.1; omega); have hz5 : w5.heap.size ≤ w6.heap.size := f5.size; have F5 := Lib.hid f5; have M5 := Lib.hid m5; clear t1 t2 t3 t4 f5 m5))
          exact ⟨⟨k + 1, lo5, N, q, cq, by omega, by go_num, rfl, Lib.hid HQ.out.2.1, Lib.hid (HN.out.trans HQ.out.2.2.symm), M5, Lib.hid ((((HC.out.below B5.out (Nat.le_refl _)).more B5.out.size).fr F5.out (Nat.le_refl _) hg1.1).more hz5), Lib.hid (own_fr (own_below HI.out B5.out (Nat.le_refl _)) F5.out (Nat.le_refl _) hg1.1), Lib.hid ((H8.out.below B5.out (Nat.zero_le _)).fr F5.out (by omega) (by have := B5.out.size; omega)), Lib.hid ((HB.out.trans (B5.out.mono hlw)).trans (F5.out.below (by have := B5.out.size; omega) hg1.2))⟩, by simp [intOf]; omega⟩
        · have HST := Lib.hid (fun L lo' h1 h2 h3 => HS.out.new (L := L) (lo' := lo') hlt hxy hh h1 h2 h3)
          have HLL := Lib.hid (fun L (h1 : PieceL (hasB lo) cn x y L) => h1.len (C := specC l) (fun u v h => (spec_mem HV.out.pic.apart HV.out.pic.bls [u, v]).2 ⟨rfl, ((HS.out.iff u v).1 h).1⟩))
          clear hrg hmem hxy hh
          go_wp2_with (first
            | refine wpList_load_mid rfl _ _ rfl g (k * 2) (by rfl) [.int .i32 x, .int .i32 y] _ HRG.out Tryd.underlying35 rfl (by exact size35) ?_
            | (refine wpList_store_row rfl _ _ _ rfl wr.heap.size (ivs .i32 [x, y]) rfl rfl 35 #[.int .i32 0, .int .i32 0] (Blk.newAt rfl rfl) (by exact size35) rfl ivs_one ?_; generalize hw5 : World.setRow _ _ _ = w5; have G5 : Hid (Blk w5 wr.heap.size 35 (ivs .i32 [x, y])) := Lib.hid (by rw [← hw5]; exact (Blk.newAt rfl rfl).row _); have B5 : Hid (Below wr.heap.size wr w5) := Lib.hid (by rw [← hw5]; exact below_setRow ((Below.refl _ _).alloc (Nat.le_refl _) _) (g := wr.heap.size) (Nat.le_refl _) _); clear hw5)
            | refine wpList_load_row rfl _ _ rfl wr.heap.size rfl 35 (ivs .i32 [x, y]) (0, 0) _ G5.out Tryd.underlying35 rfl (by exact size35) ?_
            | (go_at_call 41; refine (HTK.out _ (H8.out.below B5.out (Nat.zero_le _)).at_ (heap_below B5.out HM.out)).mono ?_; rintro e w6 ⟨A5, c5, L5, lo5, rfl, t1, t2, t3, t4, f5, m5⟩; have HQ := Lib.hid (HST.out L5 lo5 t1 t2 t4); have hl5 : (0 : Int) < (L5.length : Int) := (by have := HQ.out.1; omega); have hl6 : L5.length ≤ 16384 := Nat.le_trans (HLL.out L5 t1) hcnt; have hz5 : w5.heap.size ≤ w6.heap.size := f5.size; have hz6 : wr.heap.size ≤ w6.heap.size := Nat.le_trans B5.out.size hz5; have C6 := Lib.hid ((((HC.out.below B5.out (Nat.le_refl _)).more B5.out.size).fr f5 (Nat.le_refl _) hg1.1).more hz5); have I6 := Lib.hid (own_fr (own_below HI.out B5.out (Nat.le_refl _)) f5 (Nat.le_refl _) hg1.1); have E6 := Lib.hid ((H8.out.below B5.out (Nat.zero_le _)).fr f5 (by omega) (by have := B5.out.size; omega)); have B6 := Lib.hid ((HB.out.trans (B5.out.mono hlw)).trans (f5.below (by have := B5.out.size; omega) hg1.2)); have M5 := Lib.hid m5; clear t1 t2 t3 t4 f5 m5; have HN6 := Lib.hid (Blk.news (k := .i64) (l := [(L5.length : Int)]) (t := 2) (w := w6.alloc (.cells #[.int .i64 (L5.length : Int)] 2)) (g := w6.heap.size) (Blk.newAt rfl rfl)))
            | (at_builtin; refine wpList_append_own _ rfl _ _ 29 rfl w2.heap.size 2 i0 _ 1 8 Tryd.underlying29 hi hz0 hz1 hz2 rfl (by decide) (.slice (some ⟨q, 0, none⟩) N.length cq) N.length _ rfl (I6.out.alloc _) ⟨w6.heap.size, 0, none⟩ 1 1 ([(L5.length : Int)].map (.int .i64)) rfl rfl HN6.out ints_one (by unfold maxLen; omega) (by omega) (by have h1 := (I6.out.lt q rfl).1; have h2 := (I6.out.lt q rfl).2; rw [size_alloc]; omega) ?_; intro v' w9 hown' hgrow _; rw [← List.map_append] at hown'; have HOWN := Lib.hid hown'; have HGR := Lib.hid hgrow; clear hown' hgrow))
          obtain ⟨q9, cq9, rfl⟩ := own_some HOWN.out (by omega)
          have hq6 := I6.out.lt q rfl
          have hal : Below w6.heap.size w6 (w6.alloc (.cells #[.int .i64 (L5.length : Int)] 2)) := (Below.refl w6.heap.size w6).alloc (Nat.le_refl _) _
          have hzl : w6.heap.size ≤ (w6.alloc (.cells #[.int .i64 (L5.length : Int)] 2)).heap.size := by simp
          have OC9 := (own_other ((C6.out.below hal (Nat.le_refl _)).more hzl) (I6.out.alloc _) (by decide) HGR.out).more HGR.out.size
          have M9 := heap_grown HGR.out (heap_below hal M5.out) (fun e => by have e2 : g1 = q := Option.some.inj e; omega)
          have E9 := (E6.out.below hal (Nat.zero_le _)).grown HGR.out (fun j e => by have e2 : q = j := Option.some.inj e; omega)
          have B9 := (B6.out.alloc B6.out.size (.cells #[.int .i64 (L5.length : Int)] 2)).grown HGR.out (by have := B6.out.size; omega) (fun j e => by have e2 : q = j := Option.some.inj e; omega)
          exact ⟨⟨k + 1, lo5, N ++ [(L5.length : Int)], q9, cq9, by omega, by go_num, by rw [List.length_append]; rfl, Lib.hid HQ.out.2.1, Lib.hid (by rw [HQ.out.2.2, ← HN.out]), Lib.hid M9, Lib.hid OC9, Lib.hid (by rw [List.length_append]; exact HOWN.out), Lib.hid E9, Lib.hid B9⟩, by simp [intOf]; omega⟩
      · obtain rfl : k = (specC l).length := by omega
        go_wp2
        go_ret2
        obtain ⟨A9, c9, he9, ho9⟩ := Own.of_row HI.out
        cases he9
        exact ⟨_, _, by rw [← HN.out]; rfl, by rw [← HN.out]; exact ho9.less (by omega), HB.out⟩
end Go.Proofs.YtmagaapdijapiaaDoor
namespace Go.Proofs.YtmagaapdijapiaaDoor
open Go.ChangeShapes Go.WideShapes Go.ChangeAt Go.RowKit
section
attribute [local go_sem ↓] exec_ldCorner exec_ldMask
attribute [local go_sem] run_ldCorner run_ldMask
set_option maxRecDepth 20000 in
set_option maxHeartbeats 6400000 in
theorem iPieceOf_any (A : Option Addr) (n c : Nat) (l : List Bl) (hl : l.length = n) (hrow : Bls l) (h16 : ∀ b ∈ l, is16 b.2) (h32 : ∀ b ∈ l, ∀ x ∈ b.1, -2147483648 ≤ x ∧ x ≤ 2147483647) (x y : Int) (cn : Bool) (hn : n ≤ 1048576) (w : World) (hst : Laid8 w) (hR : Rd w w.heap.size 18 A n (bcs l)) :
    Calls Tryd.prog 13 #[.slice A n c, .int .i64 x, .int .i64 y, .bool cn] w (GivesToldB (pcL l x y cn) (pcK l x y) w) := by
  have ho := fun W h => iValidPicture_any A n c l hl hrow h16 h32 hn W h
  have hc := fun W => isCell_any x y W
  have hv := fun h => vpic_of hrow h16 h
  have hm := fun (h : vpB l = true) W hR => masksOf_any A n c l hl hrow (apart_of_rising (rising_of_vpB h)) hn W hR
  rw [pcL, pcK]
  cases hok : vpB l
  · rw [hok] at ho
    clear hm hv hok hrow h16 h32 hl hst hc
    go_enter Tryd.func13, Tryd.ntmps13
    go_wp2_with (go_at_call 36; refine (ho _ (hR.more (by first | exact Nat.le_refl _ | omega))).mono ?_; rintro e w1 ⟨rfl, b1⟩)
    go_ret2
    exact GivesToldB.nil b1
  · rw [hok] at ho
    cases hxy : cellB x y
    · rw [hxy] at hc
      clear hm hv hok hxy hrow h16 h32 hl hst
      go_enter Tryd.func13, Tryd.ntmps13
      go_wp2_with (first
        | (go_at_call 36; refine (ho _ (hR.more (by first | exact Nat.le_refl _ | omega))).mono ?_; rintro e w1 ⟨rfl, b1⟩)
        | (go_at_call 47; refine (hc _).mono ?_; rintro e w1 ⟨rfl, rfl⟩))
      go_ret2
      exact GivesToldB.nil b1
    · rw [hxy] at hc
      obtain ⟨⟨hx2, hx3⟩, ⟨hy2, hy3⟩⟩ := cellB_in hxy
      have hV := hv hok
      have HMO := Lib.hid (hm hok)
      have HHAS := Lib.hid (fun g W h => has_any g l hrow h16 x y (by omega) (by omega) l.length W h (heap_lt h))
      cases hxh : hasB l x y
      · rw [hxh] at HHAS
        clear hm hv hok hxy hxh hV hrow h16 h32 hl hst
        go_enter Tryd.func13, Tryd.ntmps13
        go_wp2_with (first
          | (go_at_call 36; refine (ho _ (hR.more (by first | exact Nat.le_refl _ | omega))).mono ?_; rintro e w1 ⟨rfl, b1⟩)
          | (go_at_call 47; refine (hc _).mono ?_; rintro e w1 ⟨rfl, rfl⟩)
          | (go_at_call 40; refine (HMO.out _ ((hR.below b1 (Nat.le_refl _)).more b1.size)).mono ?_; rintro e w2 ⟨g1, rfl, k1, k2, k3, b2⟩; have K := Lib.hid k3; have B2 := Lib.hid (b1.trans (b2.mono b1.size)); clear b2 k1 k2 k3)
          | (go_at_call 43; refine (HHAS.out _ _ K.out).mono ?_; rintro e w3 ⟨rfl, b3⟩; have B3 := Lib.hid (B2.out.trans (b3.mono B2.out.size)); clear b3))
        go_ret2
        exact GivesToldB.nil B3.out
      · rw [hxh] at HHAS
        have HV := Lib.hid hV
        have hrc : hasB l x y = true → Reach (hasB l) cn x y x y := fun h => .start h
        have HTK := Lib.hid (fun g W hst hg0 hg => takePiece_any g l (Tab.of_pic hV.pic) (specC l) (fun u v h => (spec_mem hV.pic.apart hV.pic.bls [u, v]).2 ⟨rfl, h⟩) (by have := hV.count; omega) (fun u v h => cellB_in (hV.cells h)) x y ⟨hx2, hx3⟩ ⟨hy2, hy3⟩ cn W hst hg0 hg)
        have HO := Lib.hid ho
        have HR := Lib.hid hR
        have HST := Lib.hid hst
        clear hm hv hok hxy hxh hV hrow h16 h32 hl hst ho hR hrc
        simp only [if_true]
        go_enter Tryd.func13, Tryd.ntmps13
        go_wp2_with (first
          | (go_at_call 36; refine (HO.out _ (HR.out.more (by first | exact Nat.le_refl _ | omega))).mono ?_; rintro e w1 ⟨rfl, b1⟩; have B1 := Lib.hid b1; clear b1)
          | (go_at_call 47; refine (hc _).mono ?_; rintro e w1 ⟨rfl, rfl⟩)
          | (go_at_call 40; refine (HMO.out _ ((HR.out.below B5.out (Nat.le_refl _)).more B5.out.size)).mono ?_; rintro e w6 ⟨g6, rfl, k1, k2, k3, b6⟩; have B6 := Lib.hid (B5.out.trans (b6.mono B5.out.size)); have K6 := Lib.hid (And.intro (Nat.le_trans B5.out.size k1) k3); have M6 := Lib.hid (heap_below b6 M5.out); have D6 := Lib.hid (And.intro (heap_lt M5.out) k1); clear b6 k1 k2 k3; have T7 : Hid (Two w (w6.alloc (.mapIter (some g1) lo5.length #[] lo5.length)) g1 g6 w6.heap.size l lo5 [] []) := Lib.hid (Two.start (Tab.of_pic HV.out.pic) M6.out K6.out.2 B6.out); have hrange : (Instr.range 68 (.map (some g1))).run Tryd.prog w6 = .ok (.pointer (some ⟨w6.heap.size, 0, none⟩)) (w6.alloc (.mapIter (some g1) lo5.length #[] lo5.length)) := range_at M6.out)
          | (go_at_call 40; refine (HMO.out _ ((HR.out.below B1.out (Nat.le_refl _)).more B1.out.size)).mono ?_; rintro e w2 ⟨g1, rfl, k1, k2, k3, b2⟩; have K := Lib.hid (And.intro (Nat.le_trans B1.out.size k1) k3); have B2 := Lib.hid (B1.out.trans (b2.mono B1.out.size)); clear b2 k1 k2 k3)
          | (go_at_call 43; refine (HHAS.out _ _ K.out.2).mono ?_; rintro e w3 ⟨rfl, b3⟩; have K3 := Lib.hid (heap_below b3 K.out.2); have B3 := Lib.hid (B2.out.trans (b3.mono B2.out.size)); clear b3)
          | (go_at_call 41; refine (HTK.out _ _ (HST.out.below B3.out) (by have h1 := K.out.1; have h2 := HST.out.pos; omega) K3.out).mono ?_; rintro e w5 ⟨A5, c5, L5, lo5, rfl, t1, t2, t3, t4, f5, m5⟩; have PL := Lib.hid t1; have TL := Lib.hid t2; have FL := Lib.hid t3; have RL := Lib.hid t4; have M5 := Lib.hid m5; have B5 := Lib.hid (B3.out.trans (f5.below B3.out.size K.out.1)); clear t1 t2 t3 t4 f5 m5))
        have hd1 : g1 < w6.heap.size ∧ g6 < w6.heap.size ∧ w.heap.size ≤ w6.heap.size ∧ g1 ≠ g6 ∧ w.heap.size ≤ g6 := ⟨heap_lt M6.out, heap_lt K6.out.2, B6.out.size, by have h1 := D6.out.1; have h2 := D6.out.2; omega, K6.out.1⟩
        have HD1 := Lib.hid hd1
        have hL5 : L5.length ≤ 16384 := Nat.le_trans (PL.out.len (fun u v h => (spec_mem HV.out.pic.apart HV.out.pic.bls [u, v]).2 ⟨rfl, h⟩)) HV.out.count
        have HL5 := Lib.hid hL5
        clear hd1 hL5 HO HR HST HTK HHAS HMO M5 K3 M6 K6 D6 B1 B2 B3 B5 K
        go_loopw [12] (fun _ wr => ∃ seen : List Nat, Hid (Two w wr g1 g6 w6.heap.size l lo5 seen (keysL lo5 seen))) (fun _ wr => lo5.length - (wr.iterSeen w6.heap.size).size)
        case atStart => exact ⟨[], T7⟩
        case round =>
          clear T7 hrange
          obtain ⟨seen, HT⟩ := hrel
          rcases next_step lo5 wr 0 w6.heap.size g1 seen HT.out.two HT.out.iter with ⟨hperm, hnext⟩ | ⟨i, hil, hns, wn, hnext, hentry, hit2, hsz2, hgr2⟩
          · obtain ⟨lo, htab, hlen, hout, hmask⟩ := HT.out.out
            have hsl : seen.length = lo5.length := by rw [hperm.length_eq, List.length_range]
            have hlo : lo.length ≤ 1000000 := by
              have h1 : (keysL lo5 seen).length = lo5.length := by rw [keysL, List.length_map, seenL, List.length_map, hsl]
              have h2 := HV.out.few
              have h3 := FL.out
              have h4 := HL5.out
              omega
            have HE := Lib.hid (piece_left HV.out TL.out PL.out RL.out htab hmask (keysL_all hperm))
            have HP := Lib.hid (pictureOf_any g6 lo htab hlo wr hout (heap_lt hout))
            rw [HE.out.1, HE.out.2] at HP
            have HB := Lib.hid HT.out.below
            clear htab hlen hout hmask hsl hlo hperm HT HE
            go_wp2_with (go_at_call 45; refine HP.out.mono ?_; rintro e w9 ⟨A9, c9, rfl, o9, b9⟩; have HO9 := Lib.hid o9; have HB9 := Lib.hid (HB.out.trans (b9.mono HB.out.size)); clear o9 b9)
            go_ret2
            exact ⟨A9, c9, rfl, HO9.out.less HB.out.size, HB9.out⟩
          · have hF1 := TL.out.bls.at_ hil
            have hFa := maskAt_of_mem TL.out.apart (List.getElem_mem hil)
            have hFk := keysL_snoc lo5 seen hil
            have hseen : ∀ i ∈ seen, i < lo5.length := by
              obtain ⟨c0, _, _, _, h4⟩ := HT.out.iter
              exact h4
            have hfr := keysL_fresh TL.out.apart hseen hil hns
            have hme := TL.out.m16 _ (List.getElem_mem hil)
            obtain ⟨⟨C, Mm⟩, hF⟩ : ∃ F, F = lo5[i] := ⟨_, rfl⟩
            rw [← hF] at hF1 hFa hFk hfr hnext hentry hme
            obtain ⟨X, Y, rfl⟩ : ∃ X Y, C = [X, Y] := ⟨_, _, two_of hF1.1⟩
            have hM16 : Mm.length = 16 := hF1.2
            have hmeas : (wr.iterSeen w6.heap.size).size = seen.length ∧ seen.length < lo5.length := by
              refine ⟨HT.out.iter.seen_eq, ?_⟩
              have := hit2.bound
              rw [List.length_append] at this
              exact this
            obtain ⟨lo, htab, hlen, hout, hmask⟩ := HT.out.out
            have hgw : g6 < wn.heap.size ∧ g1 < wn.heap.size ∧ w6.heap.size < wn.heap.size := by
              have h1 := heap_lt HT.out.two
              have h3 := heap_lt hout
              have h4 := hit2.lt
              rw [hsz2]
              omega
            have hgo2 : wn.heap[g6]? = some (.map (ents lo 0).toArray lo.length) := heap_grown hgr2 hout (fun e => by injection e with e; have := HD1.out.2.1; omega)
            obtain ⟨hM2, hM216⟩ := htab.mask [X, Y]
            have hme2 : maskAt lo [X, Y] = maskAt l [X, Y] := by rw [hmask, subT, if_neg hfr]
            obtain ⟨M2, hM2e⟩ : ∃ M2, M2 = maskAt lo [X, Y] := ⟨_, rfl⟩
            rw [← hM2e] at hM2 hM216 hme2
            have hFa2 : maskAt lo5 [X, Y] = Mm := hFa
            have hmix : opM notF M2 Mm = mixF notF l lo5 [X, Y] := by rw [mixF, ← hme2, hFa2]
            have HSTEP : Hid (∀ w7 : World, Below wn.heap.size wn w7 → Two w (ChangeMaps.setBlock w7 g6 (.map (ents (putB lo [X, Y] (opM notF M2 Mm)) 0).toArray (putB lo [X, Y] (opM notF M2 Mm)).length)) g1 g6 w6.heap.size l lo5 (seen ++ [i]) (keysL lo5 (seen ++ [i]))) := Lib.hid fun w7 hb7 => by
              have hd := HD1.out
              rw [hFk]
              exact HT.out.step (by omega) (by omega) (by omega) (by omega) (by omega) htab hlen hout hmask hgr2 hit2 hb7 rfl (opM_length hM2 hM16) (opM_16 notF_way _ _) hmix
            have HOF := Lib.hid (fun W => iMinusMasks_any M2 Mm hM2 hM16 W)
            have HLK := Lib.hid (fun W h => run_lookupMask g6 lo htab.bls X Y lo.length W h)
            rw [← hM2e] at HLK
            have HPUT := Lib.hid (fun W h => run_putAny g6 lo htab.bls X Y (opM notF M2 Mm) W h)
            have HGO2 := Lib.hid hgo2
            have HM3 := Lib.hid hM16
            have HME := Lib.hid hmeas
            have HGW := Lib.hid hgw
            clear hF1 hFa hFk hF hM216 hme hM16 hM2 hmeas htab hlen hout hmask hgo2 hM2e hmix hit2 hsz2 hgr2 hns hgw hfr hseen hme2 hFa2
            generalize opM notF M2 Mm = R at *
            go_wp2_with (first
              | (refine wpList_store_row rfl _ _ _ rfl wn.heap.size (ivs .i32 [X, Y]) rfl rfl 63 #[.int .i32 0, .int .i32 0] ((Blk.newAt rfl rfl).alloc _) (by exact size63) rfl ivs_one ?_; generalize hw5 : World.setRow _ _ _ = w5; have G5 : Hid (Blk w5 wn.heap.size 63 (ivs .i32 [X, Y])) := Lib.hid (by rw [← hw5]; exact ((Blk.newAt rfl rfl).alloc _).row _); have G5m : Hid (Blk w5 (wn.heap.size + 1) 44 (ivs .u16 zr16)) := Lib.hid (by rw [← hw5]; exact (Blk.newAt (by simp) rfl).rowFar (by omega) _); have B5 : Hid (Below wn.heap.size wn w5) := Lib.hid (by rw [← hw5]; exact below_setRow (((Below.refl _ _).alloc (Nat.le_refl _) _).alloc (by simp) _) (Nat.le_refl _) _); clear hw5)
              | (refine wpList_store_row rfl _ _ _ rfl (wn.heap.size + 1) (ivs .u16 Mm) rfl rfl 44 (ivs .u16 zr16) G5m.out (by rw [ivs_size, HM3.out]; exact size44) (by rw [ivs_size, ivs_size, HM3.out]; rfl) ivs_one ?_; generalize hw6 : World.setRow _ _ _ = w7; have G6 : Hid (Blk w7 wn.heap.size 63 (ivs .i32 [X, Y])) := Lib.hid (by rw [← hw6]; exact G5.out.rowFar (by omega) _); have G6m : Hid (Blk w7 (wn.heap.size + 1) 44 (ivs .u16 Mm)) := Lib.hid (by rw [← hw6]; exact G5m.out.row _); have B7 : Hid (Below wn.heap.size wn w7) := Lib.hid (by rw [← hw6]; exact below_setRow B5.out (by omega) _); clear hw6))
            have K7 : Hid (Blk w7.drew wn.heap.size 63 (ivs .i32 [X, Y]) ∧ Blk w7.drew (wn.heap.size + 1) 44 (ivs .u16 Mm) ∧ Below wn.heap.size wn w7.drew) := Lib.hid ⟨G6.out.drew, G6m.out.drew, below_drew B7.out⟩
            obtain ⟨r1, r3⟩ : rowAt w7.drew wn.heap.size 0 2 = #[.int .i32 X, .int .i32 Y] ∧ hasRow w7.drew wn.heap.size 0 2 = true := ⟨K7.out.1.rowAt_eq rfl, K7.out.1.hasRow_eq rfl⟩
            have r2 := K7.out.2.1.rowAt_eq HM3.out
            have r4 := K7.out.2.1.hasRow_eq HM3.out
            have hlk := HLK.out w7.drew ((K7.out.2.2.block _ (heap_lt HGO2.out)).trans HGO2.out)
            have HG7 := Lib.hid ((K7.out.2.2.block _ HGW.out.1).trans HGO2.out)
            clear HLK
            go_region_law (go_simp; go_at_call 28; refine (HOF.out _).mono ?_; rintro e w8 ⟨rfl, b8⟩; have hmu := HPUT.out w8 (heap_below b8 HG7.out); have B8 := Lib.hid (K7.out.2.2.trans (b8.mono K7.out.2.2.size)); have q1 : rowAt w8 wn.heap.size 0 2 = #[.int .i32 X, .int .i32 Y] := (K7.out.1.below b8 K7.out.1.lt).rowAt_eq rfl; have q3 : hasRow w8 wn.heap.size 0 2 = true := (K7.out.1.below b8 K7.out.1.lt).hasRow_eq rfl; clear b8)
            all_goals
              go_wp2
              have h8 := HSTEP.out w8 B8.out
              refine ⟨⟨_, Lib.hid h8⟩, ?_⟩
              have h9 := h8.iter.seen_eq
              have h10 := HME.out
              rw [List.length_append, List.length_singleton] at h9
              rw [h9]
              omega
end
end Go.Proofs.YtmagaapdijapiaaDoor
namespace Go.Proofs.YtmagaapdijapiaaDoor
open Go.ChangeShapes Go.WideShapes Go.ChangeAt Go.RowKit
section
attribute [local go_sem ↓] exec_ldCorner exec_ldMask
attribute [local go_sem] run_ldCorner run_ldMask
set_option maxRecDepth 20000 in
set_option maxHeartbeats 6400000 in
theorem combMinusMasks_any (A : Option Addr) (n c : Nat) (l : List Bl) (hl : l.length = n) (hrow : Bls l) (h16 : ∀ b ∈ l, is16 b.2) (h32 : ∀ b ∈ l, ∀ x ∈ b.1, -2147483648 ≤ x ∧ x ≤ 2147483647) (A2 : Option Addr) (n2 c2 : Nat) (l2 : List Bl) (hl2 : l2.length = n2) (hrow2 : Bls l2) (h162 : ∀ b ∈ l2, is16 b.2) (h322 : ∀ b ∈ l2, ∀ x ∈ b.1, -2147483648 ≤ x ∧ x ≤ 2147483647) (hn : n ≤ 1048576) (hn2 : n2 ≤ 1048576) (w : World) (hR : Rd w w.heap.size 18 A n (bcs l)) (hR2 : Rd w w.heap.size 18 A2 n2 (bcs l2)) :
    Calls Tryd.prog 46 #[.slice A n c, .slice A2 n2 c2, .func (.func 28) #[] #[]] w (GivesToldB (cmbL notF l l2) (cmbK notF l l2) w) := by
  have ho := fun W h => iValidPicture_any A n c l hl hrow h16 h32 hn W h
  have ho2 := fun W h => iValidPicture_any A2 n2 c2 l2 hl2 hrow2 h162 h322 hn2 W h
  have hm := fun (h : vpB l = true) W hR => masksOf_any A n c l hl hrow (apart_of_rising (rising_of_vpB h)) hn W hR
  have hm2 := fun (h : vpB l2 = true) W hR => masksOf_any A2 n2 c2 l2 hl2 hrow2 (apart_of_rising (rising_of_vpB h)) hn2 W hR
  have hv := fun h => vpic_of hrow h16 h
  have hv2 := fun h => vpic_of hrow2 h162 h
  have HL := Lib.hid hl
  have HL2 := Lib.hid hl2
  rw [cmbL, cmbK]
  clear hrow h16 h32 hrow2 h162 h322 hl hl2
  generalize vpB l = ok at *
  generalize vpB l2 = ok2 at *
  cases ok
  · clear hm hm2 hv hv2
    go_enter Tryd.func46, Tryd.ntmps46
    go_wp2_with (go_at_call 36; refine (ho _ (hR.more (by first | exact Nat.le_refl _ | omega))).mono ?_; rintro e w1 ⟨rfl, b1⟩)
    go_ret2
    exact GivesToldB.nil b1
  · cases ok2
    · clear hm hm2 hv hv2
      have HO := Lib.hid ho
      have HO2 := Lib.hid ho2
      clear ho ho2
      go_enter Tryd.func46, Tryd.ntmps46
      go_wp2_with (first
        | (go_at_call_of 36 (Value.slice A n c); refine (HO.out _ (hR.more (by first | exact Nat.le_refl _ | omega))).mono ?_; rintro e w1 ⟨rfl, b1⟩; have B1 := Lib.hid b1; clear b1)
        | (go_at_call_of 36 (Value.slice A2 n2 c2); refine (HO2.out _ ((hR2.below B1.out (Nat.le_refl _)).more B1.out.size)).mono ?_; rintro e w2 ⟨rfl, b2⟩; have B2 := Lib.hid (B1.out.trans (b2.mono B1.out.size)); clear b2))
      go_ret2
      exact GivesToldB.nil B2.out
    · have HO := Lib.hid ho
      have HO2 := Lib.hid ho2
      have HV := Lib.hid (hv rfl)
      have HV2 := Lib.hid (hv2 rfl)
      have HMO := Lib.hid (hm rfl)
      have HMO2 := Lib.hid (hm2 rfl)
      have HR := Lib.hid hR
      have HR2 := Lib.hid hR2
      have hmk : ∀ W : World, (Instr.makeMap 68 none).run Tryd.prog W = .ok (.map (some W.heap.size)) (W.alloc (.map #[] 0)) := fun _ => rfl
      clear ho ho2 hv hv2 hm hm2 hR hR2
      simp only [Bool.and_self, if_true]
      go_enter Tryd.func46, Tryd.ntmps46
      go_wp2_with (first
        | (go_at_call_of 36 (Value.slice A n c); refine (HO.out _ HR.out).mono ?_; rintro e w1 ⟨rfl, b1⟩; have B1 := Lib.hid b1; clear b1)
        | (go_at_call_of 36 (Value.slice A2 n2 c2); refine (HO2.out _ ((HR2.out.below B1.out (Nat.le_refl _)).more B1.out.size)).mono ?_; rintro e w2 ⟨rfl, b2⟩; have B2 := Lib.hid (B1.out.trans (b2.mono B1.out.size)); clear b2)
        | (go_at_call_of 40 (Value.slice A n c); refine (HMO.out _ ((HR.out.below B2.out (Nat.le_refl _)).more B2.out.size)).mono ?_; rintro e w3 ⟨g1, rfl, k1, k2, k3, b3⟩; have B3 := Lib.hid (B2.out.trans (b3.mono B2.out.size)); have K3 := Lib.hid (And.intro (Nat.le_trans B2.out.size k1) (And.intro k2 k3)); clear b3 k1 k2 k3)
        | (go_at_call_of 40 (Value.slice A2 n2 c2); refine (HMO2.out _ ((HR2.out.below B3.out (Nat.le_refl _)).more B3.out.size)).mono ?_; rintro e w4 ⟨g2, rfl, k1, k2, k3, b4⟩; have B4 := Lib.hid (B3.out.trans (b4.mono B3.out.size)); have K4 := Lib.hid (And.intro k1 (And.intro k2 k3)); have K34 := Lib.hid (heap_below b4 K3.out.2.2); have Z4 := Lib.hid b4.size; clear b4 k1 k2 k3; have T5 : Hid (Three w ((w4.alloc (.map #[] 0)).alloc (.mapIter (some g1) l.length #[] l.length)) g1 g2 w4.heap.size (w4.heap.size + 1) g1 l l2 l [] notF []) := Lib.hid (by have h := Three.start (w := w) (W := w4.alloc (.map #[] 0)) (g1 := g1) (g2 := g2) (go := w4.heap.size) (a := l) (b := l2) (it := l) (gi := g1) (f := notF) (ks := []) ((Below.heap_alloc w4 _ g1 (heap_lt K34.out)).trans K34.out) ((Below.heap_alloc w4 _ g2 (heap_lt K4.out.2.2)).trans K4.out.2.2) ⟨[], Tab.nil, Nat.le_refl _, heap_alloc_new w4 _, fun key => rfl⟩ (B4.out.alloc B4.out.size _); rwa [size_alloc] at h); have hrange : (Instr.range 68 (.map (some g1))).run Tryd.prog (w4.alloc (.map #[] 0)) = .ok (.pointer (some ⟨w4.heap.size + 1, 0, none⟩)) ((w4.alloc (.map #[] 0)).alloc (.mapIter (some g1) l.length #[] l.length)) := (by have h := range_at (w := w4.alloc (.map #[] 0)) (g := g1) (l := l) ((Below.heap_alloc w4 _ g1 (heap_lt K34.out)).trans K34.out); rwa [size_alloc] at h)))
      have hd1 : g1 < w4.heap.size ∧ g2 < w4.heap.size ∧ w.heap.size ≤ w4.heap.size ∧ g1 ≠ g2 := ⟨heap_lt K34.out, heap_lt K4.out.2.2, B4.out.size, by have h1 := K3.out.2.1; have h2 := K4.out.1; omega⟩
      have HD1 := Lib.hid hd1
      clear hd1 hmk
      go_loopw [11] (fun _ wr => ∃ seen : List Nat, Hid (Three w wr g1 g2 w4.heap.size (w4.heap.size + 1) g1 l l2 l seen notF (keysL l seen))) (fun _ wr => l.length - (wr.iterSeen (w4.heap.size + 1)).size)
      case atStart => exact ⟨[], T5⟩
      case round =>
        clear T5 hrange
        obtain ⟨seen, HT⟩ := hrel
        rcases next_step l wr 0 (w4.heap.size + 1) g1 seen HT.out.one HT.out.iter with ⟨hperm, hnext⟩ | ⟨i, hil, hns, wn, hnext, hentry, hit2, hsz2, hgr2⟩
        · have hrange2 := range_at HT.out.two
          have hks1 := keysL_all hperm
          have hsl : seen.length = l.length := by rw [hperm.length_eq, List.length_range]
          have T6 : Hid (Three w (wr.alloc (.mapIter (some g2) l2.length #[] l2.length)) g1 g2 w4.heap.size wr.heap.size g2 l l2 l2 [] notF (keysL l seen ++ keysL l2 [])) := Lib.hid (by
            have h := Three.start (it := l2) (gi := g2) HT.out.one HT.out.two HT.out.out HT.out.below
            have e : keysL l seen ++ keysL l2 [] = keysL l seen := by rw [show keysL l2 [] = [] from rfl, List.append_nil]
            rw [e]
            exact h)
          have hrl : w4.heap.size + 1 < wr.heap.size := HT.out.iter.lt
          have HKS := Lib.hid hks1
          have HSL := Lib.hid hsl
          have HRL := Lib.hid hrl
          have HFW := Lib.hid HV.out.few
          have HFW2 := Lib.hid HV2.out.few
          clear hperm hks1 hsl hrl HT
          go_wp2_with fail
          obtain ⟨wo, rfl⟩ : ∃ wo : World, wo = wr := ⟨_, rfl⟩
          go_loopw [13] (fun _ wr => ∃ seen2 : List Nat, Hid (Three w wr g1 g2 w4.heap.size wo.heap.size g2 l l2 l2 seen2 notF (keysL l seen ++ keysL l2 seen2))) (fun _ wr => l2.length - (wr.iterSeen wo.heap.size).size)
          case atStart => exact ⟨[], T6⟩
          case round =>
            clear T6 hrange2 hnext
            obtain ⟨seen2, HT⟩ := hrel
            rcases next_step l2 wr 0 wo.heap.size g2 seen2 HT.out.two HT.out.iter with ⟨hperm, hnext⟩ | ⟨i, hil, hns, wn, hnext, hentry, hit2, hsz2, hgr2⟩
            · obtain ⟨lo, htab, hlen, hout, hmask⟩ := HT.out.out
              have hs2 : seen2.length = l2.length := by rw [hperm.length_eq, List.length_range]
              have hlo : lo.length ≤ 1000000 := by
                have h1 : (keysL l seen ++ keysL l2 seen2).length = l.length + l2.length := by rw [List.length_append, keysL, keysL, List.length_map, List.length_map, seenL, seenL, List.length_map, List.length_map, HSL.out, hs2]
                have h2 := HFW.out
                have h3 := HFW2.out
                omega
              have hfe : maskAt lo = mixF notF l l2 := funext fun key => mixT_all notF_way hmask (fun c hc => List.mem_append_left _ (HKS.out c hc)) (fun c hc => List.mem_append_right _ (keysL_all hperm c hc)) key
              have HP := Lib.hid (pictureOf_any w4.heap.size lo htab hlo wr hout (heap_lt hout))
              rw [hfe] at HP
              have HB := Lib.hid HT.out.below
              clear htab hlen hout hmask hs2 hlo hfe hperm HT
              go_wp2_with (go_at_call 45; refine HP.out.mono ?_; rintro e w9 ⟨A9, c9, rfl, o9, b9⟩; have HO9 := Lib.hid o9; have HB9 := Lib.hid (HB.out.trans (b9.mono HB.out.size)); clear o9 b9)
              go_ret2
              exact ⟨A9, c9, rfl, HO9.out.less HB.out.size, HB9.out⟩
            · have hF1 := HV2.out.pic.bls.at_ hil
              have hFa := maskAt_of_mem HV2.out.pic.apart (List.getElem_mem hil)
              have hFk := keysL_snoc l2 seen2 hil
              obtain ⟨hM2, hM216⟩ := maskAt_ok HV.out.pic.bls HV.out.pic.m16 (l2[i]).1
              have hme := HV2.out.pic.m16 _ (List.getElem_mem hil)
              obtain ⟨⟨C, Mm⟩, hF⟩ : ∃ F, F = l2[i] := ⟨_, rfl⟩
              rw [← hF] at hF1 hFa hFk hM2 hM216 hnext hentry hme
              obtain ⟨X, Y, rfl⟩ : ∃ X Y, C = [X, Y] := ⟨_, _, two_of hF1.1⟩
              have hM16 : Mm.length = 16 := hF1.2
              have hmeas : (wr.iterSeen wo.heap.size).size = seen2.length ∧ seen2.length < l2.length := by
                refine ⟨HT.out.iter.seen_eq, ?_⟩
                have := hit2.bound
                rw [List.length_append] at this
                exact this
              obtain ⟨lo, htab, hlen, hout, hmask⟩ := HT.out.out
              have hgw : w4.heap.size < wn.heap.size ∧ g1 < wn.heap.size ∧ g2 < wn.heap.size ∧ wo.heap.size < wn.heap.size := by
                have h1 := heap_lt HT.out.one
                have h2 := heap_lt HT.out.two
                have h3 := heap_lt hout
                have h4 := hit2.lt
                rw [hsz2]
                omega
              have hgo2 : wn.heap[w4.heap.size]? = some (.map (ents lo 0).toArray lo.length) := heap_grown hgr2 hout (fun e => by injection e with e; have := HRL.out; omega)
              have hgl2 : wn.heap[g1]? = some (.map (ents l 0).toArray l.length) := heap_grown hgr2 HT.out.one (fun e => by injection e with e; have := HRL.out; have := HD1.out.1; omega)
              obtain ⟨M2, hM2e⟩ : ∃ M2, M2 = maskAt l [X, Y] := ⟨_, rfl⟩
              rw [← hM2e] at hM2 hM216
              have hFa2 : maskAt l2 [X, Y] = Mm := hFa
              have hmix : opM notF M2 Mm = mixF notF l l2 [X, Y] := by rw [mixF, ← hM2e, hFa2]
              have HSTEP : Hid (∀ w7 : World, Below wn.heap.size wn w7 → Three w (ChangeMaps.setBlock w7 w4.heap.size (.map (ents (putB lo [X, Y] (opM notF M2 Mm)) 0).toArray (putB lo [X, Y] (opM notF M2 Mm)).length)) g1 g2 w4.heap.size wo.heap.size g2 l l2 l2 (seen2 ++ [i]) notF (keysL l seen ++ keysL l2 (seen2 ++ [i]))) := Lib.hid fun w7 hb7 => by
                have hd := HD1.out
                rw [hFk, ← List.append_assoc]
                have hrl := HRL.out
                exact HT.out.step (by omega) (by omega) (by omega) (by omega) (by omega) (by omega) (by omega) htab hlen hout hmask hgr2 hit2 hb7 (by omega) rfl (opM_length hM2 hM16) (opM_16 notF_way _ _) hmix
              have HOF := Lib.hid (fun W => iMinusMasks_any M2 Mm hM2 hM16 W)
              have HLK := Lib.hid (fun W h => run_lookupMask g1 l HV.out.pic.bls X Y l.length W h)
              rw [← hM2e] at HLK
              have HPUT := Lib.hid (fun W h => run_putAny w4.heap.size lo htab.bls X Y (opM notF M2 Mm) W h)
              have HGO2 := Lib.hid hgo2
              have HGL2 := Lib.hid hgl2
              have HM3 := Lib.hid hM16
              have HME := Lib.hid hmeas
              have HGW := Lib.hid hgw
              clear hF1 hFa hFk hF hM216 hme hM16 hM2 hmeas htab hlen hout hmask hgo2 hgl2 hM2e hmix hit2 hsz2 hgr2 hns hgw
              generalize opM notF M2 Mm = R at *
              go_wp2_with (first
                | (refine wpList_store_row rfl _ _ _ rfl wn.heap.size (ivs .i32 [X, Y]) rfl rfl 63 #[.int .i32 0, .int .i32 0] ((Blk.newAt rfl rfl).alloc _) (by exact size63) rfl ivs_one ?_; generalize hw5 : World.setRow _ _ _ = w5; have G5 : Hid (Blk w5 wn.heap.size 63 (ivs .i32 [X, Y])) := Lib.hid (by rw [← hw5]; exact ((Blk.newAt rfl rfl).alloc _).row _); have G5m : Hid (Blk w5 (wn.heap.size + 1) 44 (ivs .u16 zr16)) := Lib.hid (by rw [← hw5]; exact (Blk.newAt (by simp) rfl).rowFar (by omega) _); have B5 : Hid (Below wn.heap.size wn w5) := Lib.hid (by rw [← hw5]; exact below_setRow (((Below.refl _ _).alloc (Nat.le_refl _) _).alloc (by simp) _) (Nat.le_refl _) _); clear hw5)
                | (refine wpList_store_row rfl _ _ _ rfl (wn.heap.size + 1) (ivs .u16 Mm) rfl rfl 44 (ivs .u16 zr16) G5m.out (by rw [ivs_size, HM3.out]; exact size44) (by rw [ivs_size, ivs_size, HM3.out]; rfl) ivs_one ?_; generalize hw6 : World.setRow _ _ _ = w6; have G6 : Hid (Blk w6 wn.heap.size 63 (ivs .i32 [X, Y])) := Lib.hid (by rw [← hw6]; exact G5.out.rowFar (by omega) _); have G6m : Hid (Blk w6 (wn.heap.size + 1) 44 (ivs .u16 Mm)) := Lib.hid (by rw [← hw6]; exact G5m.out.row _); have B6 : Hid (Below wn.heap.size wn w6) := Lib.hid (by rw [← hw6]; exact below_setRow B5.out (by omega) _); clear hw6))
              have K7 : Hid (Blk w6.drew wn.heap.size 63 (ivs .i32 [X, Y]) ∧ Blk w6.drew (wn.heap.size + 1) 44 (ivs .u16 Mm) ∧ Below wn.heap.size wn w6.drew) := Lib.hid ⟨G6.out.drew, G6m.out.drew, below_drew B6.out⟩
              obtain ⟨r1, r3⟩ : rowAt w6.drew wn.heap.size 0 2 = #[.int .i32 X, .int .i32 Y] ∧ hasRow w6.drew wn.heap.size 0 2 = true := ⟨K7.out.1.rowAt_eq rfl, K7.out.1.hasRow_eq rfl⟩
              have r2 := K7.out.2.1.rowAt_eq HM3.out
              have r4 := K7.out.2.1.hasRow_eq HM3.out
              have hlk := HLK.out w6.drew ((K7.out.2.2.block _ (heap_lt HGL2.out)).trans HGL2.out)
              have HG7 := Lib.hid ((K7.out.2.2.block _ HGW.out.1).trans HGO2.out)
              clear HLK
              go_region_law (go_simp; go_at_call 28; refine (HOF.out _).mono ?_; rintro e w8 ⟨rfl, b8⟩; have hmu := HPUT.out w8 (heap_below b8 HG7.out); have B8 := Lib.hid (K7.out.2.2.trans (b8.mono K7.out.2.2.size)); have q1 : rowAt w8 wn.heap.size 0 2 = #[.int .i32 X, .int .i32 Y] := (K7.out.1.below b8 K7.out.1.lt).rowAt_eq rfl; have q3 : hasRow w8 wn.heap.size 0 2 = true := (K7.out.1.below b8 K7.out.1.lt).hasRow_eq rfl; clear b8)
              all_goals
                go_wp2
                have h8 := HSTEP.out w8 B8.out
                refine ⟨⟨_, Lib.hid h8⟩, ?_⟩
                have h9 := h8.iter.seen_eq
                have h10 := HME.out
                rw [List.length_append, List.length_singleton] at h9
                rw [h9]
                omega
        · have hF1 := HV.out.pic.bls.at_ hil
          have hFa := maskAt_of_mem HV.out.pic.apart (List.getElem_mem hil)
          have hFk := keysL_snoc l seen hil
          obtain ⟨hM2, hM216⟩ := maskAt_ok HV2.out.pic.bls HV2.out.pic.m16 (l[i]).1
          have hme := HV.out.pic.m16 _ (List.getElem_mem hil)
          obtain ⟨⟨C, Mm⟩, hF⟩ : ∃ F, F = l[i] := ⟨_, rfl⟩
          rw [← hF] at hF1 hFa hFk hM2 hM216 hnext hentry hme
          obtain ⟨X, Y, rfl⟩ : ∃ X Y, C = [X, Y] := ⟨_, _, two_of hF1.1⟩
          have hM16 : Mm.length = 16 := hF1.2
          have hmeas : (wr.iterSeen (w4.heap.size + 1)).size = seen.length ∧ seen.length < l.length := by
            refine ⟨HT.out.iter.seen_eq, ?_⟩
            have := hit2.bound
            rw [List.length_append] at this
            exact this
          obtain ⟨lo, htab, hlen, hout, hmask⟩ := HT.out.out
          have hgw : w4.heap.size < wn.heap.size ∧ g1 < wn.heap.size ∧ g2 < wn.heap.size ∧ (w4.heap.size + 1) < wn.heap.size := by
            have h1 := heap_lt HT.out.one
            have h2 := heap_lt HT.out.two
            have h3 := heap_lt hout
            have h4 := hit2.lt
            rw [hsz2]
            omega
          have hgo2 : wn.heap[w4.heap.size]? = some (.map (ents lo 0).toArray lo.length) := heap_grown hgr2 hout (fun e => by injection e with e; omega)
          have hgl2 : wn.heap[g2]? = some (.map (ents l2 0).toArray l2.length) := heap_grown hgr2 HT.out.two (fun e => by injection e with e; have := HD1.out.2.1; omega)
          obtain ⟨M2, hM2e⟩ : ∃ M2, M2 = maskAt l2 [X, Y] := ⟨_, rfl⟩
          rw [← hM2e] at hM2 hM216
          have hFa2 : maskAt l [X, Y] = Mm := hFa
          have hmix : opM notF Mm M2 = mixF notF l l2 [X, Y] := by rw [mixF, ← hM2e, hFa2]
          have HSTEP : Hid (∀ w7 : World, Below wn.heap.size wn w7 → Three w (ChangeMaps.setBlock w7 w4.heap.size (.map (ents (putB lo [X, Y] (opM notF Mm M2)) 0).toArray (putB lo [X, Y] (opM notF Mm M2)).length)) g1 g2 w4.heap.size (w4.heap.size + 1) g1 l l2 l (seen ++ [i]) notF (keysL l (seen ++ [i]))) := Lib.hid fun w7 hb7 => by
            have hd := HD1.out
            rw [hFk]
            skip
            exact HT.out.step (by omega) (by omega) (by omega) (by omega) (by omega) (by omega) (by omega) htab hlen hout hmask hgr2 hit2 hb7 (by omega) rfl (opM_length hM16 hM2) (opM_16 notF_way _ _) hmix
          have HOF := Lib.hid (fun W => iMinusMasks_any Mm M2 hM16 hM2 W)
          have HLK := Lib.hid (fun W h => run_lookupMask g2 l2 HV2.out.pic.bls X Y l2.length W h)
          rw [← hM2e] at HLK
          have HPUT := Lib.hid (fun W h => run_putAny w4.heap.size lo htab.bls X Y (opM notF Mm M2) W h)
          have HGO2 := Lib.hid hgo2
          have HGL2 := Lib.hid hgl2
          have HM3 := Lib.hid hM16
          have HME := Lib.hid hmeas
          have HGW := Lib.hid hgw
          clear hF1 hFa hFk hF hM216 hme hM16 hM2 hmeas htab hlen hout hmask hgo2 hgl2 hM2e hmix hit2 hsz2 hgr2 hns hgw
          generalize opM notF Mm M2 = R at *
          go_wp2_with (first
            | (refine wpList_store_row rfl _ _ _ rfl wn.heap.size (ivs .i32 [X, Y]) rfl rfl 63 #[.int .i32 0, .int .i32 0] ((Blk.newAt rfl rfl).alloc _) (by exact size63) rfl ivs_one ?_; generalize hw5 : World.setRow _ _ _ = w5; have G5 : Hid (Blk w5 wn.heap.size 63 (ivs .i32 [X, Y])) := Lib.hid (by rw [← hw5]; exact ((Blk.newAt rfl rfl).alloc _).row _); have G5m : Hid (Blk w5 (wn.heap.size + 1) 44 (ivs .u16 zr16)) := Lib.hid (by rw [← hw5]; exact (Blk.newAt (by simp) rfl).rowFar (by omega) _); have B5 : Hid (Below wn.heap.size wn w5) := Lib.hid (by rw [← hw5]; exact below_setRow (((Below.refl _ _).alloc (Nat.le_refl _) _).alloc (by simp) _) (Nat.le_refl _) _); clear hw5)
            | (refine wpList_store_row rfl _ _ _ rfl (wn.heap.size + 1) (ivs .u16 Mm) rfl rfl 44 (ivs .u16 zr16) G5m.out (by rw [ivs_size, HM3.out]; exact size44) (by rw [ivs_size, ivs_size, HM3.out]; rfl) ivs_one ?_; generalize hw6 : World.setRow _ _ _ = w6; have G6 : Hid (Blk w6 wn.heap.size 63 (ivs .i32 [X, Y])) := Lib.hid (by rw [← hw6]; exact G5.out.rowFar (by omega) _); have G6m : Hid (Blk w6 (wn.heap.size + 1) 44 (ivs .u16 Mm)) := Lib.hid (by rw [← hw6]; exact G5m.out.row _); have B6 : Hid (Below wn.heap.size wn w6) := Lib.hid (by rw [← hw6]; exact below_setRow B5.out (by omega) _); clear hw6))
          have K7 : Hid (Blk w6.drew wn.heap.size 63 (ivs .i32 [X, Y]) ∧ Blk w6.drew (wn.heap.size + 1) 44 (ivs .u16 Mm) ∧ Below wn.heap.size wn w6.drew) := Lib.hid ⟨G6.out.drew, G6m.out.drew, below_drew B6.out⟩
          obtain ⟨r1, r3⟩ : rowAt w6.drew wn.heap.size 0 2 = #[.int .i32 X, .int .i32 Y] ∧ hasRow w6.drew wn.heap.size 0 2 = true := ⟨K7.out.1.rowAt_eq rfl, K7.out.1.hasRow_eq rfl⟩
          have r2 := K7.out.2.1.rowAt_eq HM3.out
          have r4 := K7.out.2.1.hasRow_eq HM3.out
          have hlk := HLK.out w6.drew ((K7.out.2.2.block _ (heap_lt HGL2.out)).trans HGL2.out)
          have HG7 := Lib.hid ((K7.out.2.2.block _ HGW.out.1).trans HGO2.out)
          clear HLK
          go_region_law (go_simp; go_at_call 28; refine (HOF.out _).mono ?_; rintro e w8 ⟨rfl, b8⟩; have hmu := HPUT.out w8 (heap_below b8 HG7.out); have B8 := Lib.hid (K7.out.2.2.trans (b8.mono K7.out.2.2.size)); have q1 : rowAt w8 wn.heap.size 0 2 = #[.int .i32 X, .int .i32 Y] := (K7.out.1.below b8 K7.out.1.lt).rowAt_eq rfl; have q3 : hasRow w8 wn.heap.size 0 2 = true := (K7.out.1.below b8 K7.out.1.lt).hasRow_eq rfl; clear b8)
          all_goals
            go_wp2
            have h8 := HSTEP.out w8 B8.out
            refine ⟨⟨_, Lib.hid h8⟩, ?_⟩
            have h9 := h8.iter.seen_eq
            have h10 := HME.out
            rw [List.length_append, List.length_singleton] at h9
            rw [h9]
            omega
end
end Go.Proofs.YtmagaapdijapiaaDoor
namespace Go.Proofs.YtmagaapdijapiaaDoor
open Go.ChangeShapes Go.WideShapes Go.ChangeAt Go.RowKit
theorem iMinusPictures_any (A : Option Addr) (n c : Nat) (l : List Bl) (hl : l.length = n) (hrow : Bls l) (h16 : ∀ b ∈ l, is16 b.2) (h32 : ∀ b ∈ l, ∀ x ∈ b.1, -2147483648 ≤ x ∧ x ≤ 2147483647) (A2 : Option Addr) (n2 c2 : Nat) (l2 : List Bl) (hl2 : l2.length = n2) (hrow2 : Bls l2) (h162 : ∀ b ∈ l2, is16 b.2) (h322 : ∀ b ∈ l2, ∀ x ∈ b.1, -2147483648 ≤ x ∧ x ≤ 2147483647) (hn : n ≤ 1048576) (hn2 : n2 ≤ 1048576) (w : World) (hR : Rd w w.heap.size 18 A n (bcs l)) (hR2 : Rd w w.heap.size 18 A2 n2 (bcs l2)) :
    Calls Tryd.prog 11 #[.slice A n c, .slice A2 n2 c2] w (GivesToldB (cmbL notF l l2) (cmbK notF l l2) w) := by
  have HC := Lib.hid (combMinusMasks_any A n c l hl hrow h16 h32 A2 n2 c2 l2 hl2 hrow2 h162 h322 hn hn2 w hR hR2)
  clear hl hrow h16 h32 hl2 hrow2 h162 h322 hR hR2
  generalize cmbL notF l l2 = L at *
  generalize cmbK notF l l2 = K at *
  go_enter Tryd.func11, Tryd.ntmps11
  go_wp2_with (go_at_call 46; refine HC.out.mono ?_; rintro e w9 ⟨A9, c9, rfl, o9, b9⟩; have HO9 := Lib.hid o9; have HB9 := Lib.hid b9; clear o9 b9)
  go_ret2
  exact ⟨A9, c9, rfl, HO9.out, HB9.out⟩
end Go.Proofs.YtmagaapdijapiaaDoor
namespace Go.Proofs.YtmagaapdijapiaaDoor
open Go.ChangeShapes Go.WideShapes Go.ChangeAt Go.RowKit

set_option maxHeartbeats 400000 in
theorem a2Long_in (A A2 : Option Addr) (n c n2 c2 : Nat) (hn : n ≤ 3000) (hn2 : n2 ≤ 3000) (w : World) :
    Calls Tryd.prog 5 #[.slice A n c, .slice A2 n2 c2] w fun e w' => e = .returned (.bool false) ∧ w = w' := by
  go_enter Tryd.func5, Tryd.ntmps5
  go_wp2
  go_ret
  exact ⟨by simp; omega, rfl⟩
set_option maxHeartbeats 400000 in
theorem a2Long_out (A A2 : Option Addr) (n c n2 c2 : Nat) (h : 3000 < n ∨ 3000 < n2) (w : World) :
    Calls Tryd.prog 5 #[.slice A n c, .slice A2 n2 c2] w fun e w' => e = .returned (.bool true) ∧ w = w' := by
  by_cases h1 : 3000 < n
  · have h2 : (3000 : Int) < (n : Int) := by omega
    clear h
    go_enter Tryd.func5, Tryd.ntmps5
    go_wp2
    go_ret
    exact ⟨rfl, rfl⟩
  · have h2 : (n : Int) ≤ 3000 := by omega
    have h3 : (3000 : Int) < (n2 : Int) := by omega
    clear h
    go_enter Tryd.func5, Tryd.ntmps5
    go_wp2
    go_ret
    exact ⟨rfl, rfl⟩

def atOf (l : List Int) (i : Nat) (m : Int) : Int := if i < l.length then l.getD i 0 % m else 0
theorem atOf_range (l : List Int) (i : Nat) {m : Int} (hm : 1 ≤ m) : 0 ≤ atOf l i m ∧ atOf l i m < m := by
  unfold atOf
  split
  · exact ⟨Int.emod_nonneg _ (by omega), Int.emod_lt_of_pos _ (by omega)⟩
  · omega
set_option maxHeartbeats 400000 in
theorem a2At_any (A : Option Addr) (n c : Nat) (l : List Int) (hl : l.length = n) (h255 : is255 l) (j : Int) (i : Nat) (hj : j = i) (m : Int) (hm : 1 ≤ m) (hm2 : m ≤ 1000000) (hn : n ≤ 3000) (w : World) (hR : Rd w w.heap.size 1 A n (l.map (.int .u8))) :
    Calls Tryd.prog 12 #[.slice A n c, .int .i64 j, .int .i64 m] w fun e w' => e = .returned (.int .i64 (atOf l i m)) ∧ w = w' := by
  subst hj
  by_cases hi : i < n
  · have e1 : atOf l i m = l.getD i 0 % m := by rw [atOf, if_pos (by omega)]
    rw [e1]
    obtain ⟨b, o, rfl, hbB, hc⟩ := hR.at_ (by omega)
    have c1 := hc i (.int .u8 (l.getD i 0)) (by rw [List.getElem?_map, List.getElem?_eq_getElem (by omega), List.getD_eq_getElem?_getD, List.getElem?_eq_getElem (by omega)]; rfl)
    obtain ⟨x0, x1⟩ := h255.getD i
    obtain ⟨x, hx⟩ : ∃ x, x = l.getD i 0 := ⟨_, rfl⟩
    rw [← hx] at c1 x0 x1 ⊢
    have hi2 : (i : Int) < (n : Int) := by omega
    clear hl h255 hR hbB hc e1 hx
    go_enter Tryd.func12, Tryd.ntmps12
    go_wp2
    go_ret
    exact ⟨rfl, rfl⟩
  · have e1 : atOf l i m = 0 := by rw [atOf, if_neg (by omega)]
    rw [e1]
    have hi2 : (n : Int) ≤ (i : Int) := by omega
    clear hl h255 hR e1 hi
    go_enter Tryd.func12, Tryd.ntmps12
    go_wp2
    go_ret
    exact ⟨rfl, rfl⟩

theorem conv_own {w : World} {lo hi : Nat} {A : Option Addr} {n c : Nat} {l : List Int} (h : Own w lo hi 5 1 A n c (l.map (.int .u8))) (hl : l.length = n) :
    ∃ s : ByteArray, (convert 22 9 (.slice A n c)).run Tryd.prog w = .ok (.string s) w ∧ s.toList = (strOfNums l).toList := by
  rcases h.2 with ⟨rfl, rfl, rfl⟩ | ⟨g, cur, rfl, h1, h2, h3, h4, h5, h6, h7⟩
  · have : l = [] := List.eq_nil_of_length_eq_zero hl
    subst this
    exact ⟨_, run_convert_bytes_nil w 22 5 Tryd.underlying22 Tryd.underlying5 0 0 9 Tryd.underlying9, rfl⟩
  · refine ⟨_, conv_bytes hl fun j v hv => ?_, rfl⟩
    rw [Nat.zero_add, h3.cell]
    rw [← h7, List.getElem?_take] at hv
    split at hv
    · simpa using hv
    · cases hv
end Go.Proofs.YtmagaapdijapiaaDoor
namespace Go.Proofs.YtmagaapdijapiaaDoor
open Go.ChangeShapes Go.WideShapes Go.ChangeAt Go.RowKit

set_option maxRecDepth 100000 in
set_option maxHeartbeats 12800000 in
theorem lawPieces_in (A : Option Addr) (n c : Nat) (l : List Int) (hl : l.length = n) (h255 : is255 l) (A2 : Option Addr) (n2 c2 : Nat) (l2 : List Int) (hl2 : l2.length = n2) (h255' : is255 l2) (hn : n ≤ 3000) (hn2 : n2 ≤ 3000) (w : World) (RA : Rd w w.heap.size 1 A n (l.map (.int .u8))) (RB : Rd w w.heap.size 1 A2 n2 (l2.map (.int .u8))) (QS : L8 w) :
    Calls Tryd.prog 3 #[.slice A n c, .slice A2 n2 c2] w fun e w' => e = .returned (.bool true) ∧ Below w.heap.size w w' := by
  have hpos := QS.pos
  have B0 : Below w.heap.size w w := Below.refl _ _
  go_enter Tryd.func3, Tryd.ntmps3
  go_wp2_with fail
  refine (a2Long_in A A2 n c n2 c2 hn hn2 w).mono ?_
  rintro e wx ⟨rfl, rfl⟩
  go_wp2_with fail
  refine (A2Picture_any A n c l hl h255 (by omega) _ RA).mono ?_
  rintro e w1 ⟨P, AP, cP, hS, rfl, OP, hb1⟩
  have z1 := hb1.size
  have RB_1 := RB.below hb1 (by omega)
  have QS_1 := QS.below hb1 (by omega)
  have B1 := B0.trans (hb1.mono (by omega))
  clear RB QS hb1 B0
  have hf := hS.few
  have hrow := hS.pic.bls
  have h16 := hS.pic.m16
  have h32 := hS.i32
  have hnP : P.length ≤ 1048576 := by omega
  have hCn := hS.count
  obtain ⟨t1, t2⟩ := told_of hS.vp (show (specC P).length ≤ 1024 by omega)
  obtain ⟨k1, vE, m1, m2, m3⟩ := edge_small hS
  have hw := wide_small hS
  have hk := (sizes_small hS true).2.2
  have SM := fun cn => hS.sums cn
  have l0 : (psL P false).length ≤ (specC P).length := by rw [(sizes_small hS false).1]; exact sizes_length _ _ _ _
  have l1 : (psL P true).length ≤ (specC P).length := by rw [(sizes_small hS true).1]; exact sizes_length _ _ _ _
  have IC : Hid (∀ A c W, Rd W W.heap.size 18 A P.length (bcs P) → Calls Tryd.prog 7 #[.slice A P.length c] W (GivesToldC (specC P) 0 W)) := Lib.hid (fun A c W hW => by have h := iCellsOfPicture_any A P.length c P rfl hrow h16 h32 hnP W hW; rw [t1, t2] at h; exact h)
  have SC : Hid (∀ A c W, Rd W W.heap.size 18 A P.length (bcs P) → Calls Tryd.prog 8 #[.slice A P.length c] W (GivesToldC (specC P) 0 W)) := Lib.hid (fun A c W hW => by have h := sCellsOfPicture_any A P.length c P rfl hrow h16 h32 hnP W hW; rw [t1, t2] at h; exact h)
  have IS : Hid (∀ cn A c W, L8 W → Rd W W.heap.size 18 A P.length (bcs P) → Calls Tryd.prog 9 #[.slice A P.length c, .bool cn] W (GivesToldI (psL P cn) 0 W)) := Lib.hid (fun cn A c W hQ hW => by have h := iPiecesOf_any A P.length c P rfl hrow h16 h32 cn hnP W hQ.at_ hW; rw [hk] at h; exact h)
  have IE : Hid (∀ A c W, L8 W → Rd W W.heap.size 18 A P.length (bcs P) → Calls Tryd.prog 10 #[.slice A P.length c] W (GivesToldB (edgL P) 0 W)) := Lib.hid (fun A c W hQ hW => by have h := iEdgeOf_any A P.length c P rfl hrow h16 h32 hnP W hQ.at_ hW; rw [k1] at h; exact h)
  have IM : Hid (∀ A c A2 c2 W, Rd W W.heap.size 18 A (edgL P).length (bcs (edgL P)) → Rd W W.heap.size 18 A2 P.length (bcs P) → Calls Tryd.prog 11 #[.slice A (edgL P).length c, .slice A2 P.length c2] W (GivesToldB [] 0 W)) := Lib.hid (fun A c A2 c2 W hW hW2 => by have h := iMinusPictures_any A (edgL P).length c (edgL P) rfl vE.pic.bls vE.pic.m16 vE.i32 A2 P.length c2 P rfl hrow h16 h32 (by have := vE.few; omega) hnP W hW hW2; rw [m1, m2] at h; exact h)
  have HE : Hid ((specC P).length = 0 → (edgL P).length = 0) := Lib.hid (fun h => by rw [m3 (List.eq_nil_of_length_eq_zero h)]; rfl)
  have HS := Lib.hid hS
  have HL2 := Lib.hid (And.intro hl2 h255')
  have hrows := specC_rows P
  have HRW := Lib.hid hrows
  clear hS hrow h16 h32 t1 t2 k1 vE m1 m2 m3 hk hrows hnP
  go_wp2_with fail
  refine (IC.out AP cP _ (OP.rd.more (by omega))).mono ?_
  rintro e w2 ⟨AC, cC, rfl, OC, hb2⟩
  have z2 := hb2.size
  have RB_2 := RB_1.below hb2 (by omega)
  have QS_2 := QS_1.below hb2 (by omega)
  have OP_2 := OP.below hb2 (by omega)
  have B2 := B1.trans (hb2.mono (by omega))
  clear RB_1 QS_1 OP hb2 B1
  go_wp2_with fail
  refine (SC.out AP cP _ (OP_2.rd.more (by omega))).mono ?_
  rintro e w3 ⟨AK, cK, rfl, OK, hb3⟩
  have z3 := hb3.size
  have RB_3 := RB_2.below hb3 (by omega)
  have QS_3 := QS_2.below hb3 (by omega)
  have OP_3 := OP_2.below hb3 (by omega)
  have OC_3 := OC.below hb3 (by omega)
  have B3 := B2.trans (hb3.mono (by omega))
  clear RB_2 QS_2 OP_2 OC hb3 B2
  go_wp2_with fail
  refine (IS.out false AP cP _ QS_3 (OP_3.rd.more (by omega))).mono ?_
  rintro e w4 ⟨AS, cS, rfl, OS, hb4⟩
  have z4 := hb4.size
  have RB_4 := RB_3.below hb4 (by omega)
  have QS_4 := QS_3.below hb4 (by omega)
  have OP_4 := OP_3.below hb4 (by omega)
  have OC_4 := OC_3.below hb4 (by omega)
  have B4 := B3.trans (hb4.mono (by omega))
  clear RB_3 QS_3 OP_3 OC_3 hb4 B3
  go_wp2_with fail
  refine (IS.out true AP cP _ QS_4 (OP_4.rd.more (by omega))).mono ?_
  rintro e w5 ⟨AW, cW, rfl, OW, hb5⟩
  have z5 := hb5.size
  have RB_5 := RB_4.below hb5 (by omega)
  have QS_5 := QS_4.below hb5 (by omega)
  have OP_5 := OP_4.below hb5 (by omega)
  have OC_5 := OC_4.below hb5 (by omega)
  have OS_5 := OS.below hb5 (by omega)
  have B5 := B4.trans (hb5.mono (by omega))
  clear RB_4 QS_4 OP_4 OC_4 OS hb5 B4
  go_wp2_with fail
  refine (IE.out AP cP _ QS_5 (OP_5.rd.more (by omega))).mono ?_
  rintro e w6 ⟨AE, cE, rfl, OE, hb6⟩
  have z6 := hb6.size
  have RB_6 := RB_5.below hb6 (by omega)
  have QS_6 := QS_5.below hb6 (by omega)
  have OP_6 := OP_5.below hb6 (by omega)
  have OC_6 := OC_5.below hb6 (by omega)
  have OS_6 := OS_5.below hb6 (by omega)
  have OW_6 := OW.below hb6 (by omega)
  have B6 := B5.trans (hb6.mono (by omega))
  clear RB_5 QS_5 OP_5 OC_5 OS_5 OW hb6 B5
  go_wp2_with fail
  refine (IM.out AE cE AP cP _ (OE.rd.more (by omega)) (OP_6.rd.more (by omega))).mono ?_
  rintro e w7 ⟨AI, cI, rfl, OI, hb7⟩
  have z7 := hb7.size
  have RB_7 := RB_6.below hb7 (by omega)
  have QS_7 := QS_6.below hb7 (by omega)
  have OP_7 := OP_6.below hb7 (by omega)
  have OC_7 := OC_6.below hb7 (by omega)
  have OS_7 := OS_6.below hb7 (by omega)
  have OW_7 := OW_6.below hb7 (by omega)
  have OE_7 := OE.below hb7 (by omega)
  have B7 := B6.trans (hb7.mono (by omega))
  clear RB_6 QS_6 OP_6 OC_6 OS_6 OW_6 OE hb7 B6
  have HOP := Lib.hid OP_7
  have HOC := Lib.hid OC_7
  have HOS := Lib.hid OS_7
  have HOW := Lib.hid OW_7
  have HRB := Lib.hid RB_7
  have HQ := Lib.hid QS_7
  have HB0 := Lib.hid B7
  have SM0 := SM false
  have SM1 := SM true
  clear OP_7 OC_7 OS_7 OW_7 RB_7 QS_7 OE_7 B7 SM IC SC IE IM OK OI
  have HS0 : Hid (SumTo (psL P false) (specC P).length) := Lib.hid SM0
  have HS1 : Hid (SumTo (psL P true) (specC P).length) := Lib.hid SM1
  clear SM0 SM1
  generalize hS0 : psL P false = S0 at *
  generalize hS1 : psL P true = S1 at *
  generalize edgL P = E at *
  obtain ⟨wp, rfl⟩ : ∃ W : World, W = w7 := ⟨_, rfl⟩
  obtain ⟨C, hC⟩ : ∃ C, C = specC P := ⟨_, rfl⟩
  rw [← hC] at HOC HS0 HS1 HE HRW hCn l0 l1 ⊢
  have HCP := Lib.hid hC
  have HSS := Lib.hid (And.intro hS0 hS1)
  clear hC hS0 hS1
  go_wp2
  go_loopw [18, 19] (fun s i wr => ∃ (k : Nat) (q : Int), k ≤ S0.length ∧ i = .int .i64 k ∧ s = .int .i64 q ∧ Hid (q = (S0.take k).sum) ∧ wp = wr) (fun _ i _ => S0.length - (intOf i).toNat)
  case atStart => exact ⟨0, 0, Nat.zero_le _, rfl, rfl, Lib.hid rfl, rfl⟩
  case round =>
    obtain ⟨k, q, hk, rfl, rfl, HQ0, rfl⟩ := hrel
    by_cases hlt : k < S0.length
    · obtain ⟨g, o, hA, hgb, hc⟩ := HOS.out.rd.at_ (by omega)
      subst hA
      have c1 := hc k (.int .i64 S0[k]) (by rw [List.getElem?_map, List.getElem?_eq_getElem hlt]; rfl)
      obtain ⟨a1, a2, a3, a4⟩ := HS0.out.at_ hlt
      rw [← HQ0.out] at a1 a3 a4
      have HN := Lib.hid a4.symm
      have hki : (k : Int) < S0.length := by omega
      clear hc hgb a4
      generalize S0[k] = x at *
      go_wp2
      exact ⟨⟨k + 1, _, by omega, by go_num, rfl, HN, trivial⟩, by simp [intOf]; omega⟩
    · obtain rfl : k = S0.length := by omega
      have hq : q = C.length := by rw [HQ0.out, List.take_length]; exact HS0.out.sum
      subst hq
      clear HQ0 hlt hk
      go_wp2
      go_loopw [20, 21] (fun s i wr => ∃ (k : Nat) (q : Int), k ≤ S1.length ∧ i = .int .i64 k ∧ s = .int .i64 q ∧ Hid (q = (S1.take k).sum) ∧ wp = wr) (fun _ i _ => S1.length - (intOf i).toNat)
      case atStart => exact ⟨0, 0, Nat.zero_le _, rfl, rfl, Lib.hid rfl, rfl⟩
      case round =>
        obtain ⟨k, q, hk, rfl, rfl, HQ0, rfl⟩ := hrel
        by_cases hlt : k < S1.length
        · obtain ⟨g, o, hA, hgb, hc⟩ := HOW.out.rd.at_ (by omega)
          subst hA
          have c1 := hc k (.int .i64 S1[k]) (by rw [List.getElem?_map, List.getElem?_eq_getElem hlt]; rfl)
          obtain ⟨a1, a2, a3, a4⟩ := HS1.out.at_ hlt
          rw [← HQ0.out] at a1 a3 a4
          have HN := Lib.hid a4.symm
          have hki : (k : Int) < S1.length := by omega
          clear hc hgb a4
          generalize S1[k] = x at *
          go_wp2
          exact ⟨⟨k + 1, _, by omega, by go_num, rfl, HN, trivial⟩, by simp [intOf]; omega⟩
        · obtain rfl : k = S1.length := by omega
          have hq : q = C.length := by rw [HQ0.out, List.take_length]; exact HS1.out.sum
          subst hq
          clear HQ0 hlt hk HOS HOW HS0 HS1
          have hl2' := HL2.out.1
          by_cases h0 : C.length = 0
          · have hE0 : E.length = 0 := HE.out h0
            go_wp2
            go_ret
            exact ⟨rfl, HB0.out⟩
          · have hn0 : 0 < C.length := by omega
            have hn0i : (0 : Int) < (C.length : Int) := by omega
            have hn1i : ¬ (C.length : Int) = 0 := by omega
            obtain ⟨v0, v1⟩ := atOf_range l2 0 (m := 256) (by decide)
            have HA0 := Lib.hid (fun W hW => a2At_any A2 n2 c2 l2 HL2.out.1 HL2.out.2 0 0 rfl 256 (by decide) (by decide) hn2 W hW)
            have HA1 := Lib.hid (fun W hW => a2At_any A2 n2 c2 l2 HL2.out.1 HL2.out.2 1 1 rfl 2 (by decide) (by decide) hn2 W hW)
            generalize atOf l2 0 256 = v at *
            generalize atOf l2 1 2 = u at *
            have hr0 := Int.emod_nonneg v (show (C.length : Int) ≠ 0 by omega)
            have hr1 := Int.emod_lt_of_pos v hn0i
            obtain ⟨i, hi⟩ : ∃ i : Nat, v % (C.length : Int) = i := ⟨(v % (C.length : Int)).toNat, by omega⟩
            rw [hi] at hr0 hr1
            have hic : i < C.length := by omega
            have ht : v.tmod (C.length : Int) = i := by rw [Int.tmod_eq_emod_of_nonneg v0]; exact hi
            obtain ⟨x, y, hxy⟩ : ∃ x y, C[i] = [x, y] := ⟨_, _, two_of (HRW.out.at_ hic)⟩
            have hmem : [x, y] ∈ specC P := by rw [← HCP.out, ← hxy]; exact List.getElem_mem hic
            obtain ⟨cn, hcn⟩ : ∃ cn, cn = (u == 1) := ⟨_, rfl⟩
            obtain ⟨p1, p2, p3, p4, p5, p6, p7, p8, p9, p10⟩ := piece_small HS.out hmem cn
            have hS := HS.out
            have hcell : cellB x y = true := hS.vpic.cells ((spec_mem hS.pic.apart hS.pic.bls [x, y]).1 hmem).2
            simp only [cellB, inB, Bool.and_eq_true, decide_eq_true_iff] at hcell
            have hx0 := hcell.1.1
            have hx1 := hcell.1.2
            have hy0 := hcell.2.1
            have hy1 := hcell.2.2
            have hP64 : P.length ≤ 1048576 := by have := hS.few; omega
            have JP : Hid (∀ A c W, L8 W → Rd W W.heap.size 18 A P.length (bcs P) → Calls Tryd.prog 13 #[.slice A P.length c, .int .i64 x, .int .i64 y, .bool cn] W (GivesToldB (pcL P x y cn) 0 W)) := Lib.hid (fun A c W hQ hW => by have h := iPieceOf_any A P.length c P rfl hS.pic.bls hS.pic.m16 hS.i32 x y cn hP64 W hQ.at_ hW; rw [p1] at h; exact h)
            have ISP := Lib.hid (IS.out cn)
            generalize pcL P x y cn = S at *
            have hs64 : S.length ≤ 1048576 := by have := p2.few; omega
            have JM : Hid (∀ A c A2 c2 W, Rd W W.heap.size 18 A P.length (bcs P) → Rd W W.heap.size 18 A2 S.length (bcs S) → Calls Tryd.prog 11 #[.slice A P.length c, .slice A2 S.length c2] W (GivesToldB (cmbL notF P S) 0 W)) := Lib.hid (fun A c A2 c2 W hW hW2 => by have h := iMinusPictures_any A P.length c P rfl hS.pic.bls hS.pic.m16 hS.i32 A2 S.length c2 S rfl p2.pic.bls p2.pic.m16 p2.i32 hP64 hs64 W hW hW2; rw [p4] at h; exact h)
            have JH : Hid (∀ A c W, Rd W W.heap.size 18 A S.length (bcs S) → Calls Tryd.prog 14 #[.slice A S.length c, .int .i64 x, .int .i64 y] W fun e w' => e = .returned (.tuple #[.bool true, .int .i64 0]) ∧ Below W.heap.size W w') := Lib.hid (fun A c W hW => by have h := iPictureHas_any A S.length c S rfl p2.pic.bls p2.pic.m16 p2.i32 x y hs64 W hW; rw [p3] at h; exact h)
            have JS : Hid (∀ A c W, L8 W → Rd W W.heap.size 18 A S.length (bcs S) → Calls Tryd.prog 9 #[.slice A S.length c, .bool cn] W (GivesToldI [(cntV S).1] 0 W)) := Lib.hid (fun A c W hQ hW => by have h := iPiecesOf_any A S.length c S rfl p2.pic.bls p2.pic.m16 p2.i32 cn hs64 W hQ.at_ hW; rw [p8, p9] at h; exact h)
            have JC : Hid (∀ A c W, Rd W W.heap.size 18 A S.length (bcs S) → Calls Tryd.prog 15 #[.slice A S.length c] W fun e w' => e = .returned (.tuple #[.int .i64 (cntV S).1, .int .i64 0]) ∧ Below W.heap.size W w') := Lib.hid (fun A c W hW => by have h := iCountPicture_any A S.length c S rfl p2.pic.bls p2.pic.m16 p2.i32 hs64 W hW; rw [p10] at h; exact h)
            generalize (cntV S).1 = q at *
            generalize cmbL notF P S = T at *
            have ht64 : T.length ≤ 1048576 := by have := p5.few; omega
            have JR : Hid (∀ A c W, L8 W → Rd W W.heap.size 18 A T.length (bcs T) → Calls Tryd.prog 9 #[.slice A T.length c, .bool cn] W (GivesToldI (psL T cn) 0 W)) := Lib.hid (fun A c W hQ hW => by have h := iPiecesOf_any A T.length c T rfl p5.pic.bls p5.pic.m16 p5.i32 cn ht64 W hQ.at_ hW; rw [p7] at h; exact h)
            have hst := psL_length p5.pic.bls p5.pic.m16 cn
            generalize psL P cn = SP at *
            generalize psL T cn = ST at *
            have hlen : SP.length = ST.length + 1 := p6
            have HLEN := Lib.hid hlen
            obtain ⟨gC, oC, hAC, hgC, hcC⟩ := HOC.out.rd.at_ (by omega)
            have hrg : wp.rangeAt gC (oC + i * 2) ([x, y].map (.int .i32)) := by
              have h2 := Rd.rangeAt (i := i * 2) (s := 2) hcC
              rw [pvs, ← List.map_drop, ← List.map_take, flat_row HRW.out hic, hxy] at h2
              exact h2
            subst hAC
            have HRG := Lib.hid hrg
            have HCN := Lib.hid hcn
            clear p1 p2 p3 p4 p5 p6 p7 p8 p9 p10 hS hmem hxy hcC hrg hlen hcn HE IS
            have hwz := HB0.out.size
            have HRP : Hid (∀ W, Below wp.heap.size wp W → Rd W W.heap.size 18 AP P.length (bcs P)) := Lib.hid (fun W hb => ((HOP.out.below hb (by omega)).rd.more (by have := hb.size; omega)))
            have HQW : Hid (∀ W, Below wp.heap.size wp W → L8 W) := Lib.hid (fun W hb => HQ.out.below hb (by omega))
            have HRW2 : Hid (∀ W, Below wp.heap.size wp W → Rd W W.heap.size 1 A2 n2 (l2.map (.int .u8))) := Lib.hid (fun W hb => (HRB.out.below hb hwz).more (Nat.le_trans hwz hb.size))
            clear HOP HQ HRB HOC HRW HCP HSS HL2 hl hl2 h255 h255' RA
            go_wp2_with (first
              | (go_at_call 12; refine (HA1.out w3 (HRW2.out w3 B3.out)).mono ?_; rintro e wx ⟨rfl, rfl⟩)
              | (go_at_call 12; refine (HA0.out wp (HRW2.out wp (Below.refl _ _))).mono ?_; rintro e wx ⟨rfl, rfl⟩)
              | refine wpList_load_ivs rfl _ _ rfl gC (oC + i * 2) rfl .i32 [x, y] _ HRG.out Tryd.underlying35 rfl (by exact size35) ?_
              | (refine wpList_store_row rfl _ _ _ rfl wp.heap.size (ivs .i32 [x, y]) rfl rfl 35 (ivs .i32 [0, 0]) (Blk.newAt rfl rfl) (by exact size35) rfl ivs_one ?_; generalize hw3 : World.setRow _ _ _ = w3; have K3 : Hid (Blk w3 wp.heap.size 35 (ivs .i32 [x, y])) := Lib.hid (by rw [← hw3]; exact (Blk.newAt rfl rfl).row _); have B3 : Hid (Below wp.heap.size wp w3) := Lib.hid (by rw [← hw3]; exact below_setRow ((Below.refl _ _).alloc (Nat.le_refl _) _) (Nat.le_refl _) _); clear hw3; have d0 : w3.cell? ⟨wp.heap.size, 0, none⟩ = some (.int .i32 x) := K3.out.cell 0; have d1 : w3.cell? ⟨wp.heap.size, 1, none⟩ = some (.int .i32 y) := K3.out.cell 1))
            rw [← HCN.out]
            have y3 := B3.out.size
            refine (JP.out AP cP w3 (HQW.out w3 B3.out) (HRP.out w3 B3.out)).mono ?_
            rintro e w4 ⟨A4, c4, rfl, O4, hb4⟩
            have y4 := hb4.size
            have K4 := Lib.hid (K3.out.below hb4 K3.out.lt)
            have e0 : w4.cell? ⟨wp.heap.size, 0, none⟩ = some (.int .i32 x) := K4.out.cell 0
            have e1 : w4.cell? ⟨wp.heap.size, 1, none⟩ = some (.int .i32 y) := K4.out.cell 1
            have B4 := Lib.hid (B3.out.trans (hb4.mono y3))
            have Q4 := Lib.hid O4
            clear O4 hb4 d0 d1 K3 HA0 HA1 JP HRG HRW2
            go_wp2_with fail
            refine (JH.out A4 c4 w4 Q4.out.rd).mono ?_
            rintro e w5 ⟨rfl, hb5⟩
            have y5 := hb5.size
            have B5 := Lib.hid (B4.out.trans (hb5.mono (Nat.le_trans y3 y4)))
            have Q5 := Lib.hid (Q4.out.below hb5 (Nat.le_refl _))
            clear hb5 e0 e1 K4 Q4 JH
            go_wp2_with fail
            refine (JM.out AP cP A4 c4 w5 (HRP.out w5 B5.out) (Q5.out.rd.more y5)).mono ?_
            rintro e w6 ⟨A6, c6, rfl, O6, hb6⟩
            have y6 := hb6.size
            have B6 := Lib.hid (B5.out.trans (hb6.mono (by omega)))
            have Q6 := Lib.hid (Q5.out.below hb6 (by omega))
            have T6 := Lib.hid O6
            clear hb6 O6 Q5 JM
            go_wp2_with fail
            refine (ISP.out AP cP w6 (HQW.out w6 B6.out) (HRP.out w6 B6.out)).mono ?_
            rintro e w7 ⟨A7, c7, rfl, O7, hb7⟩
            have y7 := hb7.size
            have B7 := Lib.hid (B6.out.trans (hb7.mono (by omega)))
            have Q7 := Lib.hid (Q6.out.below hb7 (by omega))
            have T7 := Lib.hid (T6.out.below hb7 (by omega))
            clear hb7 O7 Q6 T6 ISP HRP
            go_wp2_with fail
            refine (JR.out A6 c6 w7 (HQW.out w7 B7.out) (T7.out.rd.more (by omega))).mono ?_
            rintro e w8 ⟨A8, c8, rfl, O8, hb8⟩
            have y8 := hb8.size
            have B8 := Lib.hid (B7.out.trans (hb8.mono (by omega)))
            have Q8 := Lib.hid (Q7.out.below hb8 (by omega))
            clear hb8 O8 Q7 T7 JR
            go_wp2_with fail
            refine (JS.out A4 c4 w8 (HQW.out w8 B8.out) (Q8.out.rd.more (by omega))).mono ?_
            rintro e w9 ⟨A9, c9, rfl, O9, hb9⟩
            have y9 := hb9.size
            have B9 := Lib.hid (B8.out.trans (hb9.mono (by omega)))
            have Q9 := Lib.hid (Q8.out.below hb9 (by omega))
            have T9 := Lib.hid O9
            clear hb9 O9 Q8 JS HQW
            go_wp2_with fail
            refine (JC.out A4 c4 w9 (Q9.out.rd.more (by omega))).mono ?_
            rintro e w10 ⟨rfl, hb10⟩
            have B10 := Lib.hid (B9.out.trans (hb10.mono (by omega)))
            obtain ⟨g9, o9, hA9, hg9, hc9⟩ := (T9.out.below hb10 (Nat.le_refl _)).rd.at_ (by simp)
            have c9' := hc9 0 (.int .i64 q) rfl
            rw [Nat.add_zero] at c9'
            subst hA9
            have hl9 : SP.length = ST.length + 1 := HLEN.out
            rw [hl9]
            clear hc9 hb10 Q9 T9 JC hl9 HLEN
            go_wp2
            go_ret
            exact ⟨rfl, HB0.out.trans (B10.out.mono hwz)⟩
set_option maxRecDepth 100000 in
set_option maxHeartbeats 400000 in
theorem lawPieces_any (A : Option Addr) (n c : Nat) (l : List Int) (hl : l.length = n) (h255 : is255 l) (A2 : Option Addr) (n2 c2 : Nat) (l2 : List Int) (hl2 : l2.length = n2) (h255' : is255 l2) (w : World) (RA : Rd w w.heap.size 1 A n (l.map (.int .u8))) (RB : Rd w w.heap.size 1 A2 n2 (l2.map (.int .u8))) (QS : L8 w) :
    Calls Tryd.prog 3 #[.slice A n c, .slice A2 n2 c2] w fun e w' => e = .returned (.bool true) ∧ Below w.heap.size w w' := by
  by_cases h3 : n ≤ 3000 ∧ n2 ≤ 3000
  · exact lawPieces_in A n c l hl h255 A2 n2 c2 l2 hl2 h255' h3.1 h3.2 w RA RB QS
  · have h3 : 3000 < n ∨ 3000 < n2 := by omega
    clear RA RB QS hl hl2 h255 h255'
    go_enter Tryd.func3, Tryd.ntmps3
    go_wp2_with fail
    refine (a2Long_out A A2 n c n2 c2 h3 w).mono ?_
    rintro e w0 ⟨rfl, rfl⟩
    go_wp2
    go_ret
    exact ⟨rfl, Below.refl _ _⟩
end Go.Proofs.YtmagaapdijapiaaDoor
