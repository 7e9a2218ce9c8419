/- Lr, Qa, Qp, Sb in one text. -/
import Derived.Test.YthicgmdkipgkaaaDoorRows
import Derived.Test.YthicgmdkipgkaaaDoorZs2
import Derived.Test.YthicgmdkipgkaaaDoorZs1
import Derived.Test.YthicgmdkipgkaaaDoorCo
import Derived.Test.YthicgmdkipgkaaaDoorCz
import Derived.Test.YthicgmdkipgkaaaDoorSl
namespace Go.Proofs.YthicgmdkipgkaaaDoor
open Go.ChangeShapes Go.WideShapes Go.ChangeAt Go.RowKit
def pvl (l : List (List Int)) : List Value := l.flatten.map (Value.int .i64)
/-- what lies in a row of another type stays, whatever is appended -/
theorem own_other {w w' : World} {lo hi base : Nat} {e e2 : TypeId} {size s2 n n2 c c2 q : Nat} {A : Option Addr} {xs ys : List Value} (h : Own w lo hi e size A n c xs) (h2 : w.ownsRow base e2 s2 (.slice (some ⟨q, 0, none⟩) n2 c2) n2 ys) (he : e ≠ e2) (hg : w.grownBy w' (some q)) : Own w' lo hi e size A n c xs := by
  refine ⟨h.1, ?_⟩
  rcases h.2 with h1 | ⟨g, cur, k1, k2, k3, k4, k5⟩
  · exact .inl h1
  · refine .inr ⟨g, cur, k1, k2, k3, k4.grown hg fun e3 => ?_, k5⟩
    injection e3 with e3
    subst e3
    rcases h2.2 with ⟨h3, _⟩ | ⟨g2, _, cur2, h3, _, h4, _⟩
    · cases h3
    · cases h3
      unfold Blk at k4
      rw [k4] at h4
      injection h4 with h4
      injection h4 with _ h4
      exact he h4
theorem pvl_one {l : List (List Int)} : ∀ v ∈ pvl l, v.oneCell' = true := fun v hv => by
  simp only [pvl, List.mem_map] at hv
  obtain ⟨s, _, rfl⟩ := hv
  rfl
theorem PairL_info : (Tryd.prog.info? 92).map (fun i => (i.zero, i.size, i.bytes)) = some (some (.agg #[.int .i64 0, .int .i64 0]), 2, 16) := by kernel_rfl
theorem pvl_append (a b : List (List Int)) : pvl (a ++ b) = pvl a ++ pvl b := by rw [pvl, pvl, pvl, List.flatten_append, List.map_append]
theorem pairL_news (W : World) (x y : Int) : ∀ j u, (pvl [[x, y]])[j]? = some u → (W.alloc (.cells #[.int .i64 x, .int .i64 y] 92)).cell? ((⟨W.heap.size, 0, none⟩ : Addr).add j) = some u :=
  Blk.news (k := .i64) (l := [x, y]) (t := 92) (Blk.newAt rfl rfl)
set_option maxRecDepth 20000 in
set_option maxHeartbeats 6400000 in
theorem l07Piece_any (A : Option Addr) (n c : Nat) (l : List Bl) (hl : l.length = n) (hrow : Bls l) (hv : VPic l) (x y : Int) (hh : hasB l x y = true) (cn : Bool) (w : World) (hR : Rd w w.heap.size 18 A n (bcs l)) :
    Calls Tryd.prog 34 #[.slice A n c, .int .i64 x, .int .i64 y, .bool cn] w fun e w' => ∃ A' c' L P, e = .returned (.slice A' P.length c') ∧ PieceL (hasB l) cn x y L ∧ Pic P ∧ (∀ U V, hasB P U V = decide ([U, V] ∈ L)) ∧ Own w' w.heap.size w'.heap.size 50 18 A' P.length c' (bcs P) ∧ Below w.heap.size w w' := by
  obtain ⟨⟨x1, x2⟩, ⟨y1, y2⟩⟩ := cellB_in (hv.cells hh)
  have hok : ∀ f ∈ [[x, y]], okC f = true := fun f hf => by
    rw [List.mem_singleton] at hf
    subst hf
    exact hv.cells hh
  have HPI := Lib.hid (fun W (hr : Rd W W.heap.size 2 (some ⟨w.heap.size, 0, none⟩) 1 (pvs [[x, y]])) => l07Picture_any (some ⟨w.heap.size, 0, none⟩) 1 1 [[x, y]] rfl (fun f hf => by rw [List.mem_singleton] at hf; subst hf; rfl) hok (by omega) W hr)
  have HV := Lib.hid hv
  have HR := Lib.hid hR
  have HH := Lib.hid hh
  have HL := Lib.hid hl
  have HROW := Lib.hid hrow
  have hn64 : n ≤ 1048576 := by have := hv.few; omega
  have HN := Lib.hid hn64
  obtain ⟨i0, hi, hz0, hz1, hzb⟩ := info_parts PairL_info
  clear hok hv hR hh hrow hl hn64
  go_enter Tryd.func34, Tryd.ntmps34
  go_wp2_with (first
    | (go_at_call 60; refine (HPI.out _ (Rd.blk (cs := ivs .i32 [x, y]) (t := 42) (Blk.newAt rfl rfl) 0 1 2 (by rw [ivs_size]; exact Nat.le_refl _))).mono ?_; rintro e w1 ⟨A1, c1, P, rfl, hsp, ho, hb⟩))
  have z1 := hb.size
  rw [size_alloc] at z1
  have HS := Lib.hid (ps_one (cn := cn) HH.out hsp)
  have HO := Lib.hid (ho.less (lo' := w.heap.size) (by simp))
  have HB : Hid (Below w.heap.size w w1) := Lib.hid (((Below.refl _ _).alloc (Nat.le_refl _) _).trans (hb.mono (by simp)))
  clear hsp ho hb HPI
  have hrow0 : Hid ((w1.alloc (.cells #[.int .i64 x, .int .i64 y] 92)).ownsRow w.heap.size 92 2 (.slice (some ⟨w1.heap.size, 0, none⟩) 1 1) 1 (pvl [[x, y]])) := Lib.hid (by
    have := World.ownsRow_lit (e := 92) (base := w.heap.size) (size := 2) w1 #[.int .i64 x, .int .i64 y] 1 (by omega) (by unfold maxLen; omega) rfl
    exact this)
  have HO1 := Lib.hid ((HO.out.below ((Below.refl w1.heap.size w1).alloc (Nat.le_refl _) (.cells #[.int .i64 x, .int .i64 y] 92)) (Nat.le_refl _)).more (show w1.heap.size ≤ (w1.alloc (.cells #[.int .i64 x, .int .i64 y] 92)).heap.size by simp))
  have HB1 := Lib.hid (HB.out.alloc HB.out.size (.cells #[.int .i64 x, .int .i64 y] 92))
  have hhx := HH.out
  clear HO HB
  go_loopw [9, 10, 11] (fun o t i wr => ∃ (k : Nat) (L : List (List Int)) (P : List Bl) (A' : Option Addr) (c' q ct : Nat), o = .slice A' P.length c' ∧ t = .slice (some ⟨q, 0, none⟩) L.length ct ∧ i = .int .i64 k ∧ k ≤ L.length ∧ Hid (PS l cn x y L k (fun _ _ => False) P) ∧ Hid (Own wr w.heap.size wr.heap.size 50 18 A' P.length c' (bcs P)) ∧ Hid (wr.ownsRow w.heap.size 92 2 (.slice (some ⟨q, 0, none⟩) L.length ct) L.length (pvl L)) ∧ Hid (Below w.heap.size w wr)) (fun _ _ i _ => (specC l).length - (intOf i).toNat)
  case atStart => exact ⟨0, [[x, y]], P, A1, c1, w1.heap.size, 1, rfl, rfl, rfl, Nat.zero_le _, HS, HO1, hrow0, HB1⟩
  case round =>
    clear HS HO1 hrow0 HB1 z1
    obtain ⟨k, L, P, A', c', q, ct, rfl, rfl, rfl, hk, HP, HO, HT, HB⟩ := hrel
    have hLC : L.length ≤ (specC l).length := HP.out.part.length (fun u v h => (spec_mem HV.out.pic.apart HV.out.pic.bls [u, v]).2 ⟨rfl, h⟩)
    have hcnt := HV.out.count
    by_cases hkl : k < L.length
    · have hkI : (k : Int) < L.length := by omega
      have hk0 : (0 : Int) ≤ k := by omega
      go_wp2
      go_loopw [9, 10, 12] (fun o t d wr => ∃ (dy : Int) (L : List (List Int)) (P : List Bl) (A' : Option Addr) (c' q ct : Nat), o = .slice A' P.length c' ∧ t = .slice (some ⟨q, 0, none⟩) L.length ct ∧ d = .int .i64 dy ∧ (-1 ≤ dy ∧ dy ≤ 2) ∧ k < L.length ∧ Hid (PS l cn x y L k (sqTo dy (-1)) P) ∧ Hid (Own wr w.heap.size wr.heap.size 50 18 A' P.length c' (bcs P)) ∧ Hid (wr.ownsRow w.heap.size 92 2 (.slice (some ⟨q, 0, none⟩) L.length ct) L.length (pvl L)) ∧ Hid (Below w.heap.size w wr)) (fun _ _ d _ => (2 - intOf d).toNat)
      case atStart => exact ⟨-1, L, P, A', c', q, ct, rfl, rfl, rfl, by omega, hkl, Lib.hid (HP.out.weak fun a b h _ => (sqTo_none a b h).elim), HO, HT, HB⟩
      case round =>
        clear HP HO HT HB hLC hk hkl hkI hk0
        obtain ⟨dy, L, P, A', c', q, ct, rfl, rfl, rfl, hdy, hkl, HP, HO, HT, HB⟩ := hrel
        by_cases hdy2 : dy ≤ 1
        · go_wp2
          obtain ⟨wo, rfl⟩ : ∃ wo : World, wo = wr := ⟨_, rfl⟩
          go_loopw [9, 10, 13] (fun o t d wr => ∃ (dx : Int) (L : List (List Int)) (P : List Bl) (A' : Option Addr) (c' q ct : Nat), o = .slice A' P.length c' ∧ t = .slice (some ⟨q, 0, none⟩) L.length ct ∧ d = .int .i64 dx ∧ (-1 ≤ dx ∧ dx ≤ 2) ∧ k < L.length ∧ Hid (PS l cn x y L k (sqTo dy dx) P) ∧ Hid (Own wr w.heap.size wr.heap.size 50 18 A' P.length c' (bcs P)) ∧ Hid (wr.ownsRow w.heap.size 92 2 (.slice (some ⟨q, 0, none⟩) L.length ct) L.length (pvl L)) ∧ Hid (Below w.heap.size w wr)) (fun _ _ d _ => (2 - intOf d).toNat)
          case atStart => exact ⟨-1, L, P, A', c', q, ct, rfl, rfl, rfl, by omega, hkl, HP, HO, HT, HB⟩
          case round =>
            clear HP HO HT HB hkl
            obtain ⟨dx, L, P, A', c', q, ct, rfl, rfl, rfl, hdx, hkl, HP, HO, HT, HB⟩ := hrel
            by_cases hdx2 : dx ≤ 1
            · have hkI : (k : Int) < L.length := by omega
              have hk0 : (0 : Int) ≤ k := by omega
              have hrows : Rows_ 2 L := fun f hf => HP.out.part.two f hf
              have hhas := HP.out.part.sound _ (List.getElem_mem hkl)
              obtain ⟨⟨pb1, pb2⟩, ⟨pb3, pb4⟩⟩ := cellB_in (HV.out.cells hhas.has)
              have hLC : L.length ≤ (specC l).length := HP.out.part.length (fun u v h => (spec_mem HV.out.pic.apart HV.out.pic.bls [u, v]).2 ⟨rfl, h⟩)
              have hPf := HP.out.few
              have HSAME := Lib.hid (fun h => (HP.out.same (du := dx) (dv := dy) hkl h).weak fun a b h2 _ => sqTo_succ dy dx a b h2)
              have HADDP := Lib.hid (fun P' h h2 => (HP.out.add (P' := P') (du := dx) (dv := dy) hkl h h2).weak fun a b h2 _ => sqTo_succ dy dx a b h2)
              obtain ⟨px, py, hpe⟩ : ∃ px py, L[k] = [px, py] := ⟨_, _, two_of (hrows.at_ hkl)⟩
              have e0 : (pvl L)[k * 2 + 0]? = some (.int .i64 px) := by
                rw [pvl, List.getElem?_map, flat_get hrows hkl (by omega)]
                simp [hpe]
              have e1 : (pvl L)[k * 2 + 1]? = some (.int .i64 py) := by
                rw [pvl, List.getElem?_map, flat_get hrows hkl (by omega)]
                simp [hpe]
              rw [Nat.add_zero] at e0
              have q0 : wr.cell? ⟨q, k * 2, none⟩ = some (.int .i64 px) := by
                have h := HT.out.cells rfl _ _ e0
                simp [Addr.add] at h
                split at h
                · rename_i e
                  rw [e]
                  exact h
                · exact h
              have q1 : wr.cell? ⟨q, k * 2 + 1, none⟩ = some (.int .i64 py) := by
                have h : wr.cell? ⟨q, 0 + (k * 2 + 1), none⟩ = some (.int .i64 py) := HT.out.cells rfl _ _ e1
                rwa [Nat.zero_add] at h
              rw [hpe] at HSAME HADDP pb1 pb2 pb3 pb4
              simp only [List.getD_cons_zero, List.getD_cons_succ] at HSAME HADDP pb1 pb2 pb3 pb4
              have HH1 : Hid (∀ W, Rd W W.heap.size 18 A n (bcs l) → Calls Tryd.prog 22 #[.slice A n c, .int .i64 (px + dx), .int .i64 (py + dy)] W fun e w' => e = .returned (.bool (hasB l (px + dx) (py + dy))) ∧ Below W.heap.size W w') := Lib.hid fun W h => by
                have := l07Holds_any A n c l HL.out HROW.out HV.out.pic.m16 (px + dx) (py + dy) W HN.out h
                rwa [HV.out.holds] at this
              have HBS := Lib.hid (fun W => l07Beside_any dx dy (by omega) (by omega) cn W)
              have HR1 : Hid (∀ W, Below w.heap.size w W → Rd W W.heap.size 18 A n (bcs l)) := Lib.hid fun W hb => (HR.out.below hb (Nat.le_refl _)).more hb.size
              have BR : Hid (Below wr.heap.size wr wr) := Lib.hid (Below.refl _ _)
              have hd1 := hdx.1
              have hd3 := hdy.1
              clear e0 e1 hpe hrows hhas
              cases ha : adjB cn dx dy
              · have HS2 := Lib.hid (HSAME.out (by rw [ha]; rfl))
                rw [ha] at HBS
                clear ha HSAME HADDP HH1 HR1
                go_wp2_with (first
                  | (go_at_call 61; refine (HBS.out _).mono ?_; rintro e w2 ⟨rfl, rfl⟩))
                exact ⟨⟨dx + 1, L, P, A', c', q, ct, rfl, rfl, by go_num, by omega, hkl, HS2, HO, HT, HB⟩, by simp [intOf]; omega⟩
              · rw [ha] at HBS
                cases hb1 : hasB l (px + dx) (py + dy)
                · have HS2 := Lib.hid (HSAME.out (by rw [ha, hb1]; rfl))
                  rw [hb1] at HH1
                  clear ha hb1 HSAME HADDP
                  go_wp2_with (first
                    | (go_at_call 61; refine (HBS.out _).mono ?_; rintro e w2 ⟨rfl, rfl⟩)
                    | (go_at_call 22; refine (HH1.out _ (HR1.out _ HB.out)).mono ?_; rintro e w5 ⟨rfl, b5⟩; have BR := Lib.hid b5; clear b5))
                  exact ⟨⟨dx + 1, L, P, A', c', q, ct, rfl, rfl, by go_num, by omega, hkl, HS2, Lib.hid ((HO.out.below BR.out (Nat.le_refl _)).more BR.out.size), Lib.hid (own_below HT.out BR.out (Nat.le_refl _)), Lib.hid (HB.out.trans (BR.out.mono HB.out.size))⟩, by simp [intOf]; omega⟩
                · have hcb := HV.out.cells hb1
                  obtain ⟨⟨ub1, ub2⟩, ⟨ub3, ub4⟩⟩ := cellB_in hcb
                  have hPn : P.length ≤ 1048576 := by omega
                  have HH2 : Hid (∀ W, Rd W W.heap.size 18 A' P.length (bcs P) → Calls Tryd.prog 22 #[.slice A' P.length c', .int .i64 (px + dx), .int .i64 (py + dy)] W fun e w' => e = .returned (.bool (hasB P (px + dx) (py + dy))) ∧ Below W.heap.size W w') := Lib.hid fun W h => by
                    have := l07Holds_any A' P.length c' P rfl HP.out.pic.bls HP.out.pic.m16 (px + dx) (py + dy) W hPn h
                    rwa [holdsB, hcb, Bool.true_and] at this
                  rw [hb1] at HH1
                  cases hb2 : hasB P (px + dx) (py + dy)
                  · have HPUT := Lib.hid (fun W (hlo : w.heap.size ≤ W.heap.size) hO => l07Put_any A' P.length c' P rfl HP.out.pic hPn (px + dx) (py + dy) ⟨ub1, ub2⟩ ⟨ub3, ub4⟩ w.heap.size W hlo hO)
                    have HADDQ := Lib.hid (fun P' h2 => HADDP.out P' (by rw [ha, hb1, hb2]; rfl) h2)
                    rw [hb2] at HH2
                    clear ha hb1 hb2 HSAME HADDP hcb HP
                    go_wp2_with (first
                      | (go_at_call 61; refine (HBS.out _).mono ?_; rintro e w2 ⟨rfl, rfl⟩)
                      | (go_at_call_of 22 (Value.slice A n c); refine (HH1.out _ (HR1.out _ HB.out)).mono ?_; rintro e w5 ⟨rfl, b5⟩; have BR := Lib.hid b5; clear b5)
                      | (go_at_call_of 22 (Value.slice A' P.length c'); refine (HH2.out _ ((HO.out.below BR.out (Nat.le_refl _)).more BR.out.size).rd).mono ?_; rintro e w6 ⟨rfl, b6⟩; have BR := Lib.hid (BR.out.trans (b6.mono BR.out.size)); clear b6)
                      | (go_at_call 23; refine (HPUT.out _ (Nat.le_trans HB.out.size BR.out.size) ((HO.out.below BR.out (Nat.le_refl _)).more BR.out.size)).mono ?_; rintro e w8 ⟨A8, c8, P8, rfl, h8, o8, b8⟩; have HP8 := Lib.hid (HADDQ.out P8 h8); have HO8 := Lib.hid o8; have B8 := Lib.hid (BR.out.trans (b8.mono BR.out.size)); clear h8 o8 b8; have HT8 := Lib.hid (own_below HT.out B8.out (Nat.le_refl _)); have HB8 := Lib.hid (HB.out.trans (B8.out.mono HB.out.size)); have HN8 := Lib.hid (pairL_news w8 (px + dx) (py + dy)))
                      | (at_builtin; refine wpList_append_own _ rfl _ _ 93 rfl w.heap.size 92 i0 _ 2 16 Tryd.underlying93 hi hz0 hz1 hzb rfl (by decide) (.slice (some ⟨q, 0, none⟩) L.length ct) L.length _ rfl (HT8.out.alloc _) ⟨w8.heap.size, 0, none⟩ 1 1 (pvl [[px + dx, py + dy]]) rfl rfl HN8.out pvl_one (by unfold maxLen; omega) (by omega) (by have := HB8.out.size; rw [size_alloc]; omega) ?_; intro v' w9 hown' hgrow _; rw [← pvl_append] at hown'; have HOWN := Lib.hid hown'; have HGR := Lib.hid hgrow; clear hown' hgrow))
                    obtain ⟨g9, c9, rfl⟩ := own_some HOWN.out (by omega)
                    have hB9 : Below w.heap.size w w9 := (HB8.out.alloc HB8.out.size _).grown HGR.out (by have := HB8.out.size; rw [size_alloc]; omega) (fun j e => (HT8.out.lt j e).1)
                    have hO9 := (own_other ((HO8.out.below ((Below.refl w8.heap.size w8).alloc (Nat.le_refl _) (.cells #[.int .i64 (px + dx), .int .i64 (py + dy)] 92)) (Nat.le_refl _)).more (show w8.heap.size ≤ (w8.alloc (.cells #[.int .i64 (px + dx), .int .i64 (py + dy)] 92)).heap.size by simp)) (HT8.out.alloc _) (by decide) HGR.out).more HGR.out.size
                    exact ⟨⟨dx + 1, _, P8, A8, c8, g9, c9, rfl, by rw [List.length_append]; rfl, by go_num, by omega, by rw [List.length_append]; omega, HP8, Lib.hid hO9, Lib.hid (by rw [List.length_append]; exact HOWN.out), Lib.hid hB9⟩, by simp [intOf]; omega⟩
                  · have HS2 := Lib.hid (HSAME.out (by rw [ha, hb1, hb2]; rfl))
                    rw [hb2] at HH2
                    clear ha hb1 hb2 HSAME HADDP hcb HP
                    go_wp2_with (first
                      | (go_at_call 61; refine (HBS.out _).mono ?_; rintro e w2 ⟨rfl, rfl⟩)
                      | (go_at_call_of 22 (Value.slice A n c); refine (HH1.out _ (HR1.out _ HB.out)).mono ?_; rintro e w5 ⟨rfl, b5⟩; have BR := Lib.hid b5; clear b5)
                      | (go_at_call_of 22 (Value.slice A' P.length c'); refine (HH2.out _ ((HO.out.below BR.out (Nat.le_refl _)).more BR.out.size).rd).mono ?_; rintro e w6 ⟨rfl, b6⟩; have BR := Lib.hid (BR.out.trans (b6.mono BR.out.size)); clear b6))
                    exact ⟨⟨dx + 1, L, P, A', c', q, ct, rfl, rfl, by go_num, by omega, hkl, HS2, Lib.hid ((HO.out.below BR.out (Nat.le_refl _)).more BR.out.size), Lib.hid (own_below HT.out BR.out (Nat.le_refl _)), Lib.hid (HB.out.trans (BR.out.mono HB.out.size))⟩, by simp [intOf]; omega⟩
            · obtain rfl : dx = 2 := by omega
              go_wp2
              exact ⟨⟨dy + 1, L, P, A', c', q, ct, rfl, rfl, by go_num, by omega, hkl, Lib.hid (HP.out.weak fun a b h _ => sqTo_line dy a b h), HO, HT, HB⟩, by simp [intOf]; omega⟩
        · obtain rfl : dy = 2 := by omega
          have hLC : L.length ≤ (specC l).length := HP.out.part.length (fun u v h => (spec_mem HV.out.pic.apart HV.out.pic.bls [u, v]).2 ⟨rfl, h⟩)
          go_wp2
          exact ⟨⟨k + 1, L, P, A', c', q, ct, rfl, rfl, by go_num, by omega, Lib.hid (HP.out.next sqTo_all), HO, HT, HB⟩, by simp [intOf]; omega⟩
    · obtain rfl : k = L.length := by omega
      go_wp2
      go_ret
      exact ⟨A', c', L, P, rfl, HP.out.part.piece (Nat.le_refl _), HP.out.pic, HP.out.has, HO.out, HB.out⟩
end Go.Proofs.YthicgmdkipgkaaaDoor
namespace Go.Proofs.YthicgmdkipgkaaaDoor
open Go.ChangeShapes Go.WideShapes Go.ChangeAt Go.RowKit
noncomputable def reachB (H : Int → Int → Bool) (cn : Bool) (x y U V : Int) : Bool := by
  classical exact decide (Reach H cn x y U V)
theorem reachB_iff {H : Int → Int → Bool} {cn : Bool} {x y U V : Int} : reachB H cn x y U V = true ↔ Reach H cn x y U V := by
  classical
  unfold reachB
  simp
theorem reachB_mem {H : Int → Int → Bool} {cn : Bool} {x y : Int} {L : List (List Int)} (h : PieceL H cn x y L) (U V : Int) : decide ([U, V] ∈ L) = reachB H cn x y U V := by
  rw [Bool.eq_iff_iff, reachB_iff, decide_eq_true_iff]
  exact h.iff U V
/-- what is told of a piece -/
noncomputable def pcL (l : List Bl) (x y : Int) (cn : Bool) : List Bl := if vpB l then (if cellB x y then (if hasB l x y then picHas (reachB (hasB l) cn x y) else []) else []) else []
def pcK (l : List Bl) (x y : Int) : Int := if vpB l then (if cellB x y then (if hasB l x y then 0 else 6) else 2) else 1
theorem pcL_bls (l : List Bl) (x y : Int) (cn : Bool) : Bls (pcL l x y cn) := by
  rw [pcL]
  split
  · split
    · split
      · exact picHas_bls _
      · exact fun b hb => by cases hb
    · exact fun b hb => by cases hb
  · exact fun b hb => by cases hb
theorem reach_few {l : List Bl} (hv : VPic l) (x y : Int) (cn : Bool) : (picHas (reachB (hasB l) cn x y)).length ≤ 64 := by
  rw [picHas]
  split
  · rename_i h2
    have hc := h2.choose_spec
    refine Nat.le_trans (pic_sub_length hc.1 hv.pic fun U V hx => ?_) hv.few
    rw [hc.2, reachB_iff] at hx
    exact hx.has
  · exact Nat.zero_le _
theorem pcL_length {l : List Bl} (hrow : Bls l) (h16 : ∀ b ∈ l, is16 b.2) (x y : Int) (cn : Bool) : (pcL l x y cn).length ≤ 64 := by
  rw [pcL]
  split
  · rename_i h
    split
    · split
      · exact reach_few (vpic_of hrow h16 h) x y cn
      · exact Nat.zero_le _
    · exact Nat.zero_le _
  · exact Nat.zero_le _
/-! ### the rest taken away -/
def subT (a b : List Bl) (ks : List (List Int)) (key : List Int) : List Int := if key ∈ ks then mixF notF a b key else maskAt a key
theorem subT_nil (a b : List Bl) (key : List Int) : maskAt a key = subT a b [] key := by rw [subT, if_neg (by simp)]
theorem subT_succ {a b lo : List Bl} {ks : List (List Int)} {k M : List Int} (h : ∀ key, maskAt lo key = subT a b ks key) (hM : M = mixF notF a b k) (key : List Int) : maskAt (putB lo k M) key = subT a b (ks ++ [k]) key := by
  rw [putB_mask, subT, h, subT]
  by_cases e : key = k
  · rw [if_pos e, if_pos (by simp [e]), hM, e]
  · rw [if_neg e]
    by_cases e2 : key ∈ ks
    · rw [if_pos e2, if_pos (List.mem_append_left _ e2)]
    · rw [if_neg e2, if_neg (fun h => by
        rcases List.mem_append.1 h with h | h
        · exact e2 h
        · exact e (List.mem_singleton.1 h))]
theorem opNot_bit {a b : List Int} (ha : a.length = 16) (hb : b.length = 16) (h1 : is16 a) (h2 : is16 b) {x y : Nat} (hx : x < 16) (hy : y < 16) : bitB (opM notF a b) x y = (bitB a x y && !bitB b x y) := by
  have e : (opM notF a b).getD y 0 = notF (a.getD y 0) (b.getD y 0) := by
    rw [opM, List.getD_eq_getElem?_getD, List.getElem?_eq_getElem (by rw [List.length_zipWith]; omega), List.getElem_zipWith]
    rw [List.getD_eq_getElem?_getD, List.getElem?_eq_getElem (by omega), List.getD_eq_getElem?_getD, List.getElem?_eq_getElem (by omega)]
    rfl
  rw [bitB_row, e, notF_bit (h1.getD y) (h2.getD y) hx, bitB_row, bitB_row]
theorem sub_has {a b lo : List Bl} {ks : List (List Int)} (ha : Tab a) (hb : Tab b) (h : ∀ key, maskAt lo key = subT a b ks key) (hk : ∀ c ∈ b, c.1 ∈ ks) (U V : Int) : hasB lo U V = (hasB a U V && !hasB b U V) := by
  rw [hasB, h, subT]
  obtain ⟨a1, a2⟩ := ha.mask [U / 16, V / 16]
  obtain ⟨b1, b2⟩ := hb.mask [U / 16, V / 16]
  by_cases e : [U / 16, V / 16] ∈ ks
  · rw [if_pos e, mixF, opNot_bit a1 b1 a2 b2 (by omega) (by omega)]
    rfl
  · have e2 : maskAt b [U / 16, V / 16] = zr16 := maskAt_no fun c hc h => e (by rw [h]; exact hk c hc)
    have e3 : hasB b U V = false := by rw [hasB, e2, zr16_bit]
    rw [if_neg e, e3, Bool.not_false, Bool.and_true]
    rfl
structure Two (w wr : World) (gb go r : Nat) (a b : List Bl) (seen : List Nat) (ks : List (List Int)) : Prop where
  two : wr.heap[gb]? = some (.map (ents b 0).toArray b.length)
  out : ∃ lo, Tab lo ∧ lo.length ≤ a.length + ks.length ∧ wr.heap[go]? = some (.map (ents lo 0).toArray lo.length) ∧ ∀ key, maskAt lo key = subT a b ks key
  iter : ItAt wr r gb b.length seen
  below : Below w.heap.size w wr
theorem Two.step {w wr w2 w7 : World} {gb go r : Nat} {a b : List Bl} {seen : List Nat} {ks : List (List Int)} {lo : List Bl} {i : Nat} (h : Two w wr gb go r a b seen ks) (h2r : gb ≠ r) (hor : go ≠ r) (h2o : gb ≠ go) (hwr : w.heap.size ≤ r) (hwo : w.heap.size ≤ go)
    (ht : Tab lo) (hlen : lo.length ≤ a.length + ks.length) (hout : wr.heap[go]? = some (.map (ents lo 0).toArray lo.length)) (hm : ∀ key, maskAt lo key = subT a b ks key)
    (hg : wr.grownBy w2 (some r)) (hit : ItAt w2 r gb b.length (seen ++ [i])) (hb : Below w2.heap.size w2 w7) {k M : List Int} (hk : k.length = 2) (hM : M.length = 16) (h16 : is16 M) (hMe : M = mixF notF a b k) :
    Two w (ChangeMaps.setBlock w7 go (.map (ents (putB lo k M) 0).toArray (putB lo k M).length)) gb go r a b (seen ++ [i]) (ks ++ [k]) := by
  have far : ∀ {g : Nat} {o : Obj}, wr.heap[g]? = some o → g ≠ r → g ≠ go → (ChangeMaps.setBlock w7 go (.map (ents (putB lo k M) 0).toArray (putB lo k M).length)).heap[g]? = some o := fun {g o} ho h1 h2 => by
    rw [setBlock_far _ _ _ _ h2]
    exact heap_below hb (heap_grown hg ho (fun e => h1 (by injection e)))
  have hgo : go < w7.heap.size := by
    have h1 := heap_lt hout
    have h2 := hg.size
    have h3 := hb.size
    omega
  refine ⟨far h.two h2r h2o, ⟨putB lo k M, ht.put hk hM h16, ?_, setBlock_at _ _ _ hgo, subT_succ hm hMe⟩, ?_, ?_⟩
  · have := putB_length k M lo
    rw [List.length_append, List.length_singleton]
    omega
  · refine hit.keep ?_
    rw [setBlock_far _ _ _ _ hor.symm]
    exact hb.block r hit.lt
  · have hb2 : Below w.heap.size w w2 := h.below.grown hg h.below.size (fun j e => by cases e; exact hwr)
    exact below_setBlock (hb2.trans (hb.mono hb2.size)) hwo _
theorem Two.start {w W : World} {gb go : Nat} {a b : List Bl} (ha : Tab a) (h2 : W.heap[gb]? = some (.map (ents b 0).toArray b.length)) (ho : W.heap[go]? = some (.map (ents a 0).toArray a.length)) (hb : Below w.heap.size w W) :
    Two w (W.alloc (.mapIter (some gb) b.length #[] b.length)) gb go W.heap.size a b [] [] := by
  have k : ∀ {g : Nat} {o : Obj}, W.heap[g]? = some o → (W.alloc (.mapIter (some gb) b.length #[] b.length)).heap[g]? = some o := fun {g o} h => (Below.heap_alloc W _ g (heap_lt h)).trans h
  exact ⟨k h2, ⟨a, ha, Nat.le_refl _, k ho, subT_nil a b⟩, ItAt.start (heap_alloc_new W _), hb.alloc hb.size _⟩
/-- below a block that is older than what has changed nothing has -/
theorem Fr.below {B g B' : Nat} {w w' : World} (h : Fr B g w w') (hB : B' ≤ B) (hg : B' ≤ g) : Below B' w w' := ⟨h.os, h.tape, h.output, h.size, fun k hk => h.block k (by omega) (by omega)⟩
/-- at the end the piece is left -/
theorem piece_left {l lo' lo : List Bl} {ks : List (List Int)} {cn : Bool} {x y : Int} {L : List (List Int)} (hv : VPic l) (ht : Tab lo') (hp : PieceL (hasB l) cn x y L) (hr : ∀ U V, hasB lo' U V = (hasB l U V && !decide ([U, V] ∈ L))) (hlo : Tab lo) (hm : ∀ key, maskAt lo key = subT l lo' ks key) (hk : ∀ c ∈ lo', c.1 ∈ ks) :
    picR (picOf (maskAt lo)) = picHas (reachB (hasB l) cn x y) ∧ picK (picOf (maskAt lo)) = 0 := by
  have hh : ∀ U V, hasB lo U V = reachB (hasB l) cn x y U V := fun U V => by
    rw [sub_has (Tab.of_pic hv.pic) ht hm hk, hr, reachB_mem hp]
    cases hx : hasB l U V
    · rw [Bool.false_and]
      rw [Bool.eq_iff_iff, reachB_iff]
      exact ⟨fun h => (by cases h), fun h => (by have := h.has; rw [hx] at this; cases this)⟩
    · cases reachB (hasB l) cn x y U V <;> rfl
  obtain ⟨m, hm1, hm2⟩ := sorted_exists (solid lo)
  obtain ⟨hm3, hm4⟩ := pic_sorted hlo hm1 hm2
  have hmh : ∀ U V, hasB m U V = reachB (hasB l) cn x y U V := fun U V => by
    rw [← hh, hasB, hasB, hm4]
  have hpo : picOf (maskAt lo) = picHas (reachB (hasB l) cn x y) := by
    rw [picHas_eq hm3 hmh]
    exact picOf_has hm3 hmh hlo.bls hlo.m16 hh
  have hfew := reach_few hv x y cn
  rw [hpo, picR, picK, if_pos hfew, if_pos hfew]
  exact ⟨rfl, rfl⟩
theorem PieceL.len {H : Int → Int → Bool} {cn : Bool} {x y : Int} {L C : List (List Int)} (h : PieceL H cn x y L) (hC : ∀ u v, H u v = true → [u, v] ∈ C) : L.length ≤ C.length :=
  List.Nodup.length_le_of_subset h.nodup fun c hc => by
    have h2 := h.two c hc
    have hc2 : [c.getD 0 0, c.getD 1 0] ∈ L := by rw [← two_of h2]; exact hc
    rw [two_of h2]
    exact hC _ _ ((h.iff _ _).1 hc2).has
theorem keysL_fresh {l : List Bl} (ha : Apart l) {seen : List Nat} (hs : ∀ i ∈ seen, i < l.length) {i : Nat} (hi : i < l.length) (hn : i ∉ seen) : (l[i]).1 ∉ keysL l seen := fun h => by
  obtain ⟨b, hb, he⟩ := List.mem_map.1 h
  obtain ⟨j, hj, rfl⟩ := List.mem_map.1 hb
  have hjl := hs j hj
  have e : l.getD j ([], []) = l[j] := by rw [List.getD_eq_getElem?_getD, List.getElem?_eq_getElem hjl]; rfl
  rw [e] at he
  have hne : j ≠ i := fun e => hn (e ▸ hj)
  rcases Nat.lt_or_gt_of_ne hne with h | h
  · exact List.pairwise_iff_getElem.1 ha j i hjl hi h he
  · exact List.pairwise_iff_getElem.1 ha i j hi hjl h he.symm
end Go.Proofs.YthicgmdkipgkaaaDoor
namespace Go.Proofs.YthicgmdkipgkaaaDoor
open Go.ChangeShapes Go.WideShapes Go.ChangeAt Go.RowKit
/-- what is told of all pieces -/
noncomputable def psL (l : List Bl) (cn : Bool) : List Int := if vpB l then sizesTo (hasB l) cn (specC l) (specC l).length else []
def psK (l : List Bl) : Int := if vpB l then 0 else 1
theorem psL_length {l : List Bl} (hrow : Bls l) (h16 : ∀ b ∈ l, is16 b.2) (cn : Bool) : (psL l cn).length ≤ 16384 := by
  rw [psL]
  split
  · rename_i h
    have h1 := sizes_length (hasB l) cn (specC l) (specC l).length
    have h2 := (vpic_of hrow h16 h).count
    omega
  · exact Nat.zero_le _
def GivesToldI (L : List Int) (k : Int) (w : World) (e : Ending) (w' : World) : Prop :=
  ∃ A c, e = .returned (.tuple #[.slice A L.length c, .int .i64 k]) ∧ Own w' w.heap.size w'.heap.size 2 1 A L.length c (L.map (.int .i64)) ∧ Below w.heap.size w w'
theorem GivesToldI.nil {w w' : World} {k : Int} (hb : Below w.heap.size w w') : GivesToldI [] k w (.returned (.tuple #[.slice none 0 0, .int .i64 k])) w' := ⟨none, 0, rfl, ⟨rfl, .inl ⟨rfl, rfl, rfl⟩⟩, hb⟩
theorem GivesToldI.lit {w w1 : World} {k : Int} (hb : Below w.heap.size w w1) : GivesToldI [] k w (.returned (.tuple #[.slice (some ⟨w1.heap.size, 0, none⟩) 0 0, .int .i64 k])) (w1.alloc (.cells #[] 2)) := by
  have h0 := World.ownsRow_lit (e := 2) (base := w.heap.size) (size := 1) w1 #[] 0 hb.size (by unfold maxLen; omega) rfl
  obtain ⟨A, c, he, ho⟩ := Own.of_row h0
  cases he
  exact ⟨_, _, rfl, ho, hb.alloc hb.size _⟩
/-- a picture within a picture whose cells are cells -/
theorem VPic.sub {P l : List Bl} (hP : Pic P) (hl : VPic l) (h : ∀ U V, hasB P U V = true → hasB l U V = true) : VPic P := by
  have hc : ∀ b ∈ P, ∀ x y : Nat, x < 16 → y < 16 → bitB b.2 x y = true → cellB (16 * b.1.getD 0 0 + x) (16 * b.1.getD 1 0 + y) = true := fun b hb x y hx hy hbit => by
    refine hl.cells (h _ _ ?_)
    rw [has_of_mem hP.apart hb (hP.bls b hb).1 hx hy, hbit]
  refine ⟨hP, fun b hb => ?_, fun b hb => ?_, Nat.le_trans (pic_sub_length hP hl.pic h) hl.few⟩
  · obtain ⟨x, y, hx, hy, hbit⟩ := some_bit (hP.bls b hb).2 (hP.m16 b hb) (hP.noVoid b hb)
    have := cellB_in (hc b hb x y hx hy hbit)
    refine ⟨?_, ?_⟩ <;> omega
  · rw [okCells, List.all_eq_true]
    intro f hf
    have h1 : f ∈ P.flatMap bCells := List.mem_flatMap.2 ⟨b, hb, hf⟩
    rw [← (specC_perm _ P (Nat.le_refl _)).mem_iff, spec_mem hP.apart hP.bls] at h1
    exact hl.cells (h _ _ h1.2)
theorem opOr_bit {a b : List Int} (ha : a.length = 16) (hb : b.length = 16) (h1 : is16 a) (h2 : is16 b) {x y : Nat} (_hx : x < 16) (hy : y < 16) : bitB (opM orF a b) x y = (bitB a x y || bitB b x y) := by
  have e : (opM orF a b).getD y 0 = orF (a.getD y 0) (b.getD y 0) := by
    rw [opM, List.getD_eq_getElem?_getD, List.getElem?_eq_getElem (by rw [List.length_zipWith]; omega), List.getElem_zipWith]
    rw [List.getD_eq_getElem?_getD, List.getElem?_eq_getElem (by omega), List.getD_eq_getElem?_getD, List.getElem?_eq_getElem (by omega)]
    rfl
  rw [bitB_row, e, orF_bit (h1.getD y) (h2.getD y) x, bitB_row, bitB_row]
theorem join_has {a b L : List Bl} (ha : Pic a) (hb : Pic b) (h : JoinTo a b b.length L) (U V : Int) : hasB L U V = (hasB a U V || hasB b U V) := by
  obtain ⟨a1, a2⟩ := maskAt_ok ha.bls ha.m16 [U / 16, V / 16]
  obtain ⟨b1, b2⟩ := maskAt_ok hb.bls hb.m16 [U / 16, V / 16]
  rw [hasB, h.2.2, List.take_length, opOr_bit a1 b1 a2 b2 (by omega) (by omega)]
  rfl
/-- what the reference has seen -/
structure SeenS (l : List Bl) (cn : Bool) (k : Nat) (S : List Bl) : Prop where
  pic : Pic S
  iff : ∀ U V, hasB S U V = true ↔ Old (hasB l) cn ((specC l).take k) U V
theorem seen_zero (l : List Bl) (cn : Bool) : SeenS l cn 0 [] := ⟨Pic.nil, fun U V => by
  rw [has_nil]
  exact ⟨fun h => (by cases h), fun h => absurd h (old_zero _ _ _ _ _)⟩⟩
section
variable {l : List Bl} {cn : Bool} {k : Nat} {S : List Bl}
theorem SeenS.few (h : SeenS l cn k S) (hl : Pic l) : S.length ≤ l.length := pic_sub_length h.pic hl fun U V hx => by
  obtain ⟨c, _, hr⟩ := (h.iff U V).1 hx
  exact hr.has
theorem SeenS.same (h : SeenS l cn k S) (hk : k < (specC l).length) {x y : Int} (he : (specC l)[k] = [x, y]) (hh : hasB S x y = true) : SeenS l cn (k + 1) S ∧ sizesTo (hasB l) cn (specC l) (k + 1) = sizesTo (hasB l) cn (specC l) k := by
  have ho := (h.iff x y).1 hh
  have ho' : Old (hasB l) cn ((specC l).take k) (((specC l)[k]).getD 0 0) (((specC l)[k]).getD 1 0) := by rw [he]; exact ho
  exact ⟨⟨h.pic, fun U V => (h.iff U V).trans (old_same hk ho' U V).symm⟩, sizes_old hk ho'⟩
theorem SeenS.new (h : SeenS l cn k S) (hk : k < (specC l).length) {x y : Int} (he : (specC l)[k] = [x, y]) (hh : hasB S x y = false) {L : List (List Int)} (hL : PieceL (hasB l) cn x y L) {P S' : List Bl} (hP : Pic P) (hm : ∀ U V, hasB P U V = decide ([U, V] ∈ L)) (hj : JoinTo S P P.length S') : SeenS l cn (k + 1) S' ∧ sizesTo (hasB l) cn (specC l) (k + 1) = sizesTo (hasB l) cn (specC l) k ++ [(L.length : Int)] := by
  have hn : ¬ Old (hasB l) cn ((specC l).take k) x y := fun ho => by
    rw [(h.iff x y).2 ho] at hh
    cases hh
  have e0 : ((specC l)[k]).getD 0 0 = x := by rw [he]; rfl
  have e1 : ((specC l)[k]).getD 1 0 = y := by rw [he]; rfl
  refine ⟨⟨hj.1, fun U V => ?_⟩, sizes_new hk (by rw [e0, e1]; exact hn) (by rw [e0, e1]; exact hL)⟩
  rw [join_has h.pic hP hj, Bool.or_eq_true, h.iff, hm, decide_eq_true_iff, hL.iff, old_succ hk, e0, e1]
/-- the cells of the picture of a piece are as many -/
theorem piece_count {H : Int → Int → Bool} {x y : Int} {L : List (List Int)} (hL : PieceL H cn x y L) {P : List Bl} (hP : Pic P) (hm : ∀ U V, hasB P U V = decide ([U, V] ∈ L)) : (specC P).length = L.length := by
  refine List.Perm.length_eq ((List.perm_ext_iff_of_nodup (spec_nodup hP.rising) hL.nodup).2 fun c => ?_)
  rw [spec_mem hP.apart hP.bls, hm, decide_eq_true_iff]
  constructor
  · rintro ⟨h1, h2⟩
    rw [two_of h1]
    exact h2
  · intro h1
    refine ⟨hL.two c h1, ?_⟩
    rw [← two_of (hL.two c h1)]
    exact h1
end
end Go.Proofs.YthicgmdkipgkaaaDoor
namespace Go.Proofs.YthicgmdkipgkaaaDoor
open Go.ChangeShapes Go.WideShapes Go.ChangeAt Go.RowKit

theorem Byte_info : (Tryd.prog.info? 5).map (fun i => (i.zero, i.size, i.bytes)) = some (some (.int .u8 0), 1, 1) := by kernel_rfl

def mkByte (x : Int) : Int := x % 256
theorem Int64_info : (Tryd.prog.info? 2).map (fun i => (i.zero, i.size, i.bytes)) = some (some (.int .i64 0), 1, 8) := by kernel_rfl

set_option maxHeartbeats 400000 in
theorem eqInt64S_same (A A' : Option Addr) (n c c' : Nat) (xs : List Int) (hn : n ≤ 100000000) (w : World) (hR : Rd w w.heap.size 1 A n (xs.map (.int .i64))) (hR' : Rd w w.heap.size 1 A' n (xs.map (.int .i64))) :
    Calls Tryd.prog 17 #[.slice A n c, .slice A' n c'] w fun e w' => e = .returned (.bool true) ∧ Below w.heap.size w w' := by
  have hl : xs.length = n := by have := hR.1; simpa using this
  go_enter Tryd.func17, Tryd.ntmps17
  go_wp2
  go_loopw [5] (fun i wr => ∃ k : Nat, k ≤ n ∧ i = .int .i64 k ∧ Below w.heap.size w wr) (fun i _ => n - (intOf i).toNat)
  case atStart => exact ⟨0, by omega, rfl, Below.refl _ _⟩
  case round =>
    obtain ⟨k, hk, rfl, hb⟩ := hrel
    by_cases hlt : k < n
    · obtain ⟨b, o, rfl, hbB, hc⟩ := (hR.below hb (Nat.le_refl _)).at_ (by omega)
      obtain ⟨b', o', rfl, hbB', hc'⟩ := (hR'.below hb (Nat.le_refl _)).at_ (by omega)
      have c1 := hc k (.int .i64 (xs[k]'(by omega))) (by rw [List.getElem?_map, List.getElem?_eq_getElem (by omega)]; rfl)
      have c2 := hc' k (.int .i64 (xs[k]'(by omega))) (by rw [List.getElem?_map, List.getElem?_eq_getElem (by omega)]; rfl)
      have hi0 : (0 : Int) ≤ (k : Int) := Int.natCast_nonneg _
      have hi1 : (k : Int) < (n : Int) := by omega
      clear hc hR hbB hc' hR' hbB'
      go_wp2
      go_quiet (fail)
      go_wp2
      exact ⟨⟨k + 1, by omega, by go_num, below_drewN hb _⟩, by simp [intOf]; omega⟩
    · have : k = n := by omega
      subst this
      go_wp2
      go_ret
      exact ⟨rfl, hb⟩

def mkInt64 (x : Int) : Int := x
set_option maxHeartbeats 400000 in
theorem markInt64S_any (lo hi : Nat) (A : Option Addr) (n c : Nat) (xs : List Value) (k : Int) (h0 : 0 ≤ k) (h1 : k ≤ 4611686018427387904) (hn : n ≤ 100000000) (w : World) (hO : Own w lo hi 2 1 A n c xs) :
    Calls Tryd.prog 18 #[.slice A n c, .int .i64 k] w fun e w' => e = .returned (.int .i64 (k + (n : Nat))) ∧ Own w' lo hi 2 1 A n c (marks .i64 mkInt64 k n) ∧ w.grownBy w' (A.map (·.block)) := by
  by_cases hz : n = 0
  · subst hz
    have hx : xs = [] := List.eq_nil_of_length_eq_zero (by have := hO.1; omega)
    subst hx
    go_enter Tryd.func18, Tryd.ntmps18
    go_wp2_with fail
    go_loopw [1, 5] (fun q i wr => q = .int .i64 k ∧ i = .int .i64 0 ∧ wr = w) (fun _ _ _ => 0)
    case atStart => exact ⟨rfl, rfl, rfl⟩
    case round =>
      obtain ⟨rfl, rfl, rfl⟩ := hrel
      go_wp2
      go_ret
      exact ⟨ret_int (by simp), hO, World.grownBy.refl _ _⟩
  · obtain ⟨g, cur, rfl, hg1, hg2, hb, hnc, hcm, hcs, hxs⟩ := hO.at_ (by omega)
    have hm : Marked w g 2 (c * 1) .i64 mkInt64 k 0 := Marked.start hb (by omega)
    clear hb hcs hxs hO
    go_enter Tryd.func18, Tryd.ntmps18
    go_wp2_with fail
    go_loopw [1, 5] (fun q i wr => ∃ j : Nat, j ≤ n ∧ q = .int .i64 (k + (j : Nat)) ∧ i = .int .i64 j ∧ Marked wr g 2 (c * 1) .i64 mkInt64 k j ∧ w.grownBy wr (some g)) (fun _ i _ => n - (intOf i).toNat)
    case atStart => exact ⟨0, by omega, by simp, rfl, hm, World.grownBy.refl _ _⟩
    case round =>
      clear hm
      obtain ⟨j, hj, rfl, rfl, hm, hg⟩ := hrel
      by_cases hlt : j < n
      · obtain ⟨⟨u, c1⟩, f1⟩ := hm.cell (i := j) (by omega)
        have hs := hm.step (by omega)
        have HS := Lib.hid hs
        clear hs hm
        go_wp2
        exact ⟨⟨j + 1, by omega, by congr 1; omega, by go_num, HS.out, only_setCell hg rfl _⟩, by simp [intOf]; omega⟩
      · have : j = n := by omega
        subst this
        go_wp2
        go_ret
        have h5 : Marked wr g 2 (c * 1) .i64 mkInt64 k (j * 1) := by rw [Nat.mul_one j]; exact hm
        have h6 := Marked.own (n := j) (c := c) (size := 1) h5 hg1 hg2 hnc hcm
        rw [Nat.mul_one] at h6
        exact ⟨rfl, h6, hg⟩

set_option maxHeartbeats 400000 in
theorem heldInt64S_any (A : Option Addr) (n c : Nat) (k : Int) (h0 : 0 ≤ k) (h1 : k ≤ 4611686018427387904) (hn : n ≤ 100000000) (w : World) (hR : Rd w w.heap.size 1 A n (marks .i64 mkInt64 k n)) :
    Calls Tryd.prog 19 #[.slice A n c, .int .i64 k] w fun e w' => e = .returned (.int .i64 (k + (n : Nat))) ∧ w = w' := by
  go_enter Tryd.func19, Tryd.ntmps19
  go_wp2_with fail
  go_loop [1, 5] (fun q i => ∃ j : Nat, j ≤ n ∧ q = .int .i64 (k + (j : Nat)) ∧ i = .int .i64 j) (fun _ i => n - (intOf i).toNat)
  case atStart => exact ⟨0, by omega, by simp, rfl⟩
  case round =>
    obtain ⟨j, hj, rfl, rfl⟩ := hrel
    by_cases hlt : j < n
    · obtain ⟨b, o, rfl, hbB, hc⟩ := hR.at_ (by omega)
      have c1 := hc j _ (marks_at hlt)
      unfold mkInt64 at c1
      clear hc hR hbB
      go_wp2
      exact ⟨⟨j + 1, by omega, by congr 1; omega, by go_num⟩, by simp [intOf]; omega⟩
    · have : j = n := by omega
      subst this
      go_wp2
      go_ret
      exact ⟨rfl, rfl⟩
end Go.Proofs.YthicgmdkipgkaaaDoor
