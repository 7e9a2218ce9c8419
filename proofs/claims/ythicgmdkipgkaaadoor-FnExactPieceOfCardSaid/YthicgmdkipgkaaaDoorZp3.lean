/- Lr, Qa, Qb, Qc in one text. -/
import Derived.Test.YthicgmdkipgkaaaDoorRows
import Derived.Test.YthicgmdkipgkaaaDoorZp2
import Derived.Test.YthicgmdkipgkaaaDoorZp1
import Derived.Test.YthicgmdkipgkaaaDoorCo
import Derived.Test.YthicgmdkipgkaaaDoorCz
import Derived.StillTailTactics
namespace Go.Proofs.YthicgmdkipgkaaaDoor
open Go.ChangeShapes Go.WideShapes Go.ChangeAt Go.RowKit
def pvl (l : List (List Int)) : List Value := l.flatten.map (Value.int .i64)
/-- what lies in a row of another type stays, whatever is appended -/
theorem own_other {w w' : World} {lo hi base : Nat} {e e2 : TypeId} {size s2 n n2 c c2 q : Nat} {A : Option Addr} {xs ys : List Value} (h : Own w lo hi e size A n c xs) (h2 : w.ownsRow base e2 s2 (.slice (some ⟨q, 0, none⟩) n2 c2) n2 ys) (he : e ≠ e2) (hg : w.grownBy w' (some q)) : Own w' lo hi e size A n c xs := by
  refine ⟨h.1, ?_⟩
  rcases h.2 with h1 | ⟨g, cur, k1, k2, k3, k4, k5⟩
  · exact .inl h1
  · refine .inr ⟨g, cur, k1, k2, k3, k4.grown hg fun e3 => ?_, k5⟩
    injection e3 with e3
    subst e3
    rcases h2.2 with ⟨h3, _⟩ | ⟨g2, _, cur2, h3, _, h4, _⟩
    · cases h3
    · cases h3
      unfold Blk at k4
      rw [k4] at h4
      injection h4 with h4
      injection h4 with _ h4
      exact he h4
theorem pvl_one {l : List (List Int)} : ∀ v ∈ pvl l, v.oneCell' = true := fun v hv => by
  simp only [pvl, List.mem_map] at hv
  obtain ⟨s, _, rfl⟩ := hv
  rfl
theorem PairL_info : (Tryd.prog.info? 92).map (fun i => (i.zero, i.size, i.bytes)) = some (some (.agg #[.int .i64 0, .int .i64 0]), 2, 16) := by kernel_rfl
theorem pvl_append (a b : List (List Int)) : pvl (a ++ b) = pvl a ++ pvl b := by rw [pvl, pvl, pvl, List.flatten_append, List.map_append]
theorem pairL_news (W : World) (x y : Int) : ∀ j u, (pvl [[x, y]])[j]? = some u → (W.alloc (.cells #[.int .i64 x, .int .i64 y] 92)).cell? ((⟨W.heap.size, 0, none⟩ : Addr).add j) = some u :=
  Blk.news (k := .i64) (l := [x, y]) (t := 92) (Blk.newAt rfl rfl)
set_option maxRecDepth 20000 in
set_option maxHeartbeats 6400000 in
theorem l07Piece_any (A : Option Addr) (n c : Nat) (l : List Bl) (hl : l.length = n) (hrow : Bls l) (hv : VPic l) (x y : Int) (hh : hasB l x y = true) (cn : Bool) (w : World) (hR : Rd w w.heap.size 18 A n (bcs l)) :
    Calls Tryd.prog 34 #[.slice A n c, .int .i64 x, .int .i64 y, .bool cn] w fun e w' => ∃ A' c' L P, e = .returned (.slice A' P.length c') ∧ PieceL (hasB l) cn x y L ∧ Pic P ∧ (∀ U V, hasB P U V = decide ([U, V] ∈ L)) ∧ Own w' w.heap.size w'.heap.size 50 18 A' P.length c' (bcs P) ∧ Below w.heap.size w w' := by
  obtain ⟨⟨x1, x2⟩, ⟨y1, y2⟩⟩ := cellB_in (hv.cells hh)
  have hok : ∀ f ∈ [[x, y]], okC f = true := fun f hf => by
    rw [List.mem_singleton] at hf
    subst hf
    exact hv.cells hh
  have HPI := Lib.hid (fun W (hr : Rd W W.heap.size 2 (some ⟨w.heap.size, 0, none⟩) 1 (pvs [[x, y]])) => l07Picture_any (some ⟨w.heap.size, 0, none⟩) 1 1 [[x, y]] rfl (fun f hf => by rw [List.mem_singleton] at hf; subst hf; rfl) hok (by omega) W hr)
  have HV := Lib.hid hv
  have HR := Lib.hid hR
  have HH := Lib.hid hh
  have HL := Lib.hid hl
  have HROW := Lib.hid hrow
  have hn64 : n ≤ 1048576 := by have := hv.few; omega
  have HN := Lib.hid hn64
  obtain ⟨i0, hi, hz0, hz1, hzb⟩ := info_parts PairL_info
  clear hok hv hR hh hrow hl hn64
  go_enter Tryd.func34, Tryd.ntmps34
  go_wp2_with (first
    | (go_at_call 60; refine (HPI.out _ (Rd.blk (cs := ivs .i32 [x, y]) (t := 42) (Blk.newAt rfl rfl) 0 1 2 (by rw [ivs_size]; exact Nat.le_refl _))).mono ?_; rintro e w1 ⟨A1, c1, P, rfl, hsp, ho, hb⟩))
  have z1 := hb.size
  rw [size_alloc] at z1
  have HS := Lib.hid (ps_one (cn := cn) HH.out hsp)
  have HO := Lib.hid (ho.less (lo' := w.heap.size) (by simp))
  have HB : Hid (Below w.heap.size w w1) := Lib.hid (((Below.refl _ _).alloc (Nat.le_refl _) _).trans (hb.mono (by simp)))
  clear hsp ho hb HPI
  have hrow0 : Hid ((w1.alloc (.cells #[.int .i64 x, .int .i64 y] 92)).ownsRow w.heap.size 92 2 (.slice (some ⟨w1.heap.size, 0, none⟩) 1 1) 1 (pvl [[x, y]])) := Lib.hid (by
    have := World.ownsRow_lit (e := 92) (base := w.heap.size) (size := 2) w1 #[.int .i64 x, .int .i64 y] 1 (by omega) (by unfold maxLen; omega) rfl
    exact this)
  have HO1 := Lib.hid ((HO.out.below ((Below.refl w1.heap.size w1).alloc (Nat.le_refl _) (.cells #[.int .i64 x, .int .i64 y] 92)) (Nat.le_refl _)).more (show w1.heap.size ≤ (w1.alloc (.cells #[.int .i64 x, .int .i64 y] 92)).heap.size by simp))
  have HB1 := Lib.hid (HB.out.alloc HB.out.size (.cells #[.int .i64 x, .int .i64 y] 92))
  have hhx := HH.out
  clear HO HB
  go_loopw [9, 10, 11] (fun o t i wr => ∃ (k : Nat) (L : List (List Int)) (P : List Bl) (A' : Option Addr) (c' q ct : Nat), o = .slice A' P.length c' ∧ t = .slice (some ⟨q, 0, none⟩) L.length ct ∧ i = .int .i64 k ∧ k ≤ L.length ∧ Hid (PS l cn x y L k (fun _ _ => False) P) ∧ Hid (Own wr w.heap.size wr.heap.size 50 18 A' P.length c' (bcs P)) ∧ Hid (wr.ownsRow w.heap.size 92 2 (.slice (some ⟨q, 0, none⟩) L.length ct) L.length (pvl L)) ∧ Hid (Below w.heap.size w wr)) (fun _ _ i _ => (specC l).length - (intOf i).toNat)
  case atStart => exact ⟨0, [[x, y]], P, A1, c1, w1.heap.size, 1, rfl, rfl, rfl, Nat.zero_le _, HS, HO1, hrow0, HB1⟩
  case round =>
    clear HS HO1 hrow0 HB1 z1
    obtain ⟨k, L, P, A', c', q, ct, rfl, rfl, rfl, hk, HP, HO, HT, HB⟩ := hrel
    have hLC : L.length ≤ (specC l).length := HP.out.part.length (fun u v h => (spec_mem HV.out.pic.apart HV.out.pic.bls [u, v]).2 ⟨rfl, h⟩)
    have hcnt := HV.out.count
    by_cases hkl : k < L.length
    · have hkI : (k : Int) < L.length := by omega
      have hk0 : (0 : Int) ≤ k := by omega
      go_wp2
      go_loopw [9, 10, 12] (fun o t d wr => ∃ (dy : Int) (L : List (List Int)) (P : List Bl) (A' : Option Addr) (c' q ct : Nat), o = .slice A' P.length c' ∧ t = .slice (some ⟨q, 0, none⟩) L.length ct ∧ d = .int .i64 dy ∧ (-1 ≤ dy ∧ dy ≤ 2) ∧ k < L.length ∧ Hid (PS l cn x y L k (sqTo dy (-1)) P) ∧ Hid (Own wr w.heap.size wr.heap.size 50 18 A' P.length c' (bcs P)) ∧ Hid (wr.ownsRow w.heap.size 92 2 (.slice (some ⟨q, 0, none⟩) L.length ct) L.length (pvl L)) ∧ Hid (Below w.heap.size w wr)) (fun _ _ d _ => (2 - intOf d).toNat)
      case atStart => exact ⟨-1, L, P, A', c', q, ct, rfl, rfl, rfl, by omega, hkl, Lib.hid (HP.out.weak fun a b h _ => (sqTo_none a b h).elim), HO, HT, HB⟩
      case round =>
        clear HP HO HT HB hLC hk hkl hkI hk0
        obtain ⟨dy, L, P, A', c', q, ct, rfl, rfl, rfl, hdy, hkl, HP, HO, HT, HB⟩ := hrel
        by_cases hdy2 : dy ≤ 1
        · go_wp2
          obtain ⟨wo, rfl⟩ : ∃ wo : World, wo = wr := ⟨_, rfl⟩
          go_loopw [9, 10, 13] (fun o t d wr => ∃ (dx : Int) (L : List (List Int)) (P : List Bl) (A' : Option Addr) (c' q ct : Nat), o = .slice A' P.length c' ∧ t = .slice (some ⟨q, 0, none⟩) L.length ct ∧ d = .int .i64 dx ∧ (-1 ≤ dx ∧ dx ≤ 2) ∧ k < L.length ∧ Hid (PS l cn x y L k (sqTo dy dx) P) ∧ Hid (Own wr w.heap.size wr.heap.size 50 18 A' P.length c' (bcs P)) ∧ Hid (wr.ownsRow w.heap.size 92 2 (.slice (some ⟨q, 0, none⟩) L.length ct) L.length (pvl L)) ∧ Hid (Below w.heap.size w wr)) (fun _ _ d _ => (2 - intOf d).toNat)
          case atStart => exact ⟨-1, L, P, A', c', q, ct, rfl, rfl, rfl, by omega, hkl, HP, HO, HT, HB⟩
          case round =>
            clear HP HO HT HB hkl
            obtain ⟨dx, L, P, A', c', q, ct, rfl, rfl, rfl, hdx, hkl, HP, HO, HT, HB⟩ := hrel
            by_cases hdx2 : dx ≤ 1
            · have hkI : (k : Int) < L.length := by omega
              have hk0 : (0 : Int) ≤ k := by omega
              have hrows : Rows_ 2 L := fun f hf => HP.out.part.two f hf
              have hhas := HP.out.part.sound _ (List.getElem_mem hkl)
              obtain ⟨⟨pb1, pb2⟩, ⟨pb3, pb4⟩⟩ := cellB_in (HV.out.cells hhas.has)
              have hLC : L.length ≤ (specC l).length := HP.out.part.length (fun u v h => (spec_mem HV.out.pic.apart HV.out.pic.bls [u, v]).2 ⟨rfl, h⟩)
              have hPf := HP.out.few
              have HSAME := Lib.hid (fun h => (HP.out.same (du := dx) (dv := dy) hkl h).weak fun a b h2 _ => sqTo_succ dy dx a b h2)
              have HADDP := Lib.hid (fun P' h h2 => (HP.out.add (P' := P') (du := dx) (dv := dy) hkl h h2).weak fun a b h2 _ => sqTo_succ dy dx a b h2)
              obtain ⟨px, py, hpe⟩ : ∃ px py, L[k] = [px, py] := ⟨_, _, two_of (hrows.at_ hkl)⟩
              have e0 : (pvl L)[k * 2 + 0]? = some (.int .i64 px) := by
                rw [pvl, List.getElem?_map, flat_get hrows hkl (by omega)]
                simp [hpe]
              have e1 : (pvl L)[k * 2 + 1]? = some (.int .i64 py) := by
                rw [pvl, List.getElem?_map, flat_get hrows hkl (by omega)]
                simp [hpe]
              rw [Nat.add_zero] at e0
              have q0 : wr.cell? ⟨q, k * 2, none⟩ = some (.int .i64 px) := by
                have h := HT.out.cells rfl _ _ e0
                simp [Addr.add] at h
                split at h
                · rename_i e
                  rw [e]
                  exact h
                · exact h
              have q1 : wr.cell? ⟨q, k * 2 + 1, none⟩ = some (.int .i64 py) := by
                have h : wr.cell? ⟨q, 0 + (k * 2 + 1), none⟩ = some (.int .i64 py) := HT.out.cells rfl _ _ e1
                rwa [Nat.zero_add] at h
              rw [hpe] at HSAME HADDP pb1 pb2 pb3 pb4
              simp only [List.getD_cons_zero, List.getD_cons_succ] at HSAME HADDP pb1 pb2 pb3 pb4
              have HH1 : Hid (∀ W, Rd W W.heap.size 18 A n (bcs l) → Calls Tryd.prog 22 #[.slice A n c, .int .i64 (px + dx), .int .i64 (py + dy)] W fun e w' => e = .returned (.bool (hasB l (px + dx) (py + dy))) ∧ Below W.heap.size W w') := Lib.hid fun W h => by
                have := l07Holds_any A n c l HL.out HROW.out HV.out.pic.m16 (px + dx) (py + dy) W HN.out h
                rwa [HV.out.holds] at this
              have HBS := Lib.hid (fun W => l07Beside_any dx dy (by omega) (by omega) cn W)
              have HR1 : Hid (∀ W, Below w.heap.size w W → Rd W W.heap.size 18 A n (bcs l)) := Lib.hid fun W hb => (HR.out.below hb (Nat.le_refl _)).more hb.size
              have BR : Hid (Below wr.heap.size wr wr) := Lib.hid (Below.refl _ _)
              have hd1 := hdx.1
              have hd3 := hdy.1
              clear e0 e1 hpe hrows hhas
              cases ha : adjB cn dx dy
              · have HS2 := Lib.hid (HSAME.out (by rw [ha]; rfl))
                rw [ha] at HBS
                clear ha HSAME HADDP HH1 HR1
                go_wp2_with (first
                  | (go_at_call 61; refine (HBS.out _).mono ?_; rintro e w2 ⟨rfl, rfl⟩))
                exact ⟨⟨dx + 1, L, P, A', c', q, ct, rfl, rfl, by go_num, by omega, hkl, HS2, HO, HT, HB⟩, by simp [intOf]; omega⟩
              · rw [ha] at HBS
                cases hb1 : hasB l (px + dx) (py + dy)
                · have HS2 := Lib.hid (HSAME.out (by rw [ha, hb1]; rfl))
                  rw [hb1] at HH1
                  clear ha hb1 HSAME HADDP
                  go_wp2_with (first
                    | (go_at_call 61; refine (HBS.out _).mono ?_; rintro e w2 ⟨rfl, rfl⟩)
                    | (go_at_call 22; refine (HH1.out _ (HR1.out _ HB.out)).mono ?_; rintro e w5 ⟨rfl, b5⟩; have BR := Lib.hid b5; clear b5))
                  exact ⟨⟨dx + 1, L, P, A', c', q, ct, rfl, rfl, by go_num, by omega, hkl, HS2, Lib.hid ((HO.out.below BR.out (Nat.le_refl _)).more BR.out.size), Lib.hid (own_below HT.out BR.out (Nat.le_refl _)), Lib.hid (HB.out.trans (BR.out.mono HB.out.size))⟩, by simp [intOf]; omega⟩
                · have hcb := HV.out.cells hb1
                  obtain ⟨⟨ub1, ub2⟩, ⟨ub3, ub4⟩⟩ := cellB_in hcb
                  have hPn : P.length ≤ 1048576 := by omega
                  have HH2 : Hid (∀ W, Rd W W.heap.size 18 A' P.length (bcs P) → Calls Tryd.prog 22 #[.slice A' P.length c', .int .i64 (px + dx), .int .i64 (py + dy)] W fun e w' => e = .returned (.bool (hasB P (px + dx) (py + dy))) ∧ Below W.heap.size W w') := Lib.hid fun W h => by
                    have := l07Holds_any A' P.length c' P rfl HP.out.pic.bls HP.out.pic.m16 (px + dx) (py + dy) W hPn h
                    rwa [holdsB, hcb, Bool.true_and] at this
                  rw [hb1] at HH1
                  cases hb2 : hasB P (px + dx) (py + dy)
                  · have HPUT := Lib.hid (fun W (hlo : w.heap.size ≤ W.heap.size) hO => l07Put_any A' P.length c' P rfl HP.out.pic hPn (px + dx) (py + dy) ⟨ub1, ub2⟩ ⟨ub3, ub4⟩ w.heap.size W hlo hO)
                    have HADDQ := Lib.hid (fun P' h2 => HADDP.out P' (by rw [ha, hb1, hb2]; rfl) h2)
                    rw [hb2] at HH2
                    clear ha hb1 hb2 HSAME HADDP hcb HP
                    go_wp2_with (first
                      | (go_at_call 61; refine (HBS.out _).mono ?_; rintro e w2 ⟨rfl, rfl⟩)
                      | (go_at_call_of 22 (Value.slice A n c); refine (HH1.out _ (HR1.out _ HB.out)).mono ?_; rintro e w5 ⟨rfl, b5⟩; have BR := Lib.hid b5; clear b5)
                      | (go_at_call_of 22 (Value.slice A' P.length c'); refine (HH2.out _ ((HO.out.below BR.out (Nat.le_refl _)).more BR.out.size).rd).mono ?_; rintro e w6 ⟨rfl, b6⟩; have BR := Lib.hid (BR.out.trans (b6.mono BR.out.size)); clear b6)
                      | (go_at_call 23; refine (HPUT.out _ (Nat.le_trans HB.out.size BR.out.size) ((HO.out.below BR.out (Nat.le_refl _)).more BR.out.size)).mono ?_; rintro e w8 ⟨A8, c8, P8, rfl, h8, o8, b8⟩; have HP8 := Lib.hid (HADDQ.out P8 h8); have HO8 := Lib.hid o8; have B8 := Lib.hid (BR.out.trans (b8.mono BR.out.size)); clear h8 o8 b8; have HT8 := Lib.hid (own_below HT.out B8.out (Nat.le_refl _)); have HB8 := Lib.hid (HB.out.trans (B8.out.mono HB.out.size)); have HN8 := Lib.hid (pairL_news w8 (px + dx) (py + dy)))
                      | (at_builtin; refine wpList_append_own _ rfl _ _ 93 rfl w.heap.size 92 i0 _ 2 16 Tryd.underlying93 hi hz0 hz1 hzb rfl (by decide) (.slice (some ⟨q, 0, none⟩) L.length ct) L.length _ rfl (HT8.out.alloc _) ⟨w8.heap.size, 0, none⟩ 1 1 (pvl [[px + dx, py + dy]]) rfl rfl HN8.out pvl_one (by unfold maxLen; omega) (by omega) (by have := HB8.out.size; rw [size_alloc]; omega) ?_; intro v' w9 hown' hgrow _; rw [← pvl_append] at hown'; have HOWN := Lib.hid hown'; have HGR := Lib.hid hgrow; clear hown' hgrow))
                    obtain ⟨g9, c9, rfl⟩ := own_some HOWN.out (by omega)
                    have hB9 : Below w.heap.size w w9 := (HB8.out.alloc HB8.out.size _).grown HGR.out (by have := HB8.out.size; rw [size_alloc]; omega) (fun j e => (HT8.out.lt j e).1)
                    have hO9 := (own_other ((HO8.out.below ((Below.refl w8.heap.size w8).alloc (Nat.le_refl _) (.cells #[.int .i64 (px + dx), .int .i64 (py + dy)] 92)) (Nat.le_refl _)).more (show w8.heap.size ≤ (w8.alloc (.cells #[.int .i64 (px + dx), .int .i64 (py + dy)] 92)).heap.size by simp)) (HT8.out.alloc _) (by decide) HGR.out).more HGR.out.size
                    exact ⟨⟨dx + 1, _, P8, A8, c8, g9, c9, rfl, by rw [List.length_append]; rfl, by go_num, by omega, by rw [List.length_append]; omega, HP8, Lib.hid hO9, Lib.hid (by rw [List.length_append]; exact HOWN.out), Lib.hid hB9⟩, by simp [intOf]; omega⟩
                  · have HS2 := Lib.hid (HSAME.out (by rw [ha, hb1, hb2]; rfl))
                    rw [hb2] at HH2
                    clear ha hb1 hb2 HSAME HADDP hcb HP
                    go_wp2_with (first
                      | (go_at_call 61; refine (HBS.out _).mono ?_; rintro e w2 ⟨rfl, rfl⟩)
                      | (go_at_call_of 22 (Value.slice A n c); refine (HH1.out _ (HR1.out _ HB.out)).mono ?_; rintro e w5 ⟨rfl, b5⟩; have BR := Lib.hid b5; clear b5)
                      | (go_at_call_of 22 (Value.slice A' P.length c'); refine (HH2.out _ ((HO.out.below BR.out (Nat.le_refl _)).more BR.out.size).rd).mono ?_; rintro e w6 ⟨rfl, b6⟩; have BR := Lib.hid (BR.out.trans (b6.mono BR.out.size)); clear b6))
                    exact ⟨⟨dx + 1, L, P, A', c', q, ct, rfl, rfl, by go_num, by omega, hkl, HS2, Lib.hid ((HO.out.below BR.out (Nat.le_refl _)).more BR.out.size), Lib.hid (own_below HT.out BR.out (Nat.le_refl _)), Lib.hid (HB.out.trans (BR.out.mono HB.out.size))⟩, by simp [intOf]; omega⟩
            · obtain rfl : dx = 2 := by omega
              go_wp2
              exact ⟨⟨dy + 1, L, P, A', c', q, ct, rfl, rfl, by go_num, by omega, hkl, Lib.hid (HP.out.weak fun a b h _ => sqTo_line dy a b h), HO, HT, HB⟩, by simp [intOf]; omega⟩
        · obtain rfl : dy = 2 := by omega
          have hLC : L.length ≤ (specC l).length := HP.out.part.length (fun u v h => (spec_mem HV.out.pic.apart HV.out.pic.bls [u, v]).2 ⟨rfl, h⟩)
          go_wp2
          exact ⟨⟨k + 1, L, P, A', c', q, ct, rfl, rfl, by go_num, by omega, Lib.hid (HP.out.next sqTo_all), HO, HT, HB⟩, by simp [intOf]; omega⟩
    · obtain rfl : k = L.length := by omega
      go_wp2
      go_ret
      exact ⟨A', c', L, P, rfl, HP.out.part.piece (Nat.le_refl _), HP.out.pic, HP.out.has, HO.out, HB.out⟩
end Go.Proofs.YthicgmdkipgkaaaDoor
namespace Go.Proofs.YthicgmdkipgkaaaDoor
open Go.ChangeShapes Go.WideShapes Go.ChangeAt Go.RowKit
noncomputable def reachB (H : Int → Int → Bool) (cn : Bool) (x y U V : Int) : Bool := by
  classical exact decide (Reach H cn x y U V)
theorem reachB_iff {H : Int → Int → Bool} {cn : Bool} {x y U V : Int} : reachB H cn x y U V = true ↔ Reach H cn x y U V := by
  classical
  unfold reachB
  simp
theorem reachB_mem {H : Int → Int → Bool} {cn : Bool} {x y : Int} {L : List (List Int)} (h : PieceL H cn x y L) (U V : Int) : decide ([U, V] ∈ L) = reachB H cn x y U V := by
  rw [Bool.eq_iff_iff, reachB_iff, decide_eq_true_iff]
  exact h.iff U V
/-- what is told of a piece -/
noncomputable def pcL (l : List Bl) (x y : Int) (cn : Bool) : List Bl := if vpB l then (if cellB x y then (if hasB l x y then picHas (reachB (hasB l) cn x y) else []) else []) else []
def pcK (l : List Bl) (x y : Int) : Int := if vpB l then (if cellB x y then (if hasB l x y then 0 else 6) else 2) else 1
theorem pcL_bls (l : List Bl) (x y : Int) (cn : Bool) : Bls (pcL l x y cn) := by
  rw [pcL]
  split
  · split
    · split
      · exact picHas_bls _
      · exact fun b hb => by cases hb
    · exact fun b hb => by cases hb
  · exact fun b hb => by cases hb
theorem reach_few {l : List Bl} (hv : VPic l) (x y : Int) (cn : Bool) : (picHas (reachB (hasB l) cn x y)).length ≤ 64 := by
  rw [picHas]
  split
  · rename_i h2
    have hc := h2.choose_spec
    refine Nat.le_trans (pic_sub_length hc.1 hv.pic fun U V hx => ?_) hv.few
    rw [hc.2, reachB_iff] at hx
    exact hx.has
  · exact Nat.zero_le _
theorem pcL_length {l : List Bl} (hrow : Bls l) (h16 : ∀ b ∈ l, is16 b.2) (x y : Int) (cn : Bool) : (pcL l x y cn).length ≤ 64 := by
  rw [pcL]
  split
  · rename_i h
    split
    · split
      · exact reach_few (vpic_of hrow h16 h) x y cn
      · exact Nat.zero_le _
    · exact Nat.zero_le _
  · exact Nat.zero_le _
/-! ### the rest taken away -/
def subT (a b : List Bl) (ks : List (List Int)) (key : List Int) : List Int := if key ∈ ks then mixF notF a b key else maskAt a key
theorem subT_nil (a b : List Bl) (key : List Int) : maskAt a key = subT a b [] key := by rw [subT, if_neg (by simp)]
theorem subT_succ {a b lo : List Bl} {ks : List (List Int)} {k M : List Int} (h : ∀ key, maskAt lo key = subT a b ks key) (hM : M = mixF notF a b k) (key : List Int) : maskAt (putB lo k M) key = subT a b (ks ++ [k]) key := by
  rw [putB_mask, subT, h, subT]
  by_cases e : key = k
  · rw [if_pos e, if_pos (by simp [e]), hM, e]
  · rw [if_neg e]
    by_cases e2 : key ∈ ks
    · rw [if_pos e2, if_pos (List.mem_append_left _ e2)]
    · rw [if_neg e2, if_neg (fun h => by
        rcases List.mem_append.1 h with h | h
        · exact e2 h
        · exact e (List.mem_singleton.1 h))]
theorem opNot_bit {a b : List Int} (ha : a.length = 16) (hb : b.length = 16) (h1 : is16 a) (h2 : is16 b) {x y : Nat} (hx : x < 16) (hy : y < 16) : bitB (opM notF a b) x y = (bitB a x y && !bitB b x y) := by
  have e : (opM notF a b).getD y 0 = notF (a.getD y 0) (b.getD y 0) := by
    rw [opM, List.getD_eq_getElem?_getD, List.getElem?_eq_getElem (by rw [List.length_zipWith]; omega), List.getElem_zipWith]
    rw [List.getD_eq_getElem?_getD, List.getElem?_eq_getElem (by omega), List.getD_eq_getElem?_getD, List.getElem?_eq_getElem (by omega)]
    rfl
  rw [bitB_row, e, notF_bit (h1.getD y) (h2.getD y) hx, bitB_row, bitB_row]
theorem sub_has {a b lo : List Bl} {ks : List (List Int)} (ha : Tab a) (hb : Tab b) (h : ∀ key, maskAt lo key = subT a b ks key) (hk : ∀ c ∈ b, c.1 ∈ ks) (U V : Int) : hasB lo U V = (hasB a U V && !hasB b U V) := by
  rw [hasB, h, subT]
  obtain ⟨a1, a2⟩ := ha.mask [U / 16, V / 16]
  obtain ⟨b1, b2⟩ := hb.mask [U / 16, V / 16]
  by_cases e : [U / 16, V / 16] ∈ ks
  · rw [if_pos e, mixF, opNot_bit a1 b1 a2 b2 (by omega) (by omega)]
    rfl
  · have e2 : maskAt b [U / 16, V / 16] = zr16 := maskAt_no fun c hc h => e (by rw [h]; exact hk c hc)
    have e3 : hasB b U V = false := by rw [hasB, e2, zr16_bit]
    rw [if_neg e, e3, Bool.not_false, Bool.and_true]
    rfl
structure Two (w wr : World) (gb go r : Nat) (a b : List Bl) (seen : List Nat) (ks : List (List Int)) : Prop where
  two : wr.heap[gb]? = some (.map (ents b 0).toArray b.length)
  out : ∃ lo, Tab lo ∧ lo.length ≤ a.length + ks.length ∧ wr.heap[go]? = some (.map (ents lo 0).toArray lo.length) ∧ ∀ key, maskAt lo key = subT a b ks key
  iter : ItAt wr r gb b.length seen
  below : Below w.heap.size w wr
theorem Two.step {w wr w2 w7 : World} {gb go r : Nat} {a b : List Bl} {seen : List Nat} {ks : List (List Int)} {lo : List Bl} {i : Nat} (h : Two w wr gb go r a b seen ks) (h2r : gb ≠ r) (hor : go ≠ r) (h2o : gb ≠ go) (hwr : w.heap.size ≤ r) (hwo : w.heap.size ≤ go)
    (ht : Tab lo) (hlen : lo.length ≤ a.length + ks.length) (hout : wr.heap[go]? = some (.map (ents lo 0).toArray lo.length)) (hm : ∀ key, maskAt lo key = subT a b ks key)
    (hg : wr.grownBy w2 (some r)) (hit : ItAt w2 r gb b.length (seen ++ [i])) (hb : Below w2.heap.size w2 w7) {k M : List Int} (hk : k.length = 2) (hM : M.length = 16) (h16 : is16 M) (hMe : M = mixF notF a b k) :
    Two w (ChangeMaps.setBlock w7 go (.map (ents (putB lo k M) 0).toArray (putB lo k M).length)) gb go r a b (seen ++ [i]) (ks ++ [k]) := by
  have far : ∀ {g : Nat} {o : Obj}, wr.heap[g]? = some o → g ≠ r → g ≠ go → (ChangeMaps.setBlock w7 go (.map (ents (putB lo k M) 0).toArray (putB lo k M).length)).heap[g]? = some o := fun {g o} ho h1 h2 => by
    rw [setBlock_far _ _ _ _ h2]
    exact heap_below hb (heap_grown hg ho (fun e => h1 (by injection e)))
  have hgo : go < w7.heap.size := by
    have h1 := heap_lt hout
    have h2 := hg.size
    have h3 := hb.size
    omega
  refine ⟨far h.two h2r h2o, ⟨putB lo k M, ht.put hk hM h16, ?_, setBlock_at _ _ _ hgo, subT_succ hm hMe⟩, ?_, ?_⟩
  · have := putB_length k M lo
    rw [List.length_append, List.length_singleton]
    omega
  · refine hit.keep ?_
    rw [setBlock_far _ _ _ _ hor.symm]
    exact hb.block r hit.lt
  · have hb2 : Below w.heap.size w w2 := h.below.grown hg h.below.size (fun j e => by cases e; exact hwr)
    exact below_setBlock (hb2.trans (hb.mono hb2.size)) hwo _
theorem Two.start {w W : World} {gb go : Nat} {a b : List Bl} (ha : Tab a) (h2 : W.heap[gb]? = some (.map (ents b 0).toArray b.length)) (ho : W.heap[go]? = some (.map (ents a 0).toArray a.length)) (hb : Below w.heap.size w W) :
    Two w (W.alloc (.mapIter (some gb) b.length #[] b.length)) gb go W.heap.size a b [] [] := by
  have k : ∀ {g : Nat} {o : Obj}, W.heap[g]? = some o → (W.alloc (.mapIter (some gb) b.length #[] b.length)).heap[g]? = some o := fun {g o} h => (Below.heap_alloc W _ g (heap_lt h)).trans h
  exact ⟨k h2, ⟨a, ha, Nat.le_refl _, k ho, subT_nil a b⟩, ItAt.start (heap_alloc_new W _), hb.alloc hb.size _⟩
/-- below a block that is older than what has changed nothing has -/
theorem Fr.below {B g B' : Nat} {w w' : World} (h : Fr B g w w') (hB : B' ≤ B) (hg : B' ≤ g) : Below B' w w' := ⟨h.os, h.tape, h.output, h.size, fun k hk => h.block k (by omega) (by omega)⟩
/-- at the end the piece is left -/
theorem piece_left {l lo' lo : List Bl} {ks : List (List Int)} {cn : Bool} {x y : Int} {L : List (List Int)} (hv : VPic l) (ht : Tab lo') (hp : PieceL (hasB l) cn x y L) (hr : ∀ U V, hasB lo' U V = (hasB l U V && !decide ([U, V] ∈ L))) (hlo : Tab lo) (hm : ∀ key, maskAt lo key = subT l lo' ks key) (hk : ∀ c ∈ lo', c.1 ∈ ks) :
    picR (picOf (maskAt lo)) = picHas (reachB (hasB l) cn x y) ∧ picK (picOf (maskAt lo)) = 0 := by
  have hh : ∀ U V, hasB lo U V = reachB (hasB l) cn x y U V := fun U V => by
    rw [sub_has (Tab.of_pic hv.pic) ht hm hk, hr, reachB_mem hp]
    cases hx : hasB l U V
    · rw [Bool.false_and]
      rw [Bool.eq_iff_iff, reachB_iff]
      exact ⟨fun h => (by cases h), fun h => (by have := h.has; rw [hx] at this; cases this)⟩
    · cases reachB (hasB l) cn x y U V <;> rfl
  obtain ⟨m, hm1, hm2⟩ := sorted_exists (solid lo)
  obtain ⟨hm3, hm4⟩ := pic_sorted hlo hm1 hm2
  have hmh : ∀ U V, hasB m U V = reachB (hasB l) cn x y U V := fun U V => by
    rw [← hh, hasB, hasB, hm4]
  have hpo : picOf (maskAt lo) = picHas (reachB (hasB l) cn x y) := by
    rw [picHas_eq hm3 hmh]
    exact picOf_has hm3 hmh hlo.bls hlo.m16 hh
  have hfew := reach_few hv x y cn
  rw [hpo, picR, picK, if_pos hfew, if_pos hfew]
  exact ⟨rfl, rfl⟩
theorem PieceL.len {H : Int → Int → Bool} {cn : Bool} {x y : Int} {L C : List (List Int)} (h : PieceL H cn x y L) (hC : ∀ u v, H u v = true → [u, v] ∈ C) : L.length ≤ C.length :=
  List.Nodup.length_le_of_subset h.nodup fun c hc => by
    have h2 := h.two c hc
    have hc2 : [c.getD 0 0, c.getD 1 0] ∈ L := by rw [← two_of h2]; exact hc
    rw [two_of h2]
    exact hC _ _ ((h.iff _ _).1 hc2).has
theorem keysL_fresh {l : List Bl} (ha : Apart l) {seen : List Nat} (hs : ∀ i ∈ seen, i < l.length) {i : Nat} (hi : i < l.length) (hn : i ∉ seen) : (l[i]).1 ∉ keysL l seen := fun h => by
  obtain ⟨b, hb, he⟩ := List.mem_map.1 h
  obtain ⟨j, hj, rfl⟩ := List.mem_map.1 hb
  have hjl := hs j hj
  have e : l.getD j ([], []) = l[j] := by rw [List.getD_eq_getElem?_getD, List.getElem?_eq_getElem hjl]; rfl
  rw [e] at he
  have hne : j ≠ i := fun e => hn (e ▸ hj)
  rcases Nat.lt_or_gt_of_ne hne with h | h
  · exact List.pairwise_iff_getElem.1 ha j i hjl hi h he
  · exact List.pairwise_iff_getElem.1 ha i j hi hjl h he.symm
end Go.Proofs.YthicgmdkipgkaaaDoor
namespace Go.Proofs.YthicgmdkipgkaaaDoor
open Go.ChangeShapes Go.WideShapes Go.ChangeAt Go.RowKit
set_option maxRecDepth 20000 in
theorem sPieceOf_any (A : Option Addr) (n c : Nat) (l : List Bl) (hl : l.length = n) (hrow : Bls l) (h16 : ∀ b ∈ l, is16 b.2) (h32 : ∀ b ∈ l, ∀ x ∈ b.1, -2147483648 ≤ x ∧ x ≤ 2147483647) (x y : Int) (cn : Bool) (hn : n ≤ 1048576) (w : World) (hR : Rd w w.heap.size 18 A n (bcs l)) :
    Calls Tryd.prog 13 #[.slice A n c, .int .i64 x, .int .i64 y, .bool cn] w (GivesToldB (pcL l x y cn) (pcK l x y) w) := by
  have ho := fun W h => l07Ok_any A n c l hl hrow h16 h32 hn W h
  have hc := fun W => l07Cell_any x y W
  have hh := fun W h => l07Holds_any A n c l hl hrow h16 x y W hn h
  have hv := fun h => vpic_of hrow h16 h
  rw [pcL, pcK]
  cases hok : vpB l
  · rw [hok] at ho
    clear hh hc hv hok hrow h16 h32 hl
    go_enter Tryd.func13, Tryd.ntmps13
    go_wp2_with (go_at_call 20; refine (ho _ (hR.more (by first | exact Nat.le_refl _ | omega))).mono ?_; rintro e w1 ⟨rfl, b1⟩)
    go_ret2
    exact GivesToldB.lit b1
  · rw [hok] at ho
    cases hxy : cellB x y
    · rw [hxy] at hc
      clear hh hv hok hxy hrow h16 h32 hl
      go_enter Tryd.func13, Tryd.ntmps13
      go_wp2_with (first
        | (go_at_call 20; refine (ho _ (hR.more (by first | exact Nat.le_refl _ | omega))).mono ?_; rintro e w1 ⟨rfl, b1⟩)
        | (go_at_call 33; refine (hc _).mono ?_; rintro e w1 ⟨rfl, rfl⟩))
      go_ret2
      exact GivesToldB.lit b1
    · rw [hxy] at hc
      have hV := hv hok
      rw [hV.holds] at hh
      cases hxh : hasB l x y
      · rw [hxh] at hh
        clear hv hok hxy hxh hV hrow h16 h32 hl
        go_enter Tryd.func13, Tryd.ntmps13
        go_wp2_with (first
          | (go_at_call 20; refine (ho _ (hR.more (by first | exact Nat.le_refl _ | omega))).mono ?_; rintro e w1 ⟨rfl, b1⟩)
          | (go_at_call 33; refine (hc _).mono ?_; rintro e w1 ⟨rfl, rfl⟩)
          | (go_at_call 22; refine (hh _ ((hR.below b1 (Nat.le_refl _)).more b1.size)).mono ?_; rintro e w2 ⟨rfl, b2⟩))
        go_ret2
        exact GivesToldB.lit (b1.trans (b2.mono b1.size))
      · rw [hxh] at hh
        have hp := fun W h => l07Piece_any A n c l hl hrow hV x y hxh cn W h
        have HP := Lib.hid hp
        clear hp hv hok hxy hxh hV hrow h16 h32 hl
        go_enter Tryd.func13, Tryd.ntmps13
        go_wp2_with (first
          | (go_at_call 20; refine (ho _ (hR.more (by first | exact Nat.le_refl _ | omega))).mono ?_; rintro e w1 ⟨rfl, b1⟩)
          | (go_at_call 33; refine (hc _).mono ?_; rintro e w1 ⟨rfl, rfl⟩)
          | (go_at_call 22; refine (hh _ ((hR.below b1 (Nat.le_refl _)).more b1.size)).mono ?_; rintro e w2 ⟨rfl, b2⟩; have B2 := Lib.hid (b1.trans (b2.mono b1.size)); clear b2)
          | (go_at_call 34; refine (HP.out _ ((hR.below B2.out (Nat.le_refl _)).more B2.out.size)).mono ?_; rintro e w3 ⟨A3, c3, L, P, rfl, hL, hP, hm, hO, b3⟩; have HPL := Lib.hid (picHas_eq hP (fun U V => (hm U V).trans (reachB_mem hL U V))); have HO := Lib.hid hO; have HB := Lib.hid (B2.out.trans (b3.mono B2.out.size)); have HZ := Lib.hid B2.out.size; clear hL hP hm hO b3))
        go_ret2
        rw [HPL.out]
        exact ⟨A3, c3, rfl, HO.out.less HZ.out, HB.out⟩
end Go.Proofs.YthicgmdkipgkaaaDoor
namespace Go.Proofs.YthicgmdkipgkaaaDoor
open Go.ChangeShapes Go.WideShapes Go.ChangeAt Go.RowKit
section
attribute [local go_sem ↓] exec_ldCorner exec_ldMask
attribute [local go_sem] run_ldCorner run_ldMask
set_option maxRecDepth 20000 in
set_option maxHeartbeats 6400000 in
theorem iPieceOf_any (A : Option Addr) (n c : Nat) (l : List Bl) (hl : l.length = n) (hrow : Bls l) (h16 : ∀ b ∈ l, is16 b.2) (h32 : ∀ b ∈ l, ∀ x ∈ b.1, -2147483648 ≤ x ∧ x ≤ 2147483647) (x y : Int) (cn : Bool) (hn : n ≤ 1048576) (w : World) (hst : Laid8 w) (hR : Rd w w.heap.size 18 A n (bcs l)) :
    Calls Tryd.prog 14 #[.slice A n c, .int .i64 x, .int .i64 y, .bool cn] w (GivesToldB (pcL l x y cn) (pcK l x y) w) := by
  have ho := fun W h => iValidPicture_any A n c l hl hrow h16 h32 hn W h
  have hc := fun W => isCell_any x y W
  have hv := fun h => vpic_of hrow h16 h
  have hm := fun (h : vpB l = true) W hR => masksOf_any A n c l hl hrow (apart_of_rising (rising_of_vpB h)) hn W hR
  rw [pcL, pcK]
  cases hok : vpB l
  · rw [hok] at ho
    clear hm hv hok hrow h16 h32 hl hst hc
    go_enter Tryd.func14, Tryd.ntmps14
    go_wp2_with (go_at_call 25; refine (ho _ (hR.more (by first | exact Nat.le_refl _ | omega))).mono ?_; rintro e w1 ⟨rfl, b1⟩)
    go_ret2
    exact GivesToldB.nil b1
  · rw [hok] at ho
    cases hxy : cellB x y
    · rw [hxy] at hc
      clear hm hv hok hxy hrow h16 h32 hl hst
      go_enter Tryd.func14, Tryd.ntmps14
      go_wp2_with (first
        | (go_at_call 25; refine (ho _ (hR.more (by first | exact Nat.le_refl _ | omega))).mono ?_; rintro e w1 ⟨rfl, b1⟩)
        | (go_at_call 35; refine (hc _).mono ?_; rintro e w1 ⟨rfl, rfl⟩))
      go_ret2
      exact GivesToldB.nil b1
    · rw [hxy] at hc
      obtain ⟨⟨hx2, hx3⟩, ⟨hy2, hy3⟩⟩ := cellB_in hxy
      have hV := hv hok
      have HMO := Lib.hid (hm hok)
      have HHAS := Lib.hid (fun g W h => has_any g l hrow h16 x y (by omega) (by omega) l.length W h (heap_lt h))
      cases hxh : hasB l x y
      · rw [hxh] at HHAS
        clear hm hv hok hxy hxh hV hrow h16 h32 hl hst
        go_enter Tryd.func14, Tryd.ntmps14
        go_wp2_with (first
          | (go_at_call 25; refine (ho _ (hR.more (by first | exact Nat.le_refl _ | omega))).mono ?_; rintro e w1 ⟨rfl, b1⟩)
          | (go_at_call 35; refine (hc _).mono ?_; rintro e w1 ⟨rfl, rfl⟩)
          | (go_at_call 26; refine (HMO.out _ ((hR.below b1 (Nat.le_refl _)).more b1.size)).mono ?_; rintro e w2 ⟨g1, rfl, k1, k2, k3, b2⟩; have K := Lib.hid k3; have B2 := Lib.hid (b1.trans (b2.mono b1.size)); clear b2 k1 k2 k3)
          | (go_at_call 29; refine (HHAS.out _ _ K.out).mono ?_; rintro e w3 ⟨rfl, b3⟩; have B3 := Lib.hid (B2.out.trans (b3.mono B2.out.size)); clear b3))
        go_ret2
        exact GivesToldB.nil B3.out
      · rw [hxh] at HHAS
        have HV := Lib.hid hV
        have hrc : hasB l x y = true → Reach (hasB l) cn x y x y := fun h => .start h
        have HTK := Lib.hid (fun g W hst hg0 hg => takePiece_any g l (Tab.of_pic hV.pic) (specC l) (fun u v h => (spec_mem hV.pic.apart hV.pic.bls [u, v]).2 ⟨rfl, h⟩) (by have := hV.count; omega) (fun u v h => cellB_in (hV.cells h)) x y ⟨hx2, hx3⟩ ⟨hy2, hy3⟩ cn W hst hg0 hg)
        have HO := Lib.hid ho
        have HR := Lib.hid hR
        have HST := Lib.hid hst
        clear hm hv hok hxy hxh hV hrow h16 h32 hl hst ho hR hrc
        simp only [if_true]
        go_enter Tryd.func14, Tryd.ntmps14
        go_wp2_with (first
          | (go_at_call 25; refine (HO.out _ (HR.out.more (by first | exact Nat.le_refl _ | omega))).mono ?_; rintro e w1 ⟨rfl, b1⟩; have B1 := Lib.hid b1; clear b1)
          | (go_at_call 35; refine (hc _).mono ?_; rintro e w1 ⟨rfl, rfl⟩)
          | (go_at_call 26; refine (HMO.out _ ((HR.out.below B5.out (Nat.le_refl _)).more B5.out.size)).mono ?_; rintro e w6 ⟨g6, rfl, k1, k2, k3, b6⟩; have B6 := Lib.hid (B5.out.trans (b6.mono B5.out.size)); have K6 := Lib.hid (And.intro (Nat.le_trans B5.out.size k1) k3); have M6 := Lib.hid (heap_below b6 M5.out); have D6 := Lib.hid (And.intro (heap_lt M5.out) k1); clear b6 k1 k2 k3; have T7 : Hid (Two w (w6.alloc (.mapIter (some g1) lo5.length #[] lo5.length)) g1 g6 w6.heap.size l lo5 [] []) := Lib.hid (Two.start (Tab.of_pic HV.out.pic) M6.out K6.out.2 B6.out); have hrange : (Instr.range 54 (.map (some g1))).run Tryd.prog w6 = .ok (.pointer (some ⟨w6.heap.size, 0, none⟩)) (w6.alloc (.mapIter (some g1) lo5.length #[] lo5.length)) := range_at M6.out)
          | (go_at_call 26; refine (HMO.out _ ((HR.out.below B1.out (Nat.le_refl _)).more B1.out.size)).mono ?_; rintro e w2 ⟨g1, rfl, k1, k2, k3, b2⟩; have K := Lib.hid (And.intro (Nat.le_trans B1.out.size k1) k3); have B2 := Lib.hid (B1.out.trans (b2.mono B1.out.size)); clear b2 k1 k2 k3)
          | (go_at_call 29; refine (HHAS.out _ _ K.out.2).mono ?_; rintro e w3 ⟨rfl, b3⟩; have K3 := Lib.hid (heap_below b3 K.out.2); have B3 := Lib.hid (B2.out.trans (b3.mono B2.out.size)); clear b3)
          | (go_at_call 36; refine (HTK.out _ _ (HST.out.below B3.out) (by have h1 := K.out.1; have h2 := HST.out.pos; omega) K3.out).mono ?_; rintro e w5 ⟨A5, c5, L5, lo5, rfl, t1, t2, t3, t4, f5, m5⟩; have PL := Lib.hid t1; have TL := Lib.hid t2; have FL := Lib.hid t3; have RL := Lib.hid t4; have M5 := Lib.hid m5; have B5 := Lib.hid (B3.out.trans (f5.below B3.out.size K.out.1)); clear t1 t2 t3 t4 f5 m5))
        have hd1 : g1 < w6.heap.size ∧ g6 < w6.heap.size ∧ w.heap.size ≤ w6.heap.size ∧ g1 ≠ g6 ∧ w.heap.size ≤ g6 := ⟨heap_lt M6.out, heap_lt K6.out.2, B6.out.size, by have h1 := D6.out.1; have h2 := D6.out.2; omega, K6.out.1⟩
        have HD1 := Lib.hid hd1
        have hL5 : L5.length ≤ 16384 := Nat.le_trans (PL.out.len (fun u v h => (spec_mem HV.out.pic.apart HV.out.pic.bls [u, v]).2 ⟨rfl, h⟩)) HV.out.count
        have HL5 := Lib.hid hL5
        clear hd1 hL5 HO HR HST HTK HHAS HMO M5 K3 M6 K6 D6 B1 B2 B3 B5 K
        go_loopw [12] (fun _ wr => ∃ seen : List Nat, Hid (Two w wr g1 g6 w6.heap.size l lo5 seen (keysL lo5 seen))) (fun _ wr => lo5.length - (wr.iterSeen w6.heap.size).size)
        case atStart => exact ⟨[], T7⟩
        case round =>
          clear T7 hrange
          obtain ⟨seen, HT⟩ := hrel
          rcases next_step lo5 wr 0 w6.heap.size g1 seen HT.out.two HT.out.iter with ⟨hperm, hnext⟩ | ⟨i, hil, hns, wn, hnext, hentry, hit2, hsz2, hgr2⟩
          · obtain ⟨lo, htab, hlen, hout, hmask⟩ := HT.out.out
            have hsl : seen.length = lo5.length := by rw [hperm.length_eq, List.length_range]
            have hlo : lo.length ≤ 1000000 := by
              have h1 : (keysL lo5 seen).length = lo5.length := by rw [keysL, List.length_map, seenL, List.length_map, hsl]
              have h2 := HV.out.few
              have h3 := FL.out
              have h4 := HL5.out
              omega
            have HE := Lib.hid (piece_left HV.out TL.out PL.out RL.out htab hmask (keysL_all hperm))
            have HP := Lib.hid (pictureOf_any g6 lo htab hlo wr hout (heap_lt hout))
            rw [HE.out.1, HE.out.2] at HP
            have HB := Lib.hid HT.out.below
            clear htab hlen hout hmask hsl hlo hperm HT HE
            go_wp2_with (go_at_call 31; refine HP.out.mono ?_; rintro e w9 ⟨A9, c9, rfl, o9, b9⟩; have HO9 := Lib.hid o9; have HB9 := Lib.hid (HB.out.trans (b9.mono HB.out.size)); clear o9 b9)
            go_ret2
            exact ⟨A9, c9, rfl, HO9.out.less HB.out.size, HB9.out⟩
          · have hF1 := TL.out.bls.at_ hil
            have hFa := maskAt_of_mem TL.out.apart (List.getElem_mem hil)
            have hFk := keysL_snoc lo5 seen hil
            have hseen : ∀ i ∈ seen, i < lo5.length := by
              obtain ⟨c0, _, _, _, h4⟩ := HT.out.iter
              exact h4
            have hfr := keysL_fresh TL.out.apart hseen hil hns
            have hme := TL.out.m16 _ (List.getElem_mem hil)
            obtain ⟨⟨C, Mm⟩, hF⟩ : ∃ F, F = lo5[i] := ⟨_, rfl⟩
            rw [← hF] at hF1 hFa hFk hfr hnext hentry hme
            obtain ⟨X, Y, rfl⟩ : ∃ X Y, C = [X, Y] := ⟨_, _, two_of hF1.1⟩
            have hM16 : Mm.length = 16 := hF1.2
            have hmeas : (wr.iterSeen w6.heap.size).size = seen.length ∧ seen.length < lo5.length := by
              refine ⟨HT.out.iter.seen_eq, ?_⟩
              have := hit2.bound
              rw [List.length_append] at this
              exact this
            obtain ⟨lo, htab, hlen, hout, hmask⟩ := HT.out.out
            have hgw : g6 < wn.heap.size ∧ g1 < wn.heap.size ∧ w6.heap.size < wn.heap.size := by
              have h1 := heap_lt HT.out.two
              have h3 := heap_lt hout
              have h4 := hit2.lt
              rw [hsz2]
              omega
            have hgo2 : wn.heap[g6]? = some (.map (ents lo 0).toArray lo.length) := heap_grown hgr2 hout (fun e => by injection e with e; have := HD1.out.2.1; omega)
            obtain ⟨hM2, hM216⟩ := htab.mask [X, Y]
            have hme2 : maskAt lo [X, Y] = maskAt l [X, Y] := by rw [hmask, subT, if_neg hfr]
            obtain ⟨M2, hM2e⟩ : ∃ M2, M2 = maskAt lo [X, Y] := ⟨_, rfl⟩
            rw [← hM2e] at hM2 hM216 hme2
            have hFa2 : maskAt lo5 [X, Y] = Mm := hFa
            have hmix : opM notF M2 Mm = mixF notF l lo5 [X, Y] := by rw [mixF, ← hme2, hFa2]
            have HSTEP : Hid (∀ w7 : World, Below wn.heap.size wn w7 → Two w (ChangeMaps.setBlock w7 g6 (.map (ents (putB lo [X, Y] (opM notF M2 Mm)) 0).toArray (putB lo [X, Y] (opM notF M2 Mm)).length)) g1 g6 w6.heap.size l lo5 (seen ++ [i]) (keysL lo5 (seen ++ [i]))) := Lib.hid fun w7 hb7 => by
              have hd := HD1.out
              rw [hFk]
              exact HT.out.step (by omega) (by omega) (by omega) (by omega) (by omega) htab hlen hout hmask hgr2 hit2 hb7 rfl (opM_length hM2 hM16) (opM_16 notF_way _ _) hmix
            have HOF := Lib.hid (fun W => iMinusMasks_any M2 Mm hM2 hM16 W)
            have HLK := Lib.hid (fun W h => run_lookupMask g6 lo htab.bls X Y lo.length W h)
            rw [← hM2e] at HLK
            have HPUT := Lib.hid (fun W h => run_putAny g6 lo htab.bls X Y (opM notF M2 Mm) W h)
            have HGO2 := Lib.hid hgo2
            have HM3 := Lib.hid hM16
            have HME := Lib.hid hmeas
            have HGW := Lib.hid hgw
            clear hF1 hFa hFk hF hM216 hme hM16 hM2 hmeas htab hlen hout hmask hgo2 hM2e hmix hit2 hsz2 hgr2 hns hgw hfr hseen hme2 hFa2
            generalize opM notF M2 Mm = R at *
            go_wp2_with (first
              | (refine wpList_store_row rfl _ _ _ rfl wn.heap.size (ivs .i32 [X, Y]) rfl rfl 45 #[.int .i32 0, .int .i32 0] ((Blk.newAt rfl rfl).alloc _) (by exact size45) rfl ivs_one ?_; generalize hw5 : World.setRow _ _ _ = w5; have G5 : Hid (Blk w5 wn.heap.size 45 (ivs .i32 [X, Y])) := Lib.hid (by rw [← hw5]; exact ((Blk.newAt rfl rfl).alloc _).row _); have G5m : Hid (Blk w5 (wn.heap.size + 1) 48 (ivs .u16 zr16)) := Lib.hid (by rw [← hw5]; exact (Blk.newAt (by simp) rfl).rowFar (by omega) _); have B5 : Hid (Below wn.heap.size wn w5) := Lib.hid (by rw [← hw5]; exact below_setRow (((Below.refl _ _).alloc (Nat.le_refl _) _).alloc (by simp) _) (Nat.le_refl _) _); clear hw5)
              | (refine wpList_store_row rfl _ _ _ rfl (wn.heap.size + 1) (ivs .u16 Mm) rfl rfl 48 (ivs .u16 zr16) G5m.out (by rw [ivs_size, HM3.out]; exact size48) (by rw [ivs_size, ivs_size, HM3.out]; rfl) ivs_one ?_; generalize hw6 : World.setRow _ _ _ = w7; have G6 : Hid (Blk w7 wn.heap.size 45 (ivs .i32 [X, Y])) := Lib.hid (by rw [← hw6]; exact G5.out.rowFar (by omega) _); have G6m : Hid (Blk w7 (wn.heap.size + 1) 48 (ivs .u16 Mm)) := Lib.hid (by rw [← hw6]; exact G5m.out.row _); have B7 : Hid (Below wn.heap.size wn w7) := Lib.hid (by rw [← hw6]; exact below_setRow B5.out (by omega) _); clear hw6))
            have K7 : Hid (Blk w7.drew wn.heap.size 45 (ivs .i32 [X, Y]) ∧ Blk w7.drew (wn.heap.size + 1) 48 (ivs .u16 Mm) ∧ Below wn.heap.size wn w7.drew) := Lib.hid ⟨G6.out.drew, G6m.out.drew, below_drew B7.out⟩
            obtain ⟨r1, r3⟩ : rowAt w7.drew wn.heap.size 0 2 = #[.int .i32 X, .int .i32 Y] ∧ hasRow w7.drew wn.heap.size 0 2 = true := ⟨K7.out.1.rowAt_eq rfl, K7.out.1.hasRow_eq rfl⟩
            have r2 := K7.out.2.1.rowAt_eq HM3.out
            have r4 := K7.out.2.1.hasRow_eq HM3.out
            have hlk := HLK.out w7.drew ((K7.out.2.2.block _ (heap_lt HGO2.out)).trans HGO2.out)
            have HG7 := Lib.hid ((K7.out.2.2.block _ HGW.out.1).trans HGO2.out)
            clear HLK
            go_region_law (go_simp; go_at_call 37; refine (HOF.out _).mono ?_; rintro e w8 ⟨rfl, b8⟩; have hmu := HPUT.out w8 (heap_below b8 HG7.out); have B8 := Lib.hid (K7.out.2.2.trans (b8.mono K7.out.2.2.size)); have q1 : rowAt w8 wn.heap.size 0 2 = #[.int .i32 X, .int .i32 Y] := (K7.out.1.below b8 K7.out.1.lt).rowAt_eq rfl; have q3 : hasRow w8 wn.heap.size 0 2 = true := (K7.out.1.below b8 K7.out.1.lt).hasRow_eq rfl; clear b8)
            all_goals
              go_wp2
              have h8 := HSTEP.out w8 B8.out
              refine ⟨⟨_, Lib.hid h8⟩, ?_⟩
              have h9 := h8.iter.seen_eq
              have h10 := HME.out
              rw [List.length_append, List.length_singleton] at h9
              rw [h9]
              omega
end
end Go.Proofs.YthicgmdkipgkaaaDoor
