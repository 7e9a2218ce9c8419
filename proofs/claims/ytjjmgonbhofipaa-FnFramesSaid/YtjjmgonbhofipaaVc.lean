/- The law FnFrames, walked. -/
import Derived.Test.YtjjmgonbhofipaaRows
import Derived.Test.YtjjmgonbhofipaaVa
import Derived.Test.YtjjmgonbhofipaaVb
import Derived.Test.YtjjmgonbhofipaaUf
import Derived.Test.YtjjmgonbhofipaaHc
import Derived.Test.YtjjmgonbhofipaaHa
import Derived.Test.YtjjmgonbhofipaaGa
import Derived.Test.YtjjmgonbhofipaaMn
import Derived.Test.YtjjmgonbhofipaaSp
import Derived.Test.YtjjmgonbhofipaaPq
import Derived.Test.YtjjmgonbhofipaaFrF
namespace Go.Proofs.Ytjjmgonbhofipaa
open Go.ChangeShapes Go.WideShapes Go.ChangeAt Go.RowKit

theorem GivesOpen.len {k n : Int} {d : List Int} {code : Int} {w w' : World} {e : Ending} {m : Nat} (h : GivesOpen k n d code w e w') (hm : d.length = m) :
    ∃ A c, e = .returned (.tuple #[.int .i64 k, .int .i64 n, .slice A m c, .int .i64 code]) ∧ Own w' w.heap.size w'.heap.size 5 1 A m c (d.map (.int .u8)) ∧ Below w.heap.size w w' := by
  subst hm; exact h
theorem GivesFs.len {out : List (List Int)} {code : Int} {w w' : World} {e : Ending} {m : Nat} (h : GivesFs out code w e w') (hm : out.length = m) :
    ∃ A c, e = .returned (.tuple #[.slice A m c, .int .i64 code]) ∧ Own w' w.heap.size w'.heap.size 25 16 A m c (out.flatten.map (.int .u8)) ∧ Below w.heap.size w w' := by
  subst hm; exact h
theorem GivesBytes.len {out : List Int} {code : Int} {w w' : World} {e : Ending} {m : Nat} (h : GivesBytes out code w e w') (hm : out.length = m) :
    ∃ A c, e = .returned (.tuple #[.slice A m c, .int .i64 code]) ∧ Own w' w.heap.size w'.heap.size 5 1 A m c (out.map (.int .u8)) ∧ Below w.heap.size w w' := by
  subst hm; exact h
theorem GivesFrames.parts {l : List Int} {G : List (List Int)} {r code : Int} {w w' : World} {e : Ending} (h : GivesFrames l w e w') (h1 : outOf l = G) (h2 : restOf l = r) (h3 : codeOf l = code) :
    ∃ A c, e = .returned (.tuple #[.slice A G.length c, .int .i64 r, .int .i64 code]) ∧ Own w' w.heap.size w'.heap.size 25 16 A G.length c (G.flatten.map (.int .u8)) ∧ Below w.heap.size w w' := by
  subst h1; subst h2; subst h3; exact h

section
attribute [local go_sem ↓] exec_loadFrame
attribute [local go_sem] run_ldFrame rowAt_drewN hasRow_drewN
set_option maxRecDepth 100000 in
set_option maxHeartbeats 12000000 in
theorem lawFrames_in (A : Option Addr) (n c : Nat) (l : List Int) (hl : l.length = n) (h255 : is255 l) (A2 : Option Addr) (n2 c2 : Nat) (l2 : List Int) (hl2 : l2.length = n2) (h255' : is255 l2) (hn : n ≤ 3000) (hn2 : n2 ≤ 3000)
    (w : World) (RA : Rd w w.heap.size 1 A n (l.map (.int .u8))) (RB : Rd w w.heap.size 1 A2 n2 (l2.map (.int .u8))) :
    Calls Try.prog 14 #[.slice A n c, .slice A2 n2 c2] w fun e w' => e = .returned (.bool true) ∧ Below w.heap.size w w' := by
  obtain ⟨i0, hi, hz0, hz1, hz2⟩ := info_parts Byte_info
  have hsz : (Try.prog.info? 25).map (·.size) = some 16 := by kernel_rfl
  have Hl := Lib.hid hl
  have H255 := Lib.hid h255
  have H255' := Lib.hid h255'
  have Hl2 := Lib.hid hl2
  have HRA := Lib.hid RA
  have HRB := Lib.hid RB
  clear hl h255 h255' hl2 RA RB
  go_enter Try.func14, Try.ntmps14
  go_wp2_with fail
  refine (a2Long_in A A2 n c n2 c2 hn hn2 _).mono ?_
  rintro e wx ⟨rfl, rfl⟩
  go_wp2
  go_loopw [5, 6] (fun v i wr => ∃ k g cp : Nat, k ≤ n ∧ k ≤ 100 ∧ i = .int .i64 k ∧ v = .slice (some ⟨g, 0, none⟩) k cp ∧ Own wr w.heap.size wr.heap.size 5 1 (some ⟨g, 0, none⟩) k cp ((l.take k).map (.int .u8)) ∧ Below w.heap.size w wr) (fun _ i _ => n - (intOf i).toNat)
  case atStart =>
    refine ⟨0, w.heap.size, 0, by omega, by omega, rfl, rfl, ?_, (Below.refl _ _).alloc (Nat.le_refl _) _⟩
    exact ⟨rfl, .inr ⟨w.heap.size, #[], rfl, Nat.le_refl _, by rw [size_alloc]; omega, Blk.newAt rfl rfl, Nat.le_refl _, by unfold maxLen; omega, rfl, rfl⟩⟩
  case round =>
    obtain ⟨k, g, cp, hk, hk2, rfl, rfl, hown, hb⟩ := hrel
    by_cases hlt : k < n ∧ k < 100
    · obtain ⟨hlt, hlt2⟩ := hlt
      obtain ⟨b, o, rfl, hbB, hc⟩ := (HRA.out.below hb (Nat.le_refl _)).at_ (by omega)
      have hkl : k < l.length := by rw [Hl.out]; exact hlt
      have c1 := hc k (.int .u8 (l[k]'hkl)) (by rw [List.getElem?_map, List.getElem?_eq_getElem hkl]; rfl)
      have ht : (l.take (k + 1)).map (Value.int .u8) = (l.take k).map (.int .u8) ++ [l[k]'hkl].map (.int .u8) := by
        rw [List.take_succ_eq_append_getElem hkl, List.map_append]
      obtain ⟨x, hx⟩ : ∃ x, x = l[k]'hkl := ⟨_, rfl⟩
      rw [← hx] at c1 ht
      have hblk : Blk (wr.alloc (.cells (ivs .u8 [x]) 5)) wr.heap.size 5 (ivs .u8 [x]) := Blk.newAt rfl rfl
      have Hn := Lib.hid hblk.news
      have Ht := Lib.hid ht
      have HO := Lib.hid hown.row
      have b1 : (k : Int) < (n : Int) := by omega
      have b2 : (k : Int) < 100 := by omega
      have hz := hb.size
      clear hc hbB hblk ht hown hx hkl
      go_wp2_with (at_builtin; refine wpList_append_own _ rfl (.tmp 54) (.tmp 59) 40 rfl w.heap.size 5 i0 _ 1 1 Try.underlying40 hi hz0 hz1 hz2 rfl (by decide) (.slice (some ⟨g, 0, none⟩) k cp) k _ rfl (HO.out.alloc _) ⟨wr.heap.size, 0, none⟩ 1 1 ([x].map (.int .u8)) rfl rfl Hn.out ints_one (by unfold maxLen; omega) (by omega) (by rw [size_alloc]; omega) ?_; intro v' w1 hown' hgrow _)
      obtain ⟨g2, cp2, cur2, rfl, -⟩ := own_lt hown' (by omega)
      refine ⟨⟨k + 1, g2, cp2, by omega, by omega, by go_num, rfl, ?_, (hb.alloc hb.size _).grown hgrow (by rw [size_alloc]; omega) (fun j e => (HO.out.lt _ e).1)⟩, by simp [intOf]; omega⟩
      obtain ⟨A3, c3, hA3, hO3⟩ := Own.of_row hown'
      cases hA3
      rw [Ht.out]
      exact hO3
    · have hstop : (n : Int) ≤ (k : Int) ∨ ((k : Int) < (n : Int) ∧ (100 : Int) ≤ (k : Int)) := by omega
      have hOlen := hown.len
      have hcap := hown.capLe
      have hD255 : is255 (l.take k) := fun x hx => H255.out x (List.mem_of_mem_take hx)
      have hDl : (l.take k).length = k := by rw [List.length_take, Hl.out]; omega
      obtain ⟨D, hD⟩ : ∃ D, D = l.take k := ⟨_, rfl⟩
      rw [← hD] at hown hD255 hDl
      clear hD hlt
      obtain ⟨kd0, hkd0⟩ := atOf_range l2 0 (show (1 : Int) ≤ 3 by omega)
      obtain ⟨kdv, hkdv⟩ : ∃ x, x = atOf l2 0 3 := ⟨_, rfl⟩
      obtain ⟨cn0, hcn0⟩ := atOf_range l2 1 (show (1 : Int) ≤ 257 by omega)
      obtain ⟨cnv, hcnv⟩ : ∃ x, x = atOf l2 1 257 := ⟨_, rfl⟩
      rw [← hkdv] at kd0 hkd0
      rw [← hcnv] at cn0 hcn0
      have hop := packOf_opens (kd := 1 + kdv) (cn := cnv) (d := D) ⟨by omega, by omega⟩ ⟨by omega, by omega⟩ (by omega)
      have hlen := packOf_len (kd := 1 + kdv) (cn := cnv) (d := D)
      have hrows := packOf_rows (1 + kdv) cnv D
      have hL255 := packOf_255 (kd := 1 + kdv) (cn := cnv) (d := D) ⟨by omega, by omega⟩ hD255
      have hbrk : brokenOf (packOf (1 + kdv) cnv D) = [] := by
        rw [brokenOf, if_pos (by rw [hlen, packMany]; omega)]
        exact brokenTo_nil packOf_sound _ (Nat.le_refl _)
      have hok : packOk (1 + kdv) cnv = true := by
        rw [packOk, inB, inB, decide_eq_true (show 1 ≤ 1 + kdv by omega), decide_eq_true (show 1 + kdv ≤ 3 by omega), decide_eq_true (show 0 ≤ cnv by omega), decide_eq_true (show cnv ≤ 256 by omega)]
        rfl
      have hpf : packFs (1 + kdv) cnv D = packOf (1 + kdv) cnv D := by rw [packFs, hok, decide_eq_true (show D.length ≤ 8192 by omega)]; rfl
      have hpc : packCd (1 + kdv) cnv k = 0 := by rw [packCd, if_pos hok, if_pos (show k ≤ 8192 by omega)]
      have hN : packMany D.length = 1 + (k + 11) / 12 := by rw [packMany, hDl]; omega
      rw [hN] at hlen
      have hmk := fun (W : World) (hW : Rd W W.heap.size 1 (some ⟨g, 0, none⟩) k (D.map (.int .u8))) => iPackFrames_any (1 + kdv) cnv g 0 k cp D hDl (by omega) hOlen hcap W hW
      rw [hpf, hpc] at hmk
      have hsp := fun (a t : Nat) (ha : a < (packOf (1 + kdv) cnv D).length) (ht : t < 128) => spoil_broken (kd := 1 + kdv) (cn := cnv) (d := D) ⟨by omega, by omega⟩ hD255 ha ht
      have hsnd := packOf_sound (kd := 1 + kdv) (cn := cnv) (d := D)
      obtain ⟨L, hL⟩ : ∃ L, L = packOf (1 + kdv) cnv D := ⟨_, rfl⟩
      rw [← hL] at hop hlen hrows hL255 hbrk hmk hsp hsnd
      obtain ⟨N, hNN⟩ : ∃ N, N = 1 + (k + 11) / 12 := ⟨_, rfl⟩
      rw [← hNN] at hlen
      have hN1 : 1 ≤ N := by omega
      have hN2 : N ≤ 700 := by omega
      have hNi : 1 + ((k : Int) + 11) / 12 = (N : Int) := by omega
      obtain ⟨op1, op2, op3, op4⟩ := hop
      have hup := fun (A : Option Addr) (c : Nat) (h1 : N ≤ c) (h2 : c ≤ 9223372036854775807) (W : World) (hW : Rd W W.heap.size 16 A N (L.flatten.map (.int .u8))) => iUnpackFrames_any' A N c L hlen hrows (by omega) h1 h2 hL255 W hW
      rw [op1, op2, op3, op4] at hup
      have hbf := fun (A : Option Addr) (c : Nat) (h1 : N ≤ c) (h2 : c ≤ 9223372036854775807) (W : World) (hW : Rd W W.heap.size 16 A N (L.flatten.map (.int .u8))) => iBrokenFrames_any A N c L hlen hrows (by omega) h1 h2 W hW
      rw [hbrk, show limitOf N = 0 from if_pos hN2] at hbf
      -- the place and the bit
      obtain ⟨at0, hat0⟩ := atOf_range l2 2 (show (1 : Int) ≤ (N : Int) by omega)
      obtain ⟨bt0, hbt0⟩ := atOf_range l2 3 (show (1 : Int) ≤ 128 by omega)
      obtain ⟨ct0, hct0⟩ := atOf_range l2 4 (show (1 : Int) ≤ 16 by omega)
      obtain ⟨a, ha⟩ : ∃ a : Nat, atOf l2 2 (N : Int) = (a : Int) := ⟨_, (Int.toNat_of_nonneg at0).symm⟩
      obtain ⟨t, ht⟩ : ∃ t : Nat, atOf l2 3 128 = (t : Int) := ⟨_, (Int.toNat_of_nonneg bt0).symm⟩
      obtain ⟨q, hq⟩ : ∃ q : Nat, atOf l2 4 16 = (q : Int) := ⟨_, (Int.toNat_of_nonneg ct0).symm⟩
      rw [ha] at at0 hat0
      rw [ht] at bt0 hbt0
      rw [hq] at ct0 hct0
      have haN : a < N := by omega
      have htN : t < 128 := by omega
      have hqN : q < 16 := by omega
      have hmore := fun (j : Int) (i : Nat) (hj : j = i) (m : Int) (h1 : 1 ≤ m) (h2 : m ≤ 1000000) (W : World) (hW : Rd W W.heap.size 1 A2 n2 (l2.map (.int .u8))) => a2At_any A2 n2 c2 l2 Hl2.out H255'.out j i hj m h1 h2 hn2 W hW
      have at3 := hmore 0 0 rfl 3 (by omega) (by omega)
      have at257 := hmore 1 1 rfl 257 (by omega) (by omega)
      have atN := hmore 2 2 rfl (N : Int) (by omega) (by omega)
      have at128 := hmore 3 3 rfl 128 (by omega) (by omega)
      have at16 := hmore 4 4 rfl 16 (by omega) (by omega)
      rw [← hkdv] at at3
      rw [← hcnv] at at257
      rw [ha] at atN
      rw [ht] at at128
      rw [hq] at at16
      -- the file in which one bit is changed
      obtain ⟨sp1, sp2⟩ := hsp a t (by omega) htN
      have hsl : (spoil L a t).length = N := by rw [spoil, List.length_set, hlen]
      have hsr : Rows_ 16 (spoil L a t) := spoil_rows hrows (by omega)
      have hse : spoilOf L (a : Int) (t : Int) = spoil L a t := by
        have h1 : spoilOk L (a : Int) (t : Int) = true := by
          rw [spoilOk, inB, inB, hlen, decide_eq_true (show (0 : Int) ≤ a by omega), decide_eq_true (show (a : Int) ≤ (N : Int) - 1 by omega), decide_eq_true (show (0 : Int) ≤ t by omega), decide_eq_true (show (t : Int) ≤ 127 by omega)]
          rfl
        rw [spoilOf, if_pos (by omega), if_pos h1]
        rfl
      have hsc : spoilCode L (a : Int) (t : Int) = 0 := by
        have h1 : spoilOk L (a : Int) (t : Int) = true := by
          rw [spoilOk, inB, inB, hlen, decide_eq_true (show (0 : Int) ≤ a by omega), decide_eq_true (show (a : Int) ≤ (N : Int) - 1 by omega), decide_eq_true (show (0 : Int) ≤ t by omega), decide_eq_true (show (t : Int) ≤ 127 by omega)]
          rfl
        rw [spoilCode, if_pos (by omega), if_pos h1]
      have hspf := fun (b o c : Nat) (W : World) (hW : Rd W W.heap.size 16 (some ⟨b, o, none⟩) N (L.flatten.map (.int .u8))) => iSpoilFrame_any b o N c L hlen hrows (by omega) (a : Int) (t : Int) W hW
      rw [hse, hsc] at hspf
      have hLa : ∀ h : a < L.length, L[a]'h = L.getD a [] := fun h => by rw [List.getD_eq_getElem?_getD, List.getElem?_eq_getElem h]; rfl
      have hLa255 : is255 (L.getD a []) := by rw [← hLa (by omega)]; exact hL255 _ (List.getElem_mem _)
      have hs255 : ∀ f ∈ spoil L a t, is255 f := fun f hf => by
        rcases List.mem_or_eq_of_mem_set hf with h | rfl
        · exact hL255 f h
        · intro x hx
          rcases List.mem_or_eq_of_mem_set hx with h | rfl
          · exact hLa255 x h
          · have := flipAt_range (hLa255.getD (t / 8)) t
            exact ⟨this.1, this.2.1⟩
      have hsb : brokenTo (spoil L a t) N = [(a : Int)] := by
        rw [brokenTo_one sp1 sp2 N (by omega), if_pos haN]
      have hsbo : brokenOf (spoil L a t) = [(a : Int)] := by rw [brokenOf, if_pos (by omega), hsl, hsb]
      have hso : opCode (spoil L a t) = 8 := by rw [opCode, if_pos (by omega), hsl, hsb, if_neg (by simp)]
      have hm1 := mendTo_one (l := spoil L a t) (m := L) (a := a) (by omega) sp1 sp2 (hsnd a (by omega)) (by omega) N (by omega)
      rw [if_pos haN, if_pos haN] at hm1
      obtain ⟨hm1, hm2⟩ := hm1
      have hmL : (spoil L a t).set a (L.getD a []) = L := by
        rw [spoil, List.set_set]
        exact List.ext_getElem? fun i => by
          rw [List.getElem?_set]
          split
          · rename_i h
            subst h
            rw [if_pos (by omega), List.getElem?_eq_getElem (by omega), hLa]
          · rfl
      rw [hmL] at hm1
      have hmo : mendOf (spoil L a t) L = L := by rw [mendOf, hsl, hlen, show lims N N = true from by rw [lims, decide_eq_true hN2]; rfl, if_pos rfl, hm1]
      have hmc : mendCount (spoil L a t) L = 1 := by rw [mendCount, hsl, hlen, show lims N N = true from by rw [lims, decide_eq_true hN2]; rfl, if_pos rfl, hm2]; rfl
      have hmd : mendCode (spoil L a t) L = 0 := by rw [mendCode, hsl, hlen, show lims N N = true from by rw [lims, decide_eq_true hN2]; rfl, if_pos rfl]
      subst hlen
      have hFl : (L.getD a []).length = 16 := by rw [← hLa haN]; exact hrows.at_ _
      have hEl : ((spoil L a t).getD a []).length = 16 := by
        have h1 : a < (spoil L a t).length := by omega
        rw [List.getD_eq_getElem?_getD, List.getElem?_eq_getElem h1]
        exact hsr.at_ h1
      have hia : inB (a : Int) 0 699 = true := by rw [inB, decide_eq_true (show (0 : Int) ≤ a by omega), decide_eq_true (show (a : Int) ≤ 699 by omega)]; rfl
      have hFs := hsnd a haN
      have hmF : mk (a : Int) ((L.getD a []).take 12) = L.getD a [] := by rw [soundB, beq_iff_eq] at hFs; exact hFs
      have h12 : ((L.getD a []).take 12).length = 12 := by rw [List.length_take, hFl]; rfl
      have iss := fun W => iIsSound_any ((spoil L a t).getD a []) hEl (a : Int) W
      rw [hia, sp2] at iss
      have mkf := fun W => iMakeFrame_any (a : Int) ((L.getD a []).take 12) h12 W
      rw [hia] at mkf
      simp only [if_true] at mkf
      rw [hmF] at mkf
      have pay := fun W => iPayloadOf_any (L.getD a []) hFl W
      have bof := fun (A : Option Addr) (c : Nat) (h1 : L.length ≤ c) (h2 : c ≤ 9223372036854775807) (W : World) (hW : Rd W W.heap.size 16 A L.length (L.flatten.map (.int .u8))) => (iBytesOfFrames_any A L.length c L rfl hrows (by omega) h1 h2 W hW).mono fun e w' h => h.len (show (bytesOf L).length = L.length * 16 by rw [bytesOf, if_pos hN2, flat_length hrows])
      rw [show bytesOf L = L.flatten from if_pos hN2, show limitOf L.length = 0 from if_pos hN2] at bof
      have upk := fun (A : Option Addr) (c : Nat) (h1 : L.length ≤ c) (h2 : c ≤ 9223372036854775807) (W : World) (hW : Rd W W.heap.size 16 A L.length (L.flatten.map (.int .u8))) => (hup A c h1 h2 W hW).mono fun e w' h => h.len hDl
      have spf := fun (b o c : Nat) (W : World) (hW : Rd W W.heap.size 16 (some ⟨b, o, none⟩) L.length (L.flatten.map (.int .u8))) => (hspf b o c W hW).mono fun e w' h => h.len hsl
      have bfs := fun (A : Option Addr) (c : Nat) (h1 : L.length ≤ c) (h2 : c ≤ 9223372036854775807) (W : World) (hW : Rd W W.heap.size 16 A L.length ((spoil L a t).flatten.map (.int .u8))) => iBrokenFrames_any A L.length c (spoil L a t) hsl hsr (by omega) h1 h2 W hW
      rw [hsbo, show limitOf L.length = 0 from if_pos hN2] at bfs
      have ups := fun (A : Option Addr) (c : Nat) (h1 : L.length ≤ c) (h2 : c ≤ 9223372036854775807) (W : World) (hW : Rd W W.heap.size 16 A L.length ((spoil L a t).flatten.map (.int .u8))) => iUnpackFrames_any' A L.length c (spoil L a t) hsl hsr (by omega) h1 h2 hs255 W hW
      rw [hso] at ups
      have mnd := fun (b o c b' o' c' : Nat) (W : World) (hR : Rd W W.heap.size 16 (some ⟨b, o, none⟩) L.length ((spoil L a t).flatten.map (.int .u8))) (hR' : Rd W W.heap.size 16 (some ⟨b', o', none⟩) L.length (L.flatten.map (.int .u8))) => iMendFrames_any b o L.length c b' o' L.length c' (spoil L a t) L hsl rfl hsr hrows (by omega) (by omega) W hR hR'
      rw [hmo, hmc, hmd] at mnd
      have sam := fun (A A' : Option Addr) (c c' : Nat) (W : World) (hR : Rd W W.heap.size 16 A L.length (L.flatten.map (.int .u8))) (hR' : Rd W W.heap.size 16 A' L.length (L.flatten.map (.int .u8))) => sameFs_any A A' L.length L.length c c' L L rfl rfl hrows hrows (by omega) W hR hR'
      rw [beq_self_eq_true] at sam
      have hflat : L.flatten.length = L.length * 16 := flat_length hrows
      have hGl : (L.flatten.take (L.length * 16 - q)).length = L.length * 16 - q := by rw [List.length_take, hflat]; omega
      obtain ⟨G, r, hG1, hG2, hG3⟩ : ∃ (G : List (List Int)) (r : Nat), outOf (L.flatten.take (L.length * 16 - q)) = G ∧ restOf (L.flatten.take (L.length * 16 - q)) = ((r : Nat) : Int) ∧ ((q = 0 ∧ r = 0 ∧ G = L) ∨ (0 < q ∧ r = 16 - q ∧ G = L.take (L.length - 1))) := by
        refine ⟨_, (L.length * 16 - q) % 16, rfl, by rw [restOf, hGl, if_pos (by omega)], ?_⟩
        rw [outOf, many, hGl, if_pos (by omega)]
        by_cases hq0 : q = 0
        · refine .inl ⟨hq0, by omega, ?_⟩
          rw [frs_flat hrows (by omega) (by omega) (by omega), List.take_of_length_le (by omega)]
        · refine .inr ⟨by omega, by omega, ?_⟩
          rw [show (L.length * 16 - q) / 16 = L.length - 1 by omega, frs_flat hrows (by omega) (by omega) (by omega)]
      have hGr : Rows_ 16 G := hG1 ▸ outOf_rows _
      have hGn : G.length ≤ 700 := hG1 ▸ outOf_length _
      have fob := fun (A : Option Addr) (c m : Nat) (hm : m = L.length * 16 - q) (h1 : m ≤ c) (h2 : c ≤ 9223372036854775807) (W : World) (hW : Rd W W.heap.size 1 A m ((L.flatten.take (L.length * 16 - q)).map (.int .u8))) => (iFramesOfBytes_any A m c (L.flatten.take (L.length * 16 - q)) (hGl.trans hm.symm) (by omega) h1 h2 W hW).mono fun e w' h => h.parts hG1 hG2 (show codeOf _ = 0 by rw [codeOf, hGl, if_pos (by omega)])
      obtain ⟨E, hE⟩ : ∃ E, E = (spoil L a t).getD a [] := ⟨_, rfl⟩
      obtain ⟨F, hF⟩ : ∃ F, F = L.getD a [] := ⟨_, rfl⟩
      obtain ⟨S, hS⟩ : ∃ S, S = spoil L a t := ⟨_, rfl⟩
      rw [← hF] at pay mkf h12 hLa hFl
      rw [← hE] at iss hEl
      simp only [← hS] at spf bfs ups mnd hsr hsl
      have hEa : ∀ h : a < S.length, S[a]'h = E := fun h => by
        subst hS
        rw [hE, List.getD_eq_getElem?_getD, List.getElem?_eq_getElem h]
        rfl
      have AT3 := Lib.hid at3
      have AT257 := Lib.hid at257
      have ATN := Lib.hid atN
      have AT128 := Lib.hid at128
      have AT16 := Lib.hid at16
      have MK := Lib.hid hmk
      have UPK := Lib.hid upk
      have BF := Lib.hid hbf
      have SPF := Lib.hid spf
      have BFS := Lib.hid bfs
      have UPS := Lib.hid ups
      have ISS := Lib.hid iss
      have MND := Lib.hid mnd
      have SAM := Lib.hid sam
      have PAY := Lib.hid pay
      have MKF := Lib.hid mkf
      have BOF := Lib.hid bof
      have FOB := Lib.hid fob
      have HROWS := Lib.hid hrows
      have HSR := Lib.hid hsr
      have HSL := Lib.hid hsl
      have HLA := Lib.hid hLa
      have HEA := Lib.hid hEa
      have HFL := Lib.hid hFl
      have HEL := Lib.hid hEl
      have HDL := Lib.hid hDl
      have HGR := Lib.hid hGr
      have HG3 := Lib.hid hG3
      have HFLAT := Lib.hid hflat
      have heq : ∀ W : World, (Op.equalIn 10000 25 (.agg (ivs .u8 F)) (.agg (ivs .u8 F))).run Try.prog W = .ok true W := fun W => by
        rw [run_eql_arr W Try.underlying25 Try.underlying5 hi (by kernel_rfl) hFl hFl, beq_self_eq_true]
      have HEQ := Lib.hid heq
      have RB := HRB.out.below hb (Nat.le_refl _)
      have hBz := hb.size
      have hNi1 : 1 + ((k : Int) + 11) / 12 ≤ (L.length : Int) := by omega
      have hNi2 : (L.length : Int) ≤ 1 + ((k : Int) + 11) / 12 := by omega
      clear at3 at257 atN at128 at16 hmk upk hup hbf spf bfs ups iss mnd sam pay mkf bof fob hrows hsr hsl hLa hEa hFl hEl hDl hGr hG3 hflat heq op1 op2 op3 op4 hL255 hbrk hok hpf hpc hN hsp hsnd hNN hNi hkdv hcnv ha ht hq sp1 sp2 hse hsc hspf hLa255 hs255 hsb hsbo hso hm1 hm2 hmL hmo hmc hmd hia hFs hmF h12 hG1 hG2 hGl hE hF hS hL hD255 HRA HRB hmore H255 H255' Hl Hl2
      rcases hstop with hstop | ⟨hstq, hstop⟩
      all_goals
        go_wp2_with fail
        refine (AT3.out _ (RB.more (by omega))).mono ?_
        rintro e wx ⟨rfl, rfl⟩
        go_wp2_with fail
        refine (AT257.out _ (RB.more (by omega))).mono ?_
        rintro e wx ⟨rfl, rfl⟩
        go_wp2_with fail
        refine (MK.out _ (hown.rd.more (by omega))).mono ?_
        rintro e w1 ⟨AL, cL, rfl, OL, hb1⟩
        have z1 := hb1.size
        have RB_1 := RB.below hb1 (by omega)
        have OD_1 := hown.below hb1 (by omega)
        have B1 := hb.trans (hb1.mono (by omega))
        have y1 := B1.size
        clear RB hown hb hb1
        obtain ⟨gL, curL, rfl, -⟩ := OL.at_ (by omega)
        have hcL := OL.capLe
        have hlL := OL.len
        go_wp2_with fail
        refine (UPK.out _ _ hlL hcL _ (OL.rd.more (by omega))).mono ?_
        rintro e w2 ⟨AB, cB, rfl, OB, hb2⟩
        have z2 := hb2.size
        have RB_2 := RB_1.below hb2 (by omega)
        have OD_2 := OD_1.below hb2 (by omega)
        have OL_2 := OL.below hb2 (by omega)
        have B2 := B1.trans (hb2.mono (by omega))
        have y2 := B2.size
        clear RB_1 OD_1 OL B1 hb2
        go_wp2_with fail
        refine (BF.out _ _ hlL hcL _ (OL_2.rd.more (by omega))).mono ?_
        rintro e w3 ⟨AP, cP, rfl, -, hb3⟩
        have z3 := hb3.size
        have RB_3 := RB_2.below hb3 (by omega)
        have OD_3 := OD_2.below hb3 (by omega)
        have OL_3 := OL_2.below hb3 (by omega)
        have OB_3 := OB.below hb3 (by omega)
        have B3 := B2.trans (hb3.mono (by omega))
        have y3 := B3.size
        clear RB_2 OD_2 OL_2 OB B2 hb3
        obtain ⟨s1, hs1, hs1e⟩ := conv_own OB_3 HDL.out
        obtain ⟨s2, hs2, hs2e⟩ := conv_own OD_3 HDL.out
        have hse : s1.toList = s2.toList := hs1e.trans hs2e.symm
        clear hs1e hs2e
        go_wp2_with fail
        refine (ATN.out _ (RB_3.more (by omega))).mono ?_
        rintro e wx ⟨rfl, rfl⟩
        clear hs1 hs2 hse
        clear OB_3 OD_3
        go_wp2_with fail
        refine (AT128.out _ (RB_3.more (by omega))).mono ?_
        rintro e wx ⟨rfl, rfl⟩
        go_wp2_with fail
        refine (SPF.out _ _ _ _ (OL_3.rd.more (by omega))).mono ?_
        rintro e w4 ⟨AS, cS, rfl, OS, hb4⟩
        have z4 := hb4.size
        have RB_4 := RB_3.below hb4 (by omega)
        have OL_4 := OL_3.below hb4 (by omega)
        have B4 := B3.trans (hb4.mono (by omega))
        have y4 := B4.size
        clear RB_3 OL_3 B3 hb4
        obtain ⟨gS, curS, rfl, -⟩ := OS.at_ (by omega)
        have hcS := OS.capLe
        have hlS := OS.len
        go_wp2_with fail
        refine (BFS.out _ _ hlS hcS _ (OS.rd.more (by omega))).mono ?_
        rintro e w5 ⟨AI, cI, rfl, OI, hb5⟩
        have z5 := hb5.size
        have RB_5 := RB_4.below hb5 (by omega)
        have OL_5 := OL_4.below hb5 (by omega)
        have OS_5 := OS.below hb5 (by omega)
        have B5 := B4.trans (hb5.mono (by omega))
        have y5 := B5.size
        clear RB_4 OL_4 OS B4 hb5
        obtain ⟨gI, curI, rfl, -⟩ := OI.at_ (by simp)
        go_wp2_with fail
        refine (UPS.out _ _ hlS hcS _ (OS_5.rd.more (by omega))).mono ?_
        rintro e w6 ⟨AU, cU, rfl, -, hb6⟩
        have z6 := hb6.size
        have RB_6 := RB_5.below hb6 (by omega)
        have OL_6 := OL_5.below hb6 (by omega)
        have OS_6 := OS_5.below hb6 (by omega)
        have OI_6 := OI.below hb6 (by omega)
        have B6 := B5.trans (hb6.mono (by omega))
        have y6 := B6.size
        clear RB_5 OL_5 OS_5 OI B5 hb6
        have hrE := Rd.row_at OS_6.rd HSR.out (by omega) (by rw [HSL.out]; exact haN)
        rw [HEA.out, Nat.zero_add] at hrE
        have HRE := Lib.hid hrE
        clear hrE
        have hai : (a : Int) < (L.length : Int) := by omega
        go_wp2_with (refine wpList_load_ivs rfl _ _ rfl gS (a * 16) (by rfl) .u8 E _ HRE.out Try.underlying25 rfl (by rw [HEL.out]; exact hsz) ?_)
        refine (ISS.out _).mono ?_
        rintro e w7 ⟨rfl, hb7⟩
        have z7 := hb7.size
        have RB_7 := RB_6.below hb7 (by omega)
        have OL_7 := OL_6.below hb7 (by omega)
        have OS_7 := OS_6.below hb7 (by omega)
        have OI_7 := OI_6.below hb7 (by omega)
        have B7 := B6.trans (hb7.mono (by omega))
        have y7 := B7.size
        clear RB_6 OL_6 OS_6 OI_6 B6 hb7
        go_wp2_with fail
        refine (MND.out _ _ _ _ _ _ _ (OS_7.rd.more (by omega)) (OL_7.rd.more (by omega))).mono ?_
        rintro e w8 ⟨AW, cW, rfl, OW, hb8⟩
        have z8 := hb8.size
        have RB_8 := RB_7.below hb8 (by omega)
        have OL_8 := OL_7.below hb8 (by omega)
        have OS_8 := OS_7.below hb8 (by omega)
        have OI_8 := OI_7.below hb8 (by omega)
        have B8 := B7.trans (hb8.mono (by omega))
        have y8 := B8.size
        clear RB_7 OL_7 OS_7 OI_7 B7 hb8
        clear OS_8
        have ci := OI_8.rd
        obtain ⟨bI, oI, eI, -, cI0⟩ := ci.at_ (by simp)
        cases eI
        have cI1 := cI0 0 (.int .i64 (a : Int)) rfl
        clear cI0 ci
        go_wp2_with fail
        refine (SAM.out _ _ _ _ _ (OW.rd.more (by omega)) (OL_8.rd.more (by omega))).mono ?_
        rintro e w9 ⟨rfl, hb9⟩
        have z9 := hb9.size
        have RB_9 := RB_8.below hb9 (by omega)
        have OL_9 := OL_8.below hb9 (by omega)
        have OI_9 := OI_8.below hb9 (by omega)
        have OW_9 := OW.below hb9 (by omega)
        have B9 := B8.trans (hb9.mono (by omega))
        have y9 := B9.size
        clear RB_8 OL_8 OI_8 OW B8 hb9
        clear cI1
        have ci := OI_9.rd
        obtain ⟨bI, oI, eI, -, cI0⟩ := ci.at_ (by simp)
        cases eI
        have cI1 := cI0 0 (.int .i64 (a : Int)) rfl
        clear cI0 ci
        clear OW_9
        have hrF := Rd.row_at OL_9.rd HROWS.out (by omega) haN
        rw [HLA.out, Nat.zero_add] at hrF
        have HRF := Lib.hid hrF
        clear hrF
        go_wp2_with (refine wpList_load_ivs rfl _ _ rfl gL (a * 16) (by rfl) .u8 F _ HRF.out Try.underlying25 rfl (by rw [HFL.out]; exact hsz) ?_)
        refine (PAY.out _).mono ?_
        rintro e w10 ⟨rfl, hb10⟩
        have z10 := hb10.size
        have RB_10 := RB_9.below hb10 (by omega)
        have OL_10 := OL_9.below hb10 (by omega)
        have OI_10 := OI_9.below hb10 (by omega)
        have B10 := B9.trans (hb10.mono (by omega))
        have y10 := B10.size
        clear RB_9 OL_9 OI_9 B9 hb10
        clear cI1
        clear OI_10
        go_wp2_with fail
        refine (MKF.out _).mono ?_
        rintro e w11 ⟨rfl, hb11⟩
        have z11 := hb11.size
        have RB_11 := RB_10.below hb11 (by omega)
        have OL_11 := OL_10.below hb11 (by omega)
        have B11 := B10.trans (hb11.mono (by omega))
        have y11 := B11.size
        clear RB_10 OL_10 B10 hb11
        have r1 : Blk (w11.alloc (.cells #[.int .u8 0, .int .u8 0, .int .u8 0, .int .u8 0, .int .u8 0, .int .u8 0, .int .u8 0, .int .u8 0, .int .u8 0, .int .u8 0, .int .u8 0, .int .u8 0, .int .u8 0, .int .u8 0, .int .u8 0, .int .u8 0] 25)) w11.heap.size 25 (ivs .u8 (List.replicate 16 0)) := Blk.newAt rfl rfl
        go_wp2_with (refine wpList_store_row rfl _ _ _ rfl w11.heap.size (ivs .u8 F) rfl rfl 25 _ r1 (by rw [ivs_size, HFL.out]; exact hsz) (by simp [ivs_size, HFL.out]) ivs_one ?_)
        have r2 : Blk ((w11.alloc (.cells #[.int .u8 0, .int .u8 0, .int .u8 0, .int .u8 0, .int .u8 0, .int .u8 0, .int .u8 0, .int .u8 0, .int .u8 0, .int .u8 0, .int .u8 0, .int .u8 0, .int .u8 0, .int .u8 0, .int .u8 0, .int .u8 0] 25)).setRow w11.heap.size (ivs .u8 F)) w11.heap.size 25 (ivs .u8 F) := r1.row _
        have s2 : Below w11.heap.size w11 ((w11.alloc (.cells #[.int .u8 0, .int .u8 0, .int .u8 0, .int .u8 0, .int .u8 0, .int .u8 0, .int .u8 0, .int .u8 0, .int .u8 0, .int .u8 0, .int .u8 0, .int .u8 0, .int .u8 0, .int .u8 0, .int .u8 0, .int .u8 0] 25)).setRow w11.heap.size (ivs .u8 F)) := below_setRow ((Below.refl _ _).alloc (Nat.le_refl _) _) (Nat.le_refl _) _
        generalize (w11.alloc (.cells #[.int .u8 0, .int .u8 0, .int .u8 0, .int .u8 0, .int .u8 0, .int .u8 0, .int .u8 0, .int .u8 0, .int .u8 0, .int .u8 0, .int .u8 0, .int .u8 0, .int .u8 0, .int .u8 0, .int .u8 0, .int .u8 0] 25)).setRow w11.heap.size (ivs .u8 F) = wx at *
        clear r1
        have zx := s2.size
        have RB_x := RB_11.below s2 (by omega)
        clear RB_11
        have OL_x := OL_11.below s2 (by omega)
        clear OL_11
        have Bx := B11.trans (s2.mono (by omega))
        clear B11 s2
        have yx := Bx.size
        have r2lt := r2.lt
        refine (BOF.out _ _ hlL hcL _ (OL_x.rd.more (by omega))).mono ?_
        rintro e w12 ⟨AA, cA, rfl, OA, hb12⟩
        have z12 := hb12.size
        have RB_12 := RB_x.below hb12 (by omega)
        have OL_12 := OL_x.below hb12 (by omega)
        have r2_12 := r2.below hb12 (by omega)
        have B12 := Bx.trans (hb12.mono (by omega))
        have y12 := B12.size
        clear RB_x OL_x r2 Bx hb12
        obtain ⟨gA, curA, rfl, -⟩ := OA.at_ (by omega)
        have hcA := OA.capLe
        have hlA := OA.len
        go_wp2_with fail
        refine (AT16.out _ (RB_12.more (by omega))).mono ?_
        rintro e wx ⟨rfl, rfl⟩
        have hOA := OA.cut (show L.length * 16 - q ≤ L.length * 16 by omega)
        rw [← List.map_take, Nat.mul_one] at hOA
        clear OA
        go_wp2_with fail
        refine (FOB.out _ _ _ (by omega) (by omega) hcA _ (by first | exact (hOA.rd.more (by omega)) | (have e : ∀ m : Nat, m = L.length * 16 - q → Rd _ _ 1 (some ⟨gA, 0, none⟩) m _ := fun m hm => by subst hm; exact (hOA.rd.more (by omega)); exact e _ (by omega)))).mono ?_
        rintro e w13 ⟨AG, cG, rfl, OG, hb13⟩
        have z13 := hb13.size
        have RB_13 := RB_12.below hb13 (by omega)
        have OL_13 := OL_12.below hb13 (by omega)
        have r2_13 := r2_12.below hb13 (by omega)
        have OC_13 := hOA.below hb13 (by omega)
        have B13 := B12.trans (hb13.mono (by omega))
        have y13 := B13.size
        clear RB_12 OL_12 r2_12 hOA B12 hb13
        clear OC_13
        have e1 := r2_13.rowAt_eq HFL.out
        have e2 := r2_13.hasRow_eq HFL.out
        obtain ⟨bL, oL, eL, -, cLL⟩ := OL_13.rd.at_ (by omega)
        cases eL
        obtain ⟨e3, e4⟩ := rowAt_rd cLL HROWS.out haN
        rw [HLA.out, Nat.zero_add] at e3
        rw [Nat.zero_add] at e4
        clear cLL
        have heq := HEQ.out
        have OLf := OL_13.more (show w1.heap.size ≤ w13.heap.size by omega)
        clear OL_13
        clear z1 z2 z3 z4 z5 z6 z7 z8 z9 z10 z11 z12 z13 y1 y2 y3 y4 y5 y6 y7 y8 y9 y10 y11 y12 zx yx r2lt HSR HSL HLA HEA HFL HEL HDL HFLAT HRE HRF hstop hcap hOlen hk hk2 hkd0 kd0 hcn0 cn0 hbt0 bt0 ct0 hct0 htN hNi1 hNi2 hBz hcS hlS hcA hlA hn hn2 hi hz0 hz1 hz2 hGn HEQ RB_13
        rcases HG3.out with ⟨hq0, hr0, hG0⟩ | ⟨hq0, hr0, hG0⟩
        · subst hq0
          subst hr0
          subst hG0
          go_wp2_with fail
          go_quiet (fail)
          go_wp2_with fail
          have OGn := OG.drewN nq
          have OLn := OLf.drewN nq
          have Bn := below_drewN B13 nq
          refine (SAM.out _ _ _ _ _ (OGn.rd.more (Nat.le_refl _)) (OLn.rd.more (by show _ ≤ w13.heap.size; omega))).mono ?_
          rintro e wz ⟨rfl, hbz⟩
          have Bz := Bn.trans (hbz.mono (by show _ ≤ w13.heap.size; omega))
          go_wp2
          go_ret
          exact ⟨rfl, Bz⟩
        · have HG0 := Lib.hid hG0
          have hri1 : (r : Int) ≤ 16 - (q : Int) := by omega
          have hri2 : 16 - (q : Int) ≤ (r : Int) := by omega
          have hqi : (0 : Int) < (q : Int) := by omega
          clear hG0 hr0 hq0
          go_wp2_with fail
          go_quiet (fail)
          go_wp2_with fail
          have OGn := OG.drewN nq
          have OLn := (OLf.cut (show L.length - 1 ≤ L.length by omega)).drewN nq
          have Bn := below_drewN B13 nq
          rw [← List.map_take, flat_take (L.length - 1) HROWS.out, ← HG0.out] at OLn
          have hsm := sameFs_any AG (some ⟨gL, 0, none⟩) G.length (L.length - 1) cG cL G G rfl (by rw [HG0.out, List.length_take]; omega) HGR.out HGR.out (by rw [HG0.out, List.length_take]; omega) _ (OGn.rd.more (Nat.le_refl _)) (OLn.rd.more (by show _ ≤ w13.heap.size; omega))
          rw [beq_self_eq_true] at hsm
          refine hsm.mono ?_
          rintro e wz ⟨rfl, hbz⟩
          have Bz := Bn.trans (hbz.mono (by show _ ≤ w13.heap.size; omega))
          go_wp2
          go_ret
          exact ⟨rfl, Bz⟩
end

set_option maxRecDepth 100000 in
set_option maxHeartbeats 800000 in
theorem lawFrames_any (A : Option Addr) (n c : Nat) (l : List Int) (hl : l.length = n) (h255 : is255 l) (A2 : Option Addr) (n2 c2 : Nat) (l2 : List Int) (hl2 : l2.length = n2) (h255' : is255 l2)
    (w : World) (RA : Rd w w.heap.size 1 A n (l.map (.int .u8))) (RB : Rd w w.heap.size 1 A2 n2 (l2.map (.int .u8))) :
    Calls Try.prog 14 #[.slice A n c, .slice A2 n2 c2] w fun e w' => e = .returned (.bool true) ∧ Below w.heap.size w w' := by
  by_cases h : n ≤ 3000 ∧ n2 ≤ 3000
  · exact lawFrames_in A n c l hl h255 A2 n2 c2 l2 hl2 h255' h.1 h.2 w RA RB
  · have h' : 3000 < n ∨ 3000 < n2 := by omega
    clear hl h255 hl2 h255' RA RB h
    go_enter Try.func14, Try.ntmps14
    go_wp2_with fail
    refine (a2Long_out A A2 n c n2 c2 h' _).mono ?_
    rintro e wx ⟨rfl, rfl⟩
    go_wp2
    go_ret
    exact ⟨rfl, Below.refl _ _⟩
end Go.Proofs.Ytjjmgonbhofipaa
