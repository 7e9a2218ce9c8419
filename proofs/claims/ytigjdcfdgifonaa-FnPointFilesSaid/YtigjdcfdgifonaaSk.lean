/- SeekPoint: what it gives, and the reference's walk. -/
import Derived.Test.YtigjdcfdgifonaaRows
import Derived.Test.YtigjdcfdgifonaaPx
import Derived.Test.YtigjdcfdgifonaaUe
import Derived.Test.YtigjdcfdgifonaaLd
import Derived.Deep.Cut
import Derived.Deep.CutRange
namespace Go.Proofs.Ytigjdcfdgifonaa
open Go.ChangeShapes Go.WideShapes Go.ChangeAt Go.RowKit

def skFirst (k : Nat) : Nat := 1 + 8 * k / 12
def skLast (k : Nat) : Nat := 1 + (8 * k + 7) / 12
def skPs (k : Nat) : List Nat := if skLast k = skFirst k then [skFirst k] else [skFirst k, skLast k]
def skRow (l : List (List Int)) (p : Nat) : List Int := l.getD p []
def skSound (l : List (List Int)) (ps : List Nat) : Bool := ps.all fun p => soundB p (skRow l p)
def skD (l : List (List Int)) (ps : List Nat) : List Int := (ps.map fun p => (skRow l p).take 12).flatten
def skK (l : List (List Int)) (k : Nat) : List Int := ((skD l (skPs k)).drop (8 * k % 12)).take 8
def skHead (H : List Int) : Bool := hdOk H && ((hdKind H == 1) && (numAt H 8 == 8 * numAt H 4))
def skCode (l : List (List Int)) (k : Int) : Int :=
  if 700 < l.length then 3 else if l = [] then 5 else if soundB 0 (opHead l) then
    (if skHead (opHead l) then (if inB k 0 (numAt (opHead l) 4 - 1) then
      (if skLast k.toNat < l.length then (if skSound l (skPs k.toNat) then (if fkOk (skK l k.toNat) then 0 else 5) else 8) else 5)
    else 2) else 5) else 8
def skRe (l : List (List Int)) (k : Int) : Nat := if skCode l k = 0 then pRe (skK l k.toNat) else 0
def skIm (l : List (List Int)) (k : Int) : Nat := if skCode l k = 0 then pIm (skK l k.toNat) else 0
def skP (l : List (List Int)) (k : Int) : List Int := if skCode l k = 0 then (skPs k.toNat).map fun p => ((p : Nat) : Int) else []
def GivesSeek (re im : Nat) (ps : List Int) (code : Int) (w : World) (e : Ending) (w' : World) : Prop :=
  ∃ A c, e = .returned (.tuple #[.complex .f32 re im, .slice A ps.length c, .int .i64 code]) ∧ Own w' w.heap.size w'.heap.size 2 1 A ps.length c (ps.map (.int .i64)) ∧ Below w.heap.size w w'
theorem GivesSeek.empty {w w1 : World} (code : Int) (h : Below w.heap.size w w1) : GivesSeek 0 0 [] code w (.returned (.tuple #[.complex .f32 0 0, .slice (some ⟨w1.heap.size, 0, none⟩) 0 0, .int .i64 code])) (w1.alloc (.cells #[] 2)) :=
  ⟨_, 0, rfl, ⟨rfl, .inr ⟨_, #[], rfl, h.size, by rw [size_alloc]; omega, Blk.newAt rfl rfl, Nat.le_refl _, by unfold maxLen; omega, rfl, rfl⟩⟩, h.alloc h.size _⟩
theorem GivesSeek.nil {w w1 : World} (code : Int) (h : Below w.heap.size w w1) : GivesSeek 0 0 [] code w (.returned (.tuple #[.complex .f32 0 0, .slice none 0 0, .int .i64 code])) w1 :=
  ⟨_, 0, rfl, ⟨rfl, .inl ⟨rfl, rfl, rfl⟩⟩, h⟩
theorem skNone {l : List (List Int)} {k : Int} {c : Int} (h : skCode l k = c) (hc : c ≠ 0) : skRe l k = 0 ∧ skIm l k = 0 ∧ skP l k = [] := by
  have : ¬ skCode l k = 0 := fun e => hc (h.symm.trans e)
  exact ⟨if_neg this, if_neg this, if_neg this⟩
theorem skPs_length (k : Nat) : (skPs k).length ≤ 2 := by unfold skPs; split <;> simp
theorem skP_length (l : List (List Int)) (k : Int) : (skP l k).length ≤ 2 := by
  unfold skP
  split
  · rw [List.length_map]; exact skPs_length _
  · simp
theorem exec_ldF (ρ : Operand → Value) (dst : Option Tmp) (x : Operand) (t : TypeId) (pos : String) (after : Array Edge) (guard : Option (Nat × Bool)) :
    execOp ρ { dst := dst, op := .load 65 x, type := t, pos := pos, after := after, guard := guard } = ldRow 65 (ρ x) := rfl
theorem run_ldF : ∀ (W : World) (g o : Nat), hasRow W g o 16 = true → (ldRow 65 (.pointer (some ⟨g, o, none⟩))).run Try.prog W = .ok (.value (.agg (rowAt W g o 16))) W := run_ldRow Try.underlying65 rfl size65
theorem skRow_at {l : List (List Int)} {p : Nat} (h : p < l.length) : skRow l p = l[p] := by
  rw [skRow, List.getD_eq_getElem?_getD, List.getElem?_eq_getElem h]; rfl

attribute [local go_sem ↓] exec_ldF
attribute [local go_sem] run_ldF
set_option maxRecDepth 20000 in
set_option maxHeartbeats 6400000 in
theorem sSeekPoint_any (A : Option Addr) (n c : Nat) (l : List (List Int)) (k : Int) (hl : l.length = n) (hrow : Rows_ 16 l) (h255 : ∀ f ∈ l, is255 f) (hn : n ≤ 1048576) (w : World) (hR : Rd w w.heap.size 16 A n (l.flatten.map (.int .u8))) :
    Calls Try.prog 22 #[.slice A n c, .int .i64 k] w (GivesSeek (skRe l k) (skIm l k) (skP l k) (skCode l k) w) := by
  have hc : skCode l k = if 700 < n then 3 else if l = [] then 5 else if soundB 0 (opHead l) then
    (if skHead (opHead l) then (if inB k 0 (numAt (opHead l) 4 - 1) then
      (if skLast k.toNat < n then (if skSound l (skPs k.toNat) then (if fkOk (skK l k.toNat) then 0 else 5) else 8) else 5)
    else 2) else 5) else 8 := by rw [skCode, hl]
  by_cases h7 : 700 < n
  · rw [if_pos h7] at hc
    obtain ⟨e1, e2, e3⟩ := skNone hc (by decide)
    rw [e1, e2, e3, hc]
    clear hl hrow hR hc e1 e2 e3 h255
    go_enter Try.func22, Try.ntmps22
    go_wp2
    go_ret3
    exact GivesSeek.empty 3 (Below.refl _ _)
  rw [if_neg h7] at hc
  by_cases h0 : l = []
  · rw [if_pos h0] at hc
    obtain ⟨e1, e2, e3⟩ := skNone hc (by decide)
    rw [e1, e2, e3, hc]
    have : n = 0 := by rw [← hl, h0]; rfl
    subst this
    clear hl hrow hR hc e1 e2 e3 h255
    go_enter Try.func22, Try.ntmps22
    go_wp2
    go_ret3
    exact GivesSeek.empty 5 (Below.refl _ _)
  rw [if_neg h0] at hc
  have hn1 : 0 < l.length := by
    cases l with
    | nil => exact absurd rfl h0
    | cons => simp
  have hn0 : 0 < n := by omega
  have hnI : (0 : Int) < n := by omega
  have hnI0 : ¬ (n : Int) = 0 := by omega
  obtain ⟨b, o, rfl, hbB, hcc⟩ := hR.at_ (by omega)
  have hF0 : l[0] = opHead l := opHead_eq hn1
  have hFl : (opHead l).length = 16 := by rw [← hF0]; exact hrow.at_ hn1
  have hFw : is255 (opHead l) := by rw [← hF0]; exact h255 _ (List.getElem_mem hn1)
  have hq := fun (W : World) (hW : Below w.heap.size w W) => rowAt_rd (W := W) (b := b) (o := o) (k0 := .u8) (fl := l) (fun j u hu => (hW.cell (p := ⟨b, o + j, none⟩) hbB).trans (hcc j u hu)) hrow hn1
  rw [hF0, Nat.zero_mul, Nat.add_zero] at hq
  have HQ := Lib.hid hq
  have hs := fun W => l09Sound_any (opHead l) hFl 0 W
  have hh := fun W => l09Head_any (opHead l) hFl hFw W
  have q1 := (HQ.out w (Below.refl _ _)).1
  have q2 := (HQ.out w (Below.refl _ _)).2
  cases hsd : soundB 0 (opHead l)
  · rw [hsd, if_neg (by decide)] at hc
    obtain ⟨e1, e2, e3⟩ := skNone hc (by decide)
    rw [e1, e2, e3, hc]
    rw [hsd] at hs
    have HS := Lib.hid hs
    clear hl hrow hR hc e1 e2 e3 h255 hcc hF0 hFl hFw hq hs hh hsd h0 hn1
    generalize opHead l = H at *
    go_enter Try.func22, Try.ntmps22
    go_wp2_with (go_at_call 52; refine (HS.out _).mono ?_; rintro e w1 ⟨rfl, hb1⟩; have HB1 := Lib.hid hb1; clear hb1)
    go_ret3
    exact GivesSeek.empty 8 HB1.out
  rw [hsd, if_pos rfl] at hc
  rw [hsd] at hs
  have HS := Lib.hid hs
  have hR4 := numAt_range hFw 4
  have hR8 := numAt_range hFw 8
  have hhd : skHead (opHead l) = (hdOk (opHead l) && ((hdKind (opHead l) == 1) && (numAt (opHead l) 8 == 8 * numAt (opHead l) 4))) := rfl
  have HH := Lib.hid hh
  have HHD := Lib.hid hhd
  clear hs hh hsd hhd hq q1 q2
  cases hsk : skHead (opHead l)
  · rw [hsk, if_neg (by decide)] at hc
    have hhd := HHD.out
    rw [hsk] at hhd
    obtain ⟨e1, e2, e3⟩ := skNone hc (by decide)
    rw [e1, e2, e3, hc]
    have hcs : hdOk (opHead l) = false ∨ (hdOk (opHead l) = true ∧ ((¬ hdKind (opHead l) = 1) ∨ (hdKind (opHead l) = 1 ∧ ¬ numAt (opHead l) 8 = 8 * numAt (opHead l) 4))) := by
      cases h1 : hdOk (opHead l)
      · exact .inl rfl
      · refine .inr ⟨rfl, ?_⟩
        by_cases h2 : hdKind (opHead l) = 1
        · refine .inr ⟨h2, fun h3 => ?_⟩
          rw [h1, h2, h3] at hhd
          simp at hhd
        · exact .inl h2
    have hh := HH.out
    have p4 := hR4.1
    have p4' := hR4.2
    have p8 := hR8.1
    have p8' := hR8.2
    clear hl hrow hR hc e1 e2 e3 h255 hcc hF0 hFl hFw h0 hn1 hhd HHD hsk HH hR4 hR8
    generalize hdOk (opHead l) = OK at *
    generalize hdKind (opHead l) = K at *
    generalize numAt (opHead l) 4 = M at *
    generalize numAt (opHead l) 8 = S at *
    generalize opHead l = H at *
    rcases hcs with rfl | ⟨rfl, hk | ⟨rfl, hk⟩⟩
    all_goals
      have HH := Lib.hid hh
      clear hh
      have q1 := (HQ.out w (Below.refl _ _)).1
      have q2 := (HQ.out w (Below.refl _ _)).2
      go_enter Try.func22, Try.ntmps22
      go_wp2_with (first
        | (go_at_call 52; refine (HS.out _).mono ?_; rintro e w1 ⟨rfl, hb1⟩; have HB1 := Lib.hid hb1; have q1' := (HQ.out w1 HB1.out).1; have q2' := (HQ.out w1 HB1.out).2; clear hb1)
        | (go_at_call 53; refine (HH.out _).mono ?_; rintro e w2 ⟨rfl, hb2⟩; have HB2 := Lib.hid hb2; clear hb2))
      go_ret3
      exact GivesSeek.empty 5 (HB1.out.trans (HB2.out.mono HB1.out.size))
  rw [hsk, if_pos rfl] at hc
  have hhd := HHD.out
  rw [hsk, Bool.true_eq, Bool.and_eq_true, Bool.and_eq_true, beq_iff_eq, beq_iff_eq] at hhd
  obtain ⟨g1, g2, g3⟩ := hhd
  have hh := HH.out
  rw [g1, g2, g3] at hh
  have p4 := hR4.1
  have p4' := hR4.2
  have hin := fun W => l00In_any k 0 (numAt (opHead l) 4 - 1) W
  have hir : inB k 0 (numAt (opHead l) 4 - 1) = true → 0 ≤ k ∧ k ≤ numAt (opHead l) 4 - 1 := fun h => by
    unfold inB at h
    simpa using h
  clear HH hR4 hR8 HHD hsk g1 g2 g3
  cases hi : inB k 0 (numAt (opHead l) 4 - 1)
  · rw [hi, if_neg (by decide)] at hc
    rw [hi] at hin
    obtain ⟨e1, e2, e3⟩ := skNone hc (by decide)
    rw [e1, e2, e3, hc]
    clear hl hrow hR hc e1 e2 e3 h255 hcc hF0 hFl hFw h0 hn1 hi hir
    generalize numAt (opHead l) 4 = M at *
    generalize opHead l = H at *
    have HH := Lib.hid hh
    have HIN := Lib.hid hin
    clear hh hin
    have q1 := (HQ.out w (Below.refl _ _)).1
    have q2 := (HQ.out w (Below.refl _ _)).2
    go_enter Try.func22, Try.ntmps22
    go_wp2_with (first
      | (go_at_call 52; refine (HS.out _).mono ?_; rintro e w1 ⟨rfl, hb1⟩; have HB1 := Lib.hid hb1; have q1' := (HQ.out w1 HB1.out).1; have q2' := (HQ.out w1 HB1.out).2; clear hb1)
      | (go_at_call 53; refine (HH.out _).mono ?_; rintro e w2 ⟨rfl, hb2⟩; have HB2 := Lib.hid hb2; clear hb2)
      | (go_at_call 54; refine (HIN.out _).mono ?_; rintro e w3 ⟨rfl, rfl⟩))
    go_ret3
    exact GivesSeek.empty 2 (HB1.out.trans (HB2.out.mono HB1.out.size))
  rw [hi, if_pos rfl] at hc
  rw [hi] at hin
  obtain ⟨k0, k1⟩ := hir hi
  obtain ⟨kk, rfl⟩ : ∃ kk : Nat, k = (kk : Int) := ⟨k.toNat, by omega⟩
  rw [Int.toNat_natCast] at hc
  have hre : skRe l kk = if skCode l kk = 0 then pRe (skK l kk) else 0 := rfl
  have him : skIm l kk = if skCode l kk = 0 then pIm (skK l kk) else 0 := rfl
  have hpl : skP l kk = if skCode l kk = 0 then (skPs kk).map fun p => ((p : Nat) : Int) else [] := rfl
  have hfI : ((skFirst kk : Nat) : Int) = 1 + 8 * (kk : Int) / 12 := by unfold skFirst; omega
  have hlI : ((skLast kk : Nat) : Int) = 1 + (8 * (kk : Int) + 7) / 12 := by unfold skLast; omega
  have hf1 : 1 ≤ skFirst kk := by unfold skFirst; omega
  have hps : skPs kk = if skLast kk = skFirst kk then [skFirst kk] else [skFirst kk, skLast kk] := rfl
  have hx12 : 8 * kk % 12 + 8 ≤ 12 * (skPs kk).length := by
    rw [hps]
    unfold skLast skFirst
    split
    · simp; omega
    · simp; omega
  obtain ⟨x, hx⟩ : ∃ x, x = 8 * kk % 12 := ⟨_, rfl⟩
  have hxI : 8 * (kk : Int) - 12 * (8 * (kk : Int) / 12) = (x : Int) := by omega
  have hxN : x = 8 * kk - 12 * (8 * kk / 12) := by omega
  have hKK : skK l kk = ((skD l (skPs kk)).drop x).take 8 := by rw [skK, hx]
  rw [← hx] at hx12
  have hpn : skLast kk < n → ∀ p ∈ skPs kk, p < n := fun h p hp => by
    have : skFirst kk ≤ skLast kk := by unfold skLast skFirst; omega
    rw [hps] at hp
    split at hp <;> simp at hp <;> omega
  have hcase : (skLast kk = skFirst kk ∧ skPs kk = [skFirst kk]) ∨ (skLast kk = skFirst kk + 1 ∧ skPs kk = [skFirst kk, skLast kk]) := by
    rw [hps]
    by_cases h : skLast kk = skFirst kk
    · exact .inl ⟨h, if_pos h⟩
    · exact .inr ⟨by unfold skLast skFirst at *; omega, if_neg h⟩
  obtain ⟨i0, hi0, hz0, hz1, hz2⟩ := info_parts Int64_info
  obtain ⟨i1, hi1, hy0, hy1, hy2⟩ := info_parts Byte_info
  clear hir hi hx hps
  generalize numAt (opHead l) 4 = M at *
  generalize opHead l = H at *
  generalize skFirst kk = f at *
  generalize skLast kk = la at *
  generalize skPs kk = ps at *
  have HH := Lib.hid hh
  have HIN := Lib.hid hin
  have q1 := (HQ.out w (Below.refl _ _)).1
  have q2 := (HQ.out w (Below.refl _ _)).2
  have hne : (la = f → 1 + (8 * (kk : Int) + 7) / 12 = 1 + 8 * (kk : Int) / 12) ∧ (¬ la = f → ¬ 1 + (8 * (kk : Int) + 7) / 12 = 1 + 8 * (kk : Int) / 12) := ⟨fun e => by omega, fun e e' => e (by omega)⟩
  have HNE := Lib.hid hne
  have HC := Lib.hid hc
  have HRE := Lib.hid hre
  have HIM := Lib.hid him
  have HPL := Lib.hid hpl
  have HF := Lib.hid hfI
  have HLA := Lib.hid hlI
  have HKK := Lib.hid hKK
  have HXN := Lib.hid hxN
  have HR := Lib.hid hR
  have HCC := Lib.hid hcc
  have HROW := Lib.hid hrow
  have Hl := Lib.hid hl
  have H255 := Lib.hid h255
  have HPN := Lib.hid hpn
  have HXI := Lib.hid hxI
  have HX12 := Lib.hid hx12
  have HFL := Lib.hid hFl
  clear hh hin hne hc hre him hpl hKK hR hcc hrow hl h255 hpn hF0 hFw h0 hn1 hfI hlI hxI hx12 hFl hxN
  have hkI : 8 * (kk : Int) ≤ 34359738360 := by omega
  rcases hcase with ⟨rfl, hpe⟩ | ⟨hla, hpe⟩
  · have e1 := HNE.out.1 rfl
    have HPE := Lib.hid hpe
    clear hpe HNE
    go_enter Try.func22, Try.ntmps22
    go_upto_region 16 with (first
      | (go_at_call 52; refine (HS.out _).mono ?_; rintro e w1 ⟨rfl, hb1⟩; have HB1 := Lib.hid hb1; have q1' := (HQ.out w1 HB1.out).1; have q2' := (HQ.out w1 HB1.out).2; clear hb1)
      | (go_at_call 53; refine (HH.out _).mono ?_; rintro e w2 ⟨rfl, hb2⟩; have HB2 := Lib.hid hb2; have b3 : Blk (w2.alloc (.cells #[.int .i64 (1 + 8 * (kk : Int) / 12)] 2)) w2.heap.size 2 (ivs .i64 [1 + 8 * (kk : Int) / 12]) := Blk.newAt rfl rfl; have c3 := b3.getAt (i := 0) (by simp); clear hb2)
      | (go_at_call 54; refine (HIN.out _).mono ?_; rintro e w3 ⟨rfl, rfl⟩))
    clear q1 q2 q1' q2'
    have hB2 : Below w.heap.size w w2 := HB1.out.trans (HB2.out.mono HB1.out.size)
    have zB2 := hB2.size
    have hBp := hB2.alloc zB2 (.cells #[.int .i64 (1 + 8 * (kk : Int) / 12)] 2)
    have own0 : (w2.alloc (.cells #[.int .i64 (1 + 8 * (kk : Int) / 12)] 2)).ownsRow w.heap.size 2 1 (.slice (some ⟨w2.heap.size, 0, none⟩) 1 1) 1 ((ps.map fun p => ((p : Nat) : Int)).map (.int .i64)) := by
      rw [HPE.out]
      have := World.ownsRow_lit (e := 2) (base := w.heap.size) (size := 1) w2 #[.int .i64 (1 + 8 * (kk : Int) / 12)] 1 zB2 (by unfold maxLen; omega) rfl
      simpa [HF.out] using this
    have hgp : ∃ gp, gp = w2.heap.size := ⟨_, rfl⟩
    obtain ⟨gp, hgp⟩ := hgp
    rw [← hgp] at own0 ⊢
    generalize (w2.alloc (.cells #[.int .i64 (1 + 8 * (kk : Int) / 12)] 2)) = wp at *
    clear c3 b3 hgp

    have hpm : ps.length = 1 := by rw [HPE.out]; rfl
    have hplt : ∀ q (hq : q < 1), ps[q]'(by omega) ∈ ps := fun q hq => List.getElem_mem _
    have hcp : ∀ q (hq : q < 1), wp.cell? ⟨gp, q, none⟩ = some (.int .i64 ((ps[q]'(by omega) : Nat) : Int)) := fun q hq => by
      obtain ⟨gp', op', hA, hgpB, hcp⟩ := (Rd.of_own own0).at_ (by omega)
      cases hA
      have := hcp q (.int .i64 ((ps[q]'(by omega) : Nat) : Int)) (by rw [List.getElem?_map, List.getElem?_map, List.getElem?_eq_getElem (by omega)]; rfl)
      rwa [Nat.zero_add] at this
    have hgpB : gp < wp.heap.size := (own0.lt gp rfl).2
    have hcl : wp.cell? ⟨gp, 1 - 1, none⟩ = some (.int .i64 ((la : Nat) : Int)) := by
      rw [hcp (1 - 1) (by omega)]
      simp [HPE.out]
    have HCP := Lib.hid hcp
    clear hcp
    by_cases hL : la < n
    · have hc1 := HC.out
      rw [if_pos hL] at hc1
      have HC1 := Lib.hid hc1
      clear hc1
      have hLI : ((la : Nat) : Int) < n := by omega
      have hLN : ¬ n ≤ la := by omega
      have hD0 : (wp.alloc (.cells #[] 5)).ownsRow wp.heap.size 5 1 (.slice (some ⟨wp.heap.size, 0, none⟩) 0 0) 0 ((skD l (ps.take 0)).map (.int .u8)) := World.ownsRow_lit (e := 5) (base := wp.heap.size) (size := 1) wp #[] 0 (Nat.le_refl _) (by unfold maxLen; omega) rfl
      have HO0 := Lib.hid own0
      have hpb := hBp.size
      clear own0 e1
      go_wp2_with fail
      go_loopw [13, 14] (fun v i wr => ∃ q : Nat, q ≤ 1 ∧ i = .int .i64 q ∧ (∃ g cc, v = .slice (some ⟨g, 0, none⟩) (12 * q) cc) ∧ wr.ownsRow wp.heap.size 5 1 v (12 * q) ((skD l (ps.take q)).map (.int .u8)) ∧ Hid (skSound l (ps.take q) = true) ∧ Below wp.heap.size wp wr) (fun _ i _ => 1 - (intOf i).toNat)
      case atStart => exact ⟨0, by omega, rfl, ⟨_, _, rfl⟩, hD0, Lib.hid rfl, (Below.refl _ _).alloc (Nat.le_refl _) _⟩
      case round =>
        clear hD0
        obtain ⟨q, hq, rfl, ⟨g, cc, rfl⟩, ho, hsn, hb⟩ := hrel
        by_cases hlt : q < 1
        · have hpq : q < ps.length := by omega
          obtain ⟨p, hp⟩ : ∃ p, p = ps[q]'hpq := ⟨_, rfl⟩
          have hpn : p < n := HPN.out hL p (by rw [hp]; exact List.getElem_mem _)
          have hcq := HCP.out q hlt
          rw [← hp] at hcq
          have hpl : p < l.length := by rw [Hl.out]; exact hpn
          have hrp := skRow_at hpl
          have hFp : (skRow l p).length = 16 := by rw [hrp]; exact HROW.out.at_ hpl
          have hBr : Below w.heap.size w wr := hBp.trans (hb.mono hpb)
          have hbz := hb.size
          have hqq := fun (W : World) (hW : Below w.heap.size w W) => rowAt_rd (W := W) (b := b) (o := o) (k0 := .u8) (fl := l) (fun j u hu => (hW.cell (p := ⟨b, o + j, none⟩) hbB).trans (HCC.out j u hu)) HROW.out hpl
          rw [← hrp] at hqq
          have hsd := fun W => l09Sound_any (skRow l p) hFp p W
          have hsn2 : skSound l (ps.take (q + 1)) = soundB p (skRow l p) := by
            rw [List.take_succ_eq_append_getElem hpq, skSound, List.all_append, ← hp]
            have := hsn.out
            rw [skSound] at this
            rw [this]; simp
          have hdn2 : skD l (ps.take (q + 1)) = skD l (ps.take q) ++ (skRow l p).take 12 := by
            rw [List.take_succ_eq_append_getElem hpq, skD, List.map_append, List.flatten_append, ← hp]
            simp [skD]
          have hall : soundB p (skRow l p) = false → skSound l ps = false := fun h => by
            rw [skSound, List.all_eq_false]
            exact ⟨p, by rw [hp]; exact List.getElem_mem _, by rw [h]; decide⟩
          have hcr : ∀ j, j < 12 → w.cell? ⟨b, o + (p * 16 + j), none⟩ = some (.int .u8 ((skRow l p).getD j 0)) := fun j hj => by
            refine HCC.out _ _ ?_
            have : l.flatten[p * 16 + j]? = (skRow l p)[j]? := by
              have h1 := flat_row HROW.out hpl
              rw [← hrp] at h1
              rw [← h1, List.getElem?_take, if_pos (by omega), List.getElem?_drop]
            rw [List.getElem?_map, this, List.getD_eq_getElem?_getD, List.getElem?_eq_getElem (by omega)]
            rfl
          have hc1q : wr.cell? ⟨gp, q, none⟩ = some (.int .i64 (p : Int)) := (hb.cell (p := ⟨gp, q, none⟩) hgpB).trans hcq
          obtain ⟨r1, r2⟩ := hqq wr.drew (below_drew hBr)
          have HDN := Lib.hid hdn2
          have HSN := Lib.hid hsn2
          have HCR := Lib.hid hcr
          have HSD := Lib.hid hsd
          have HAL := Lib.hid hall
          have HO := Lib.hid ho
          have HBw := Lib.hid hb
          have HBR := Lib.hid hBr
          have HCQ := Lib.hid hcq
          have HQQ := Lib.hid hqq
          have HFP := Lib.hid hFp
          have hpI : (p : Int) < n := by omega
          have hqI : (q : Int) < 1 := by omega
          clear hdn2 hsn2 hcr hsd hall ho hb hBr hcq hqq hFp hrp hp hsn hlt hpq hpl
          cases hsp : soundB p (skRow l p)
          · have hsd2 := HSD.out
            rw [hsp] at hsd2
            have hc2 := HC1.out
            rw [HAL.out hsp] at hc2
            have hc3 : skCode l kk = 8 := hc2
            have HSD2 := Lib.hid hsd2
            have HC3 := Lib.hid hc3
            clear hsd2 hc2 hc3 hsp
            go_wp2_with fail
            go_region_law (go_simp; go_at_call 52; refine (HSD2.out _).mono ?_; rintro e w5 ⟨rfl, hb5⟩; have HB5 := Lib.hid hb5; clear hb5)
            all_goals
              go_wp2
              go_ret3
              obtain ⟨e1', e2', e3'⟩ := skNone HC3.out (by decide)
              rw [e1', e2', e3', HC3.out]
              exact GivesSeek.empty 8 ((below_drew HBR.out).trans (HB5.out.mono (by have := HBR.out.size; exact this)))
          · have hsd2 := HSD.out
            rw [hsp] at hsd2
            have HSD2 := Lib.hid hsd2
            have hsn3 := HSN.out
            rw [hsp] at hsn3
            have HSN3 := Lib.hid hsn3
            clear hsd2 hsp hsn3
            go_wp2_with fail
            go_region_law (go_simp; go_at_call 52; refine (HSD2.out _).mono ?_; rintro e wc ⟨rfl, hb5⟩; have HB5 := Lib.hid hb5; clear hb5)
            all_goals
              have hbc := (below_drew (Below.refl wr.heap.size wr)).trans HB5.out
              have hoc := own_below HO.out hbc (Nat.le_refl _)
              have hBc := HBw.out.trans (hbc.mono hbz)
              have hz2 := hBc.size
              have HBC := Lib.hid hBc
              have hf0 : (skRow l p).take 0 = [] := rfl
              have ho2 : wc.ownsRow wp.heap.size 5 1 (.slice (some ⟨g, 0, none⟩) (12 * q + 0) cc) (12 * q + 0) ((skD l (ps.take q) ++ (skRow l p).take 0).map (.int .u8)) := by rw [hf0, List.append_nil]; exact hoc
              have HO2 := Lib.hid ho2
              clear hoc hbc hc1q r1 r2 hf0 ho2 hBc HB5 HO HBR HQQ HSD
              go_wp2_with fail
              go_loopw [13, 15] (fun v i wr => ∃ j : Nat, j ≤ 12 ∧ i = .int .i64 j ∧ (∃ g cc, v = .slice (some ⟨g, 0, none⟩) (12 * q + j) cc) ∧ wr.ownsRow wp.heap.size 5 1 v (12 * q + j) ((skD l (ps.take q) ++ (skRow l p).take j).map (.int .u8)) ∧ Below wp.heap.size wp wr) (fun _ i _ => 12 - (intOf i).toNat)
              case atStart => exact ⟨0, by omega, rfl, ⟨_, _, rfl⟩, HO2.out, HBC.out⟩
              case round =>
                clear HO2 HBC
                obtain ⟨j, hj, rfl, ⟨g3, cc3, rfl⟩, ho3, hb3⟩ := hrel
                by_cases hj12 : j < 12
                · have hjF : j < (skRow l p).length := by rw [HFP.out]; omega
                  have hd3 : (skRow l p).take (j + 1) = (skRow l p).take j ++ [(skRow l p)[j]] := List.take_succ_eq_append_getElem hjF
                  have c3 := HCR.out j hj12
                  rw [List.getD_eq_getElem?_getD, List.getElem?_eq_getElem hjF, Option.getD_some] at c3
                  have hB3 : Below w.heap.size w wr := hBp.trans (hb3.mono hpb)
                  rw [← (bcell hB3).1 b _ hbB, ← Nat.add_assoc] at c3
                  have c4 : wr.cell? ⟨gp, q, none⟩ = some (.int .i64 (p : Int)) := (hb3.cell (p := ⟨gp, q, none⟩) hgpB).trans HCQ.out
                  have hjI : (j : Int) < 12 := by omega
                  have H3 := Lib.hid ho3
                  have HD3 := Lib.hid hd3
                  have HB3 := Lib.hid hb3
                  have z3 := hb3.size
                  generalize (skRow l p)[j] = V at *
                  clear ho3 hd3 hb3 hB3
                  go_wp2_with (at_builtin; refine wpList_append_own _ rfl (.tmp 114) (.tmp 124) 52 rfl wp.heap.size 5 i1 _ 1 1 Try.underlying52 hi1 hy0 hy1 hy2 rfl (by decide) _ _ _ rfl (H3.out.alloc _) ⟨wr.heap.size, 0, none⟩ 1 1 ([V].map (.int .u8)) (by rfl) rfl (Blk.newAt (cs := ivs .u8 [V]) (t := 5) (w := wr) rfl rfl).news ints_one (by unfold maxLen; omega) (by omega) (by rw [size_alloc]; omega) ?_; intro v' w6 hown' hgrow _; have HOWN := Lib.hid hown'; have HGR := Lib.hid hgrow; clear hown' hgrow)
                  obtain ⟨A1, c1', hve, hOO⟩ := Own.of_row HOWN.out
                  obtain ⟨g4, cur4, hA4, _⟩ := hOO.at_ (by omega)
                  subst hve hA4
                  refine ⟨⟨j + 1, by omega, by go_num, ⟨g4, c1', rfl⟩, ?_, (HB3.out.alloc z3 _).grown HGR.out (by rw [size_alloc]; omega) (fun j e => (H3.out.lt _ e).1)⟩, by simp [intOf]; omega⟩
                  rw [HD3.out, ← List.append_assoc, List.map_append]
                  exact HOWN.out
                · obtain rfl : j = 12 := by omega
                  have H3 := Lib.hid ho3
                  have HB3 := Lib.hid hb3
                  clear ho3 hb3
                  go_wp2_with fail
                  refine ⟨⟨q + 1, by omega, by go_num, ⟨g3, cc3, rfl⟩, ?_, Lib.hid HSN3.out, HB3.out⟩, by simp [intOf]; omega⟩
                  rw [HDN.out]
                  exact H3.out
        · obtain rfl : q = 1 := by omega
          rw [List.take_of_length_le (by omega)] at ho hsn
          have hK8 : (skD l ps).length = 12 * 1 := by have := ho.1; simpa using this
          have hx12 := HX12.out
          have hxN := HXN.out
          rw [hpm] at hx12
          have hK255 : is255 (skD l ps) := fun y hy => by
            rw [skD, List.mem_flatten] at hy
            obtain ⟨m, hm, hy⟩ := hy
            rw [List.mem_map] at hm
            obtain ⟨p, hp, rfl⟩ := hm
            rw [skRow_at (by rw [Hl.out]; exact HPN.out hL p hp)] at hy
            exact H255.out _ (List.getElem_mem _) y (List.mem_of_mem_take hy)
          have hRD : Rd wr wr.heap.size 1 (some ⟨g, x, none⟩) (12 * 1 - x) (((skD l ps).drop x).map (.int .u8)) := by
            refine ⟨by rw [List.length_map, List.length_drop]; omega, fun _ => ?_⟩
            obtain ⟨g', o', hA, hgB, hcc⟩ := (Rd.of_own ho).at_ (by omega)
            cases hA
            refine ⟨g, x, rfl, hgB, fun j u hu => ?_⟩
            have := hcc (x + j) u (by rw [← List.getElem?_drop, ← List.map_drop]; exact hu)
            rwa [Nat.zero_add] at this
          have hpt := sPoint_any (some ⟨g, x, none⟩) (12 * 1 - x) (cc - x) ((skD l ps).drop x) (by omega) (fun y hy => hK255 y (List.mem_of_mem_drop hy)) wr hRD
          rw [← HKK.out, hxN] at hpt
          have HPT := Lib.hid hpt
          have hcc12 : 12 * 1 ≤ cc := by
            rcases ho.2 with ⟨h, _⟩ | ⟨g', cap, cur, h, _, _, h5, _⟩
            · cases h
            · cases h; exact h5
          have hcx : ¬ cc = 8 * kk - 12 * (8 * kk / 12) := by omega
          have HBR := Lib.hid (hBp.trans (hb.mono hpb))
          have HBw := Lib.hid hb
          have hc1 := HC1.out
          rw [hsn.out, if_pos rfl] at hc1
          have HC2 := Lib.hid hc1
          have hcw : wr.cell? ⟨gp, 0, none⟩ = some (.int .i64 ((ps[0]'(by omega) : Nat) : Int)) := (hb.cell (p := ⟨gp, 0, none⟩) hgpB).trans (HCP.out 0 (by omega))
          have h0f : ((ps[0]'(by omega) : Nat) : Int) = 1 + 8 * (kk : Int) / 12 := by simp [HPE.out, HF.out]
          rw [h0f] at hcw
          have hxi := HXI.out
          clear ho hsn hK8 hK255 hRD hpt hb hc1 h0f hq hlt hxN
          cases hfk : fkOk (skK l kk)
          · have hc3 := HC2.out
            rw [hfk, if_neg (by decide)] at hc3
            have hp3 := HPT.out
            rw [hfk] at hp3
            have HC3 := Lib.hid hc3
            have HP3 := Lib.hid hp3
            clear hc3 hp3 hfk HPT
            go_wp2_with (go_at_call 43; refine HP3.out.mono ?_; rintro e w9 ⟨rfl, hb9⟩; have HB9 := Lib.hid hb9; clear hb9)
            go_ret3
            obtain ⟨e1', e2', e3'⟩ := skNone HC3.out (by decide)
            rw [e1', e2', e3', HC3.out]
            exact GivesSeek.empty 5 (HBR.out.trans (HB9.out.mono HBR.out.size))
          · have hc3 := HC2.out
            rw [hfk, if_pos rfl] at hc3
            have hp3 := HPT.out
            rw [hfk] at hp3
            have HC3 := Lib.hid hc3
            have HP3 := Lib.hid hp3
            clear hc3 hp3 hfk HPT
            go_wp2_with (go_at_call 43; refine HP3.out.mono ?_; rintro e w9 ⟨rfl, hb9⟩; have HB9 := Lib.hid hb9; clear hb9)
            go_ret3
            have q1' := HRE.out
            have q2' := HIM.out
            have q3' := HPL.out
            rw [if_pos HC3.out] at q1' q2' q3'
            rw [q1', q2', q3', HC3.out]
            have ow := own_below (own_below HO0.out HBw.out (Nat.le_refl _)) HB9.out (Nat.le_refl _)
            obtain ⟨A9, c9, e9, hO9⟩ := Own.of_row ow
            cases e9
            refine ⟨some ⟨gp, 0, none⟩, 1, ?_, ?_, HBR.out.trans (HB9.out.mono HBR.out.size)⟩
            · rw [List.length_map, hpm]
              rfl
            · rw [List.length_map, hpm]
              exact hO9
    · have hc1 := HC.out
      rw [if_neg hL] at hc1
      have HC1 := Lib.hid hc1
      have hLI : (n : Int) ≤ ((la : Nat) : Int) := by omega
      clear hc1 e1 own0
      go_wp2_with fail
      go_ret3
      obtain ⟨e1', e2', e3'⟩ := skNone HC1.out (by decide)
      rw [e1', e2', e3', HC1.out]
      exact GivesSeek.empty 5 hBp
  · have e1 := HNE.out.2 (by omega)
    have HPE := Lib.hid hpe
    have HLA1 := Lib.hid hla
    clear hpe hla HNE
    have hnews : ∀ (W : World) (v : Int), ∀ j u, ([Value.int .i64 v])[j]? = some u → (W.alloc (.cells #[.int .i64 v] 2)).cell? ((⟨W.heap.size, 0, none⟩ : Addr).add j) = some u := fun W v => (Blk.newAt (cs := ivs .i64 [v]) (t := 2) (w := W) rfl rfl).news
    go_enter Try.func22, Try.ntmps22
    go_upto_region 15 with (first
      | (go_at_call 52; refine (HS.out _).mono ?_; rintro e w1 ⟨rfl, hb1⟩; have HB1 := Lib.hid hb1; have q1' := (HQ.out w1 HB1.out).1; have q2' := (HQ.out w1 HB1.out).2; clear hb1)
      | (go_at_call 53; refine (HH.out _).mono ?_; rintro e w2 ⟨rfl, hb2⟩; have HB2 := Lib.hid hb2; have b3 : Blk (w2.alloc (.cells #[.int .i64 (1 + 8 * (kk : Int) / 12)] 2)) w2.heap.size 2 (ivs .i64 [1 + 8 * (kk : Int) / 12]) := Blk.newAt rfl rfl; have c3 := b3.getAt (i := 0) (by simp); clear hb2)
      | (go_at_call 54; refine (HIN.out _).mono ?_; rintro e w3 ⟨rfl, rfl⟩))
    clear q1 q2 q1' q2'
    have hB2 : Below w.heap.size w w2 := HB1.out.trans (HB2.out.mono HB1.out.size)
    have zB2 := hB2.size
    have hBp0 := hB2.alloc zB2 (.cells #[.int .i64 (1 + 8 * (kk : Int) / 12)] 2)
    have own1 : (w2.alloc (.cells #[.int .i64 (1 + 8 * (kk : Int) / 12)] 2)).ownsRow w.heap.size 2 1 (.slice (some ⟨w2.heap.size, 0, none⟩) 1 1) 1 [.int .i64 (1 + 8 * (kk : Int) / 12)] := World.ownsRow_lit (e := 2) (base := w.heap.size) (size := 1) w2 #[.int .i64 (1 + 8 * (kk : Int) / 12)] 1 zB2 (by unfold maxLen; omega) rfl
    generalize (w2.alloc (.cells #[.int .i64 (1 + 8 * (kk : Int) / 12)] 2)) = wq at *
    clear c3 b3
    have zq := hBp0.size
    go_upto_region 16 with (at_builtin; refine wpList_append_own _ rfl (.tmp 75) (.tmp 77) 40 rfl w.heap.size 2 i0 _ 1 8 Try.underlying40 hi0 hz0 hz1 hz2 rfl (by decide) (.slice (some ⟨w2.heap.size, 0, none⟩) 1 1) 1 _ rfl (own1.alloc _) ⟨wq.heap.size, 0, none⟩ 1 1 [.int .i64 (1 + (8 * (kk : Int) + 7) / 12)] (by rfl) rfl (hnews _ _) (by simp [Value.oneCell']) (by unfold maxLen; omega) (by omega) (by rw [size_alloc]; omega) ?_; intro vp wp hown' hgrow _)
    have hBp : Below w.heap.size w wp := (hBp0.alloc zq _).grown hgrow (by rw [size_alloc]; omega) (fun j e => (own1.lt _ e).1)
    obtain ⟨A1, cp, hve, hOO⟩ := Own.of_row hown'
    obtain ⟨gp, cur1, hA1, _⟩ := hOO.at_ (by omega)
    subst hve hA1
    clear hOO
    have own0 : wp.ownsRow w.heap.size 2 1 (.slice (some ⟨gp, 0, none⟩) 2 cp) 2 ((ps.map fun p => ((p : Nat) : Int)).map (.int .i64)) := by
      rw [HPE.out]
      simpa [HF.out, HLA.out] using hown'
    clear own1 hgrow hown'
    simp only [Nat.reduceAdd]

    have hpm : ps.length = 2 := by rw [HPE.out]; rfl
    have hplt : ∀ q (hq : q < 2), ps[q]'(by omega) ∈ ps := fun q hq => List.getElem_mem _
    have hcp : ∀ q (hq : q < 2), wp.cell? ⟨gp, q, none⟩ = some (.int .i64 ((ps[q]'(by omega) : Nat) : Int)) := fun q hq => by
      obtain ⟨gp', op', hA, hgpB, hcp⟩ := (Rd.of_own own0).at_ (by omega)
      cases hA
      have := hcp q (.int .i64 ((ps[q]'(by omega) : Nat) : Int)) (by rw [List.getElem?_map, List.getElem?_map, List.getElem?_eq_getElem (by omega)]; rfl)
      rwa [Nat.zero_add] at this
    have hgpB : gp < wp.heap.size := (own0.lt gp rfl).2
    have hcl : wp.cell? ⟨gp, 2 - 1, none⟩ = some (.int .i64 ((la : Nat) : Int)) := by
      rw [hcp (2 - 1) (by omega)]
      simp [HPE.out]
    have HCP := Lib.hid hcp
    clear hcp
    by_cases hL : la < n
    · have hc1 := HC.out
      rw [if_pos hL] at hc1
      have HC1 := Lib.hid hc1
      clear hc1
      have hLI : ((la : Nat) : Int) < n := by omega
      have hLN : ¬ n ≤ la := by omega
      have hD0 : (wp.alloc (.cells #[] 5)).ownsRow wp.heap.size 5 1 (.slice (some ⟨wp.heap.size, 0, none⟩) 0 0) 0 ((skD l (ps.take 0)).map (.int .u8)) := World.ownsRow_lit (e := 5) (base := wp.heap.size) (size := 1) wp #[] 0 (Nat.le_refl _) (by unfold maxLen; omega) rfl
      have HO0 := Lib.hid own0
      have hpb := hBp.size
      clear own0 e1
      go_wp2_with fail
      go_loopw [13, 14] (fun v i wr => ∃ q : Nat, q ≤ 2 ∧ i = .int .i64 q ∧ (∃ g cc, v = .slice (some ⟨g, 0, none⟩) (12 * q) cc) ∧ wr.ownsRow wp.heap.size 5 1 v (12 * q) ((skD l (ps.take q)).map (.int .u8)) ∧ Hid (skSound l (ps.take q) = true) ∧ Below wp.heap.size wp wr) (fun _ i _ => 2 - (intOf i).toNat)
      case atStart => exact ⟨0, by omega, rfl, ⟨_, _, rfl⟩, hD0, Lib.hid rfl, (Below.refl _ _).alloc (Nat.le_refl _) _⟩
      case round =>
        clear hD0
        obtain ⟨q, hq, rfl, ⟨g, cc, rfl⟩, ho, hsn, hb⟩ := hrel
        by_cases hlt : q < 2
        · have hpq : q < ps.length := by omega
          obtain ⟨p, hp⟩ : ∃ p, p = ps[q]'hpq := ⟨_, rfl⟩
          have hpn : p < n := HPN.out hL p (by rw [hp]; exact List.getElem_mem _)
          have hcq := HCP.out q hlt
          rw [← hp] at hcq
          have hpl : p < l.length := by rw [Hl.out]; exact hpn
          have hrp := skRow_at hpl
          have hFp : (skRow l p).length = 16 := by rw [hrp]; exact HROW.out.at_ hpl
          have hBr : Below w.heap.size w wr := hBp.trans (hb.mono hpb)
          have hbz := hb.size
          have hqq := fun (W : World) (hW : Below w.heap.size w W) => rowAt_rd (W := W) (b := b) (o := o) (k0 := .u8) (fl := l) (fun j u hu => (hW.cell (p := ⟨b, o + j, none⟩) hbB).trans (HCC.out j u hu)) HROW.out hpl
          rw [← hrp] at hqq
          have hsd := fun W => l09Sound_any (skRow l p) hFp p W
          have hsn2 : skSound l (ps.take (q + 1)) = soundB p (skRow l p) := by
            rw [List.take_succ_eq_append_getElem hpq, skSound, List.all_append, ← hp]
            have := hsn.out
            rw [skSound] at this
            rw [this]; simp
          have hdn2 : skD l (ps.take (q + 1)) = skD l (ps.take q) ++ (skRow l p).take 12 := by
            rw [List.take_succ_eq_append_getElem hpq, skD, List.map_append, List.flatten_append, ← hp]
            simp [skD]
          have hall : soundB p (skRow l p) = false → skSound l ps = false := fun h => by
            rw [skSound, List.all_eq_false]
            exact ⟨p, by rw [hp]; exact List.getElem_mem _, by rw [h]; decide⟩
          have hcr : ∀ j, j < 12 → w.cell? ⟨b, o + (p * 16 + j), none⟩ = some (.int .u8 ((skRow l p).getD j 0)) := fun j hj => by
            refine HCC.out _ _ ?_
            have : l.flatten[p * 16 + j]? = (skRow l p)[j]? := by
              have h1 := flat_row HROW.out hpl
              rw [← hrp] at h1
              rw [← h1, List.getElem?_take, if_pos (by omega), List.getElem?_drop]
            rw [List.getElem?_map, this, List.getD_eq_getElem?_getD, List.getElem?_eq_getElem (by omega)]
            rfl
          have hc1q : wr.cell? ⟨gp, q, none⟩ = some (.int .i64 (p : Int)) := (hb.cell (p := ⟨gp, q, none⟩) hgpB).trans hcq
          obtain ⟨r1, r2⟩ := hqq wr.drew (below_drew hBr)
          have HDN := Lib.hid hdn2
          have HSN := Lib.hid hsn2
          have HCR := Lib.hid hcr
          have HSD := Lib.hid hsd
          have HAL := Lib.hid hall
          have HO := Lib.hid ho
          have HBw := Lib.hid hb
          have HBR := Lib.hid hBr
          have HCQ := Lib.hid hcq
          have HQQ := Lib.hid hqq
          have HFP := Lib.hid hFp
          have hpI : (p : Int) < n := by omega
          have hqI : (q : Int) < 2 := by omega
          clear hdn2 hsn2 hcr hsd hall ho hb hBr hcq hqq hFp hrp hp hsn hlt hpq hpl
          cases hsp : soundB p (skRow l p)
          · have hsd2 := HSD.out
            rw [hsp] at hsd2
            have hc2 := HC1.out
            rw [HAL.out hsp] at hc2
            have hc3 : skCode l kk = 8 := hc2
            have HSD2 := Lib.hid hsd2
            have HC3 := Lib.hid hc3
            clear hsd2 hc2 hc3 hsp
            go_wp2_with fail
            go_region_law (go_simp; go_at_call 52; refine (HSD2.out _).mono ?_; rintro e w5 ⟨rfl, hb5⟩; have HB5 := Lib.hid hb5; clear hb5)
            all_goals
              go_wp2
              go_ret3
              obtain ⟨e1', e2', e3'⟩ := skNone HC3.out (by decide)
              rw [e1', e2', e3', HC3.out]
              exact GivesSeek.empty 8 ((below_drew HBR.out).trans (HB5.out.mono (by have := HBR.out.size; exact this)))
          · have hsd2 := HSD.out
            rw [hsp] at hsd2
            have HSD2 := Lib.hid hsd2
            have hsn3 := HSN.out
            rw [hsp] at hsn3
            have HSN3 := Lib.hid hsn3
            clear hsd2 hsp hsn3
            go_wp2_with fail
            go_region_law (go_simp; go_at_call 52; refine (HSD2.out _).mono ?_; rintro e wc ⟨rfl, hb5⟩; have HB5 := Lib.hid hb5; clear hb5)
            all_goals
              have hbc := (below_drew (Below.refl wr.heap.size wr)).trans HB5.out
              have hoc := own_below HO.out hbc (Nat.le_refl _)
              have hBc := HBw.out.trans (hbc.mono hbz)
              have hz2 := hBc.size
              have HBC := Lib.hid hBc
              have hf0 : (skRow l p).take 0 = [] := rfl
              have ho2 : wc.ownsRow wp.heap.size 5 1 (.slice (some ⟨g, 0, none⟩) (12 * q + 0) cc) (12 * q + 0) ((skD l (ps.take q) ++ (skRow l p).take 0).map (.int .u8)) := by rw [hf0, List.append_nil]; exact hoc
              have HO2 := Lib.hid ho2
              clear hoc hbc hc1q r1 r2 hf0 ho2 hBc HB5 HO HBR HQQ HSD
              go_wp2_with fail
              go_loopw [13, 15] (fun v i wr => ∃ j : Nat, j ≤ 12 ∧ i = .int .i64 j ∧ (∃ g cc, v = .slice (some ⟨g, 0, none⟩) (12 * q + j) cc) ∧ wr.ownsRow wp.heap.size 5 1 v (12 * q + j) ((skD l (ps.take q) ++ (skRow l p).take j).map (.int .u8)) ∧ Below wp.heap.size wp wr) (fun _ i _ => 12 - (intOf i).toNat)
              case atStart => exact ⟨0, by omega, rfl, ⟨_, _, rfl⟩, HO2.out, HBC.out⟩
              case round =>
                clear HO2 HBC
                obtain ⟨j, hj, rfl, ⟨g3, cc3, rfl⟩, ho3, hb3⟩ := hrel
                by_cases hj12 : j < 12
                · have hjF : j < (skRow l p).length := by rw [HFP.out]; omega
                  have hd3 : (skRow l p).take (j + 1) = (skRow l p).take j ++ [(skRow l p)[j]] := List.take_succ_eq_append_getElem hjF
                  have c3 := HCR.out j hj12
                  rw [List.getD_eq_getElem?_getD, List.getElem?_eq_getElem hjF, Option.getD_some] at c3
                  have hB3 : Below w.heap.size w wr := hBp.trans (hb3.mono hpb)
                  rw [← (bcell hB3).1 b _ hbB, ← Nat.add_assoc] at c3
                  have c4 : wr.cell? ⟨gp, q, none⟩ = some (.int .i64 (p : Int)) := (hb3.cell (p := ⟨gp, q, none⟩) hgpB).trans HCQ.out
                  have hjI : (j : Int) < 12 := by omega
                  have H3 := Lib.hid ho3
                  have HD3 := Lib.hid hd3
                  have HB3 := Lib.hid hb3
                  have z3 := hb3.size
                  generalize (skRow l p)[j] = V at *
                  clear ho3 hd3 hb3 hB3
                  go_wp2_with (at_builtin; refine wpList_append_own _ rfl (.tmp 114) (.tmp 124) 52 rfl wp.heap.size 5 i1 _ 1 1 Try.underlying52 hi1 hy0 hy1 hy2 rfl (by decide) _ _ _ rfl (H3.out.alloc _) ⟨wr.heap.size, 0, none⟩ 1 1 ([V].map (.int .u8)) (by rfl) rfl (Blk.newAt (cs := ivs .u8 [V]) (t := 5) (w := wr) rfl rfl).news ints_one (by unfold maxLen; omega) (by omega) (by rw [size_alloc]; omega) ?_; intro v' w6 hown' hgrow _; have HOWN := Lib.hid hown'; have HGR := Lib.hid hgrow; clear hown' hgrow)
                  obtain ⟨A1, c1', hve, hOO⟩ := Own.of_row HOWN.out
                  obtain ⟨g4, cur4, hA4, _⟩ := hOO.at_ (by omega)
                  subst hve hA4
                  refine ⟨⟨j + 1, by omega, by go_num, ⟨g4, c1', rfl⟩, ?_, (HB3.out.alloc z3 _).grown HGR.out (by rw [size_alloc]; omega) (fun j e => (H3.out.lt _ e).1)⟩, by simp [intOf]; omega⟩
                  rw [HD3.out, ← List.append_assoc, List.map_append]
                  exact HOWN.out
                · obtain rfl : j = 12 := by omega
                  have H3 := Lib.hid ho3
                  have HB3 := Lib.hid hb3
                  clear ho3 hb3
                  go_wp2_with fail
                  refine ⟨⟨q + 1, by omega, by go_num, ⟨g3, cc3, rfl⟩, ?_, Lib.hid HSN3.out, HB3.out⟩, by simp [intOf]; omega⟩
                  rw [HDN.out]
                  exact H3.out
        · obtain rfl : q = 2 := by omega
          rw [List.take_of_length_le (by omega)] at ho hsn
          have hK8 : (skD l ps).length = 12 * 2 := by have := ho.1; simpa using this
          have hx12 := HX12.out
          have hxN := HXN.out
          rw [hpm] at hx12
          have hK255 : is255 (skD l ps) := fun y hy => by
            rw [skD, List.mem_flatten] at hy
            obtain ⟨m, hm, hy⟩ := hy
            rw [List.mem_map] at hm
            obtain ⟨p, hp, rfl⟩ := hm
            rw [skRow_at (by rw [Hl.out]; exact HPN.out hL p hp)] at hy
            exact H255.out _ (List.getElem_mem _) y (List.mem_of_mem_take hy)
          have hRD : Rd wr wr.heap.size 1 (some ⟨g, x, none⟩) (12 * 2 - x) (((skD l ps).drop x).map (.int .u8)) := by
            refine ⟨by rw [List.length_map, List.length_drop]; omega, fun _ => ?_⟩
            obtain ⟨g', o', hA, hgB, hcc⟩ := (Rd.of_own ho).at_ (by omega)
            cases hA
            refine ⟨g, x, rfl, hgB, fun j u hu => ?_⟩
            have := hcc (x + j) u (by rw [← List.getElem?_drop, ← List.map_drop]; exact hu)
            rwa [Nat.zero_add] at this
          have hpt := sPoint_any (some ⟨g, x, none⟩) (12 * 2 - x) (cc - x) ((skD l ps).drop x) (by omega) (fun y hy => hK255 y (List.mem_of_mem_drop hy)) wr hRD
          rw [← HKK.out, hxN] at hpt
          have HPT := Lib.hid hpt
          have hcc12 : 12 * 2 ≤ cc := by
            rcases ho.2 with ⟨h, _⟩ | ⟨g', cap, cur, h, _, _, h5, _⟩
            · cases h
            · cases h; exact h5
          have hcx : ¬ cc = 8 * kk - 12 * (8 * kk / 12) := by omega
          have HBR := Lib.hid (hBp.trans (hb.mono hpb))
          have HBw := Lib.hid hb
          have hc1 := HC1.out
          rw [hsn.out, if_pos rfl] at hc1
          have HC2 := Lib.hid hc1
          have hcw : wr.cell? ⟨gp, 0, none⟩ = some (.int .i64 ((ps[0]'(by omega) : Nat) : Int)) := (hb.cell (p := ⟨gp, 0, none⟩) hgpB).trans (HCP.out 0 (by omega))
          have h0f : ((ps[0]'(by omega) : Nat) : Int) = 1 + 8 * (kk : Int) / 12 := by simp [HPE.out, HF.out]
          rw [h0f] at hcw
          have hxi := HXI.out
          clear ho hsn hK8 hK255 hRD hpt hb hc1 h0f hq hlt hxN
          cases hfk : fkOk (skK l kk)
          · have hc3 := HC2.out
            rw [hfk, if_neg (by decide)] at hc3
            have hp3 := HPT.out
            rw [hfk] at hp3
            have HC3 := Lib.hid hc3
            have HP3 := Lib.hid hp3
            clear hc3 hp3 hfk HPT
            go_wp2_with (go_at_call 43; refine HP3.out.mono ?_; rintro e w9 ⟨rfl, hb9⟩; have HB9 := Lib.hid hb9; clear hb9)
            go_ret3
            obtain ⟨e1', e2', e3'⟩ := skNone HC3.out (by decide)
            rw [e1', e2', e3', HC3.out]
            exact GivesSeek.empty 5 (HBR.out.trans (HB9.out.mono HBR.out.size))
          · have hc3 := HC2.out
            rw [hfk, if_pos rfl] at hc3
            have hp3 := HPT.out
            rw [hfk] at hp3
            have HC3 := Lib.hid hc3
            have HP3 := Lib.hid hp3
            clear hc3 hp3 hfk HPT
            go_wp2_with (go_at_call 43; refine HP3.out.mono ?_; rintro e w9 ⟨rfl, hb9⟩; have HB9 := Lib.hid hb9; clear hb9)
            go_ret3
            have q1' := HRE.out
            have q2' := HIM.out
            have q3' := HPL.out
            rw [if_pos HC3.out] at q1' q2' q3'
            rw [q1', q2', q3', HC3.out]
            have ow := own_below (own_below HO0.out HBw.out (Nat.le_refl _)) HB9.out (Nat.le_refl _)
            obtain ⟨A9, c9, e9, hO9⟩ := Own.of_row ow
            cases e9
            refine ⟨some ⟨gp, 0, none⟩, cp, ?_, ?_, HBR.out.trans (HB9.out.mono HBR.out.size)⟩
            · rw [List.length_map, hpm]
              rfl
            · rw [List.length_map, hpm]
              exact hO9
    · have hc1 := HC.out
      rw [if_neg hL] at hc1
      have HC1 := Lib.hid hc1
      have hLI : (n : Int) ≤ ((la : Nat) : Int) := by omega
      clear hc1 e1 own0
      go_wp2_with fail
      go_ret3
      obtain ⟨e1', e2', e3'⟩ := skNone HC1.out (by decide)
      rw [e1', e2', e3', HC1.out]
      exact GivesSeek.empty 5 hBp
end Go.Proofs.Ytigjdcfdgifonaa
