/- Masks joined, met, taken away; what pictures become. No program in sight. -/
import Derived.Test.YtmagaapdijapiaaDoorRows
import Derived.Test.YtmagaapdijapiaaDoorTp
namespace Go.Proofs.YtmagaapdijapiaaDoor
open Go.ChangeShapes Go.WideShapes Go.ChangeAt Go.RowKit
theorem zr16_at (i : Nat) (h : i < zr16.length) : zr16[i] = 0 := by simp only [zr16, List.getElem_replicate]
theorem zr16_len : zr16.length = 16 := rfl
/-- masks, row by row -/
def opM (f : Int → Int → Int) (a b : List Int) : List Int := List.zipWith f a b
def orF (x y : Int) : Int := bits .or .u16 x y
def andF (x y : Int) : Int := bits .and .u16 x y
def notF (x y : Int) : Int := bits .andNot .u16 x y
/-- what is asked of a way to make a row of two -/
structure Way (f : Int → Int → Int) : Prop where
  range : ∀ x y, 0 ≤ f x y ∧ f x y < 65536
  zero : f 0 0 = 0
theorem wrap16 (n : Int) : 0 ≤ IntKind.u16.wrap n ∧ IntKind.u16.wrap n < 65536 := by
  rw [IntKind.wrap_u16]
  omega
theorem orF_way : Way orF := ⟨fun _ _ => wrap16 _, by rw [orF, u16_or 0 0 (by decide) (by decide) (by decide) (by decide)]; rfl⟩
theorem andF_way : Way andF := ⟨fun _ _ => wrap16 _, by rw [andF, u16_and 0 0 (by decide) (by decide) (by decide) (by decide)]; rfl⟩
theorem notF_way : Way notF := ⟨fun _ _ => wrap16 _, by rw [notF, u16_andNot 0 0 (by decide) (by decide) (by decide) (by decide)]; rfl⟩
theorem opM_length {f : Int → Int → Int} {a b : List Int} (ha : a.length = 16) (hb : b.length = 16) : (opM f a b).length = 16 := by
  rw [opM, List.length_zipWith, ha, hb]
  rfl
theorem opM_16 {f : Int → Int → Int} (hf : Way f) (a b : List Int) : is16 (opM f a b) := fun x hx => by
  obtain ⟨i, hi, rfl⟩ := List.getElem_of_mem hx
  simp only [opM, List.getElem_zipWith]
  exact hf.range _ _
theorem opM_zero {f : Int → Int → Int} (hf : Way f) : opM f zr16 zr16 = zr16 := by
  apply List.ext_getElem (by rw [opM_length rfl rfl, zr16_len])
  intro i h1 h2
  simp only [opM, List.getElem_zipWith, zr16_at, hf.zero]
theorem zr16_16 : is16 zr16 := fun x hx => by
  have : x = 0 := by simpa [zr16] using hx
  omega
theorem orF_zl {x : Int} (h0 : 0 ≤ x) (h1 : x < 65536) : orF 0 x = x := by
  rw [orF, u16_or 0 x (by decide) (by decide) h0 h1, show (0 : Int).toNat = 0 from rfl, Nat.zero_or]
  omega
theorem orF_zr {x : Int} (h0 : 0 ≤ x) (h1 : x < 65536) : orF x 0 = x := by
  rw [orF, u16_or x 0 h0 h1 (by decide) (by decide), show (0 : Int).toNat = 0 from rfl, Nat.or_zero]
  omega
theorem andF_zl {x : Int} (h0 : 0 ≤ x) (h1 : x < 65536) : andF 0 x = 0 := by
  rw [andF, u16_and 0 x (by decide) (by decide) h0 h1, show (0 : Int).toNat = 0 from rfl, Nat.zero_and]
  rfl
theorem notF_zl {x : Int} (h0 : 0 ≤ x) (h1 : x < 65536) : notF 0 x = 0 := by
  rw [notF, u16_andNot 0 x (by decide) (by decide) h0 h1, show (0 : Int).toNat = 0 from rfl, Nat.zero_and]
  rfl
theorem orF_void {x y : Int} (h0 : 0 ≤ x) (h1 : x < 65536) (h2 : 0 ≤ y) (h3 : y < 65536) (h : orF x y = 0) : x = 0 := by
  rw [orF, u16_or x y h0 h1 h2 h3] at h
  have h4 : x.toNat ||| y.toNat = 0 := by omega
  have h5 : x.toNat ≤ x.toNat ||| y.toNat := Nat.left_le_or
  omega
theorem opM_left {f : Int → Int → Int} {a : List Int} {z : Int → Int} (h : ∀ x, 0 ≤ x → x < 65536 → f 0 x = z x) (ha : a.length = 16) (h16 : is16 a) : opM f zr16 a = a.map z := by
  apply List.ext_getElem (by rw [opM_length rfl ha, List.length_map, ha])
  intro i h1 h2
  have := h16 (a[i]'(by simpa using h2)) (List.getElem_mem _)
  simp only [opM, List.getElem_zipWith, zr16_at, List.getElem_map]
  exact h _ this.1 this.2
theorem orM_zl {a : List Int} (ha : a.length = 16) (h16 : is16 a) : opM orF zr16 a = a := by
  rw [opM_left (z := id) (fun x h0 h1 => orF_zl h0 h1) ha h16, List.map_id]
theorem zeros {a : List Int} (ha : a.length = 16) : a.map (fun _ => (0 : Int)) = zr16 := by
  rw [List.map_const', ha]
  rfl
theorem andM_zl {a : List Int} (ha : a.length = 16) (h16 : is16 a) : opM andF zr16 a = zr16 := by
  rw [opM_left (z := fun _ => 0) (fun x h0 h1 => andF_zl h0 h1) ha h16, zeros ha]
theorem notM_zl {a : List Int} (ha : a.length = 16) (h16 : is16 a) : opM notF zr16 a = zr16 := by
  rw [opM_left (z := fun _ => 0) (fun x h0 h1 => notF_zl h0 h1) ha h16, zeros ha]
theorem orM_zr {a : List Int} (ha : a.length = 16) (h16 : is16 a) : opM orF a zr16 = a := by
  apply List.ext_getElem (by rw [opM_length ha rfl, ha])
  intro i h1 h2
  have := h16 a[i] (List.getElem_mem _)
  simp only [opM, List.getElem_zipWith, zr16_at]
  exact orF_zr this.1 this.2
theorem orM_noVoid {a b : List Int} (ha : a.length = 16) (hb : b.length = 16) (h16 : is16 a) (h16' : is16 b) (h : a ≠ zr16) : opM orF a b ≠ zr16 := fun e => h (by
  apply List.ext_getElem (by rw [ha, zr16_len])
  intro i h1 h2
  have hi : i < 16 := by omega
  have e1 : (opM orF a b)[i]'(by rw [opM_length ha hb]; exact hi) = 0 := by
    simp only [e]
    exact zr16_at i _
  simp only [opM, List.getElem_zipWith] at e1
  have x1 := h16 a[i] (List.getElem_mem _)
  have x2 := h16' (b[i]'(by omega)) (List.getElem_mem _)
  rw [orF_void x1.1 x1.2 x2.1 x2.2 e1, zr16_at])
/-! ### pictures -/
structure Pic (l : List Bl) : Prop where
  rising : Rising l
  noVoid : NoVoid l
  bls : Bls l
  m16 : ∀ b ∈ l, is16 b.2
theorem Pic.apart {l : List Bl} (h : Pic l) : Apart l := apart_of_rising h.rising
theorem Pic.nil : Pic [] := ⟨List.Pairwise.nil, fun b hb => (by cases hb), fun b hb => (by cases hb), fun b hb => (by cases hb)⟩
theorem maskAt_ok {l : List Bl} (hl : Bls l) (h16 : ∀ b ∈ l, is16 b.2) (k : List Int) : (maskAt l k).length = 16 ∧ is16 (maskAt l k) := by
  by_cases h : maskAt l k = zr16
  · rw [h]
    exact ⟨rfl, zr16_16⟩
  · have := mem_of_maskAt h
    exact ⟨(hl _ this).2, h16 _ this⟩
/-- what a list of blocks becomes when a mask is joined at a corner -/
def Added (l : List Bl) (at_ : List Int) (m : List Int) (l' : List Bl) : Prop := Pic l' ∧ l'.length ≤ l.length + 1 ∧ ∀ key, maskAt l' key = if key = at_ then opM orF (maskAt l at_) m else maskAt l key
theorem added_void {l : List Bl} (h : Pic l) (at_ : List Int) : Added l at_ zr16 l := ⟨h, Nat.le_succ _, fun key => by
  obtain ⟨h1, h2⟩ := maskAt_ok h.bls h.m16 at_
  rw [orM_zr h1 h2]
  split
  · rename_i e; rw [e]
  · rfl⟩
theorem added_set {l : List Bl} (h : Pic l) {m : List Int} (hm : m.length = 16) (hm16 : is16 m) {i : Nat} (hi : i < l.length) : Added l l[i].1 m (l.set i (l[i].1, opM orF l[i].2 m)) := by
  have hb := h.bls _ (List.getElem_mem hi)
  have hb16 := h.m16 _ (List.getElem_mem hi)
  have hmem : ∀ b ∈ l.set i (l[i].1, opM orF l[i].2 m), b ∈ l ∨ b = (l[i].1, opM orF l[i].2 m) := fun b hb => List.mem_or_eq_of_mem_set hb
  refine ⟨⟨rising_keys h.rising (set_keys hi _), fun b hb' => ?_, fun b hb' => ?_, fun b hb' => ?_⟩, by rw [List.length_set]; exact Nat.le_succ _, fun key => ?_⟩
  · rcases hmem b hb' with h1 | rfl
    · exact h.noVoid b h1
    · exact orM_noVoid hb.2 hm hb16 hm16 (h.noVoid _ (List.getElem_mem hi))
  · rcases hmem b hb' with h1 | rfl
    · exact h.bls b h1
    · exact ⟨hb.1, opM_length hb.2 hm⟩
  · rcases hmem b hb' with h1 | rfl
    · exact h.m16 b h1
    · exact opM_16 orF_way _ _
  · rw [set_mask h.apart hi, maskAt_of_mem h.apart (List.getElem_mem hi)]
theorem added_ins {l : List Bl} (h : Pic l) {at_ m : List Int} (ha : at_.length = 2) (hm : m.length = 16) (hm16 : is16 m) (hv : m ≠ zr16) (hno : ∀ c ∈ l, at_ ≠ c.1) {k : Nat} (hk : k ≤ l.length) (h1 : ∀ c ∈ l.drop k, ltC (at_, m) c) (h2 : ∀ (h0 : 0 < k), ltC (l[k - 1]'(by omega)) (at_, m)) : Added l at_ m (l.take k ++ (at_, m) :: l.drop k) := by
  have hmem : ∀ b ∈ l.take k ++ (at_, m) :: l.drop k, b ∈ l ∨ b = (at_, m) := fun b hb => by
    rcases List.mem_append.1 hb with hb | hb
    · exact .inl (List.mem_of_mem_take hb)
    · rcases List.mem_cons.1 hb with rfl | hb
      · exact .inr rfl
      · exact .inl (List.mem_of_mem_drop hb)
  refine ⟨⟨ins_rising h.rising hk h1 h2, fun b hb' => ?_, fun b hb' => ?_, fun b hb' => ?_⟩, by rw [List.length_append, List.length_take, List.length_cons, List.length_drop]; omega, fun key => ?_⟩
  · rcases hmem b hb' with h1 | rfl
    · exact h.noVoid b h1
    · exact hv
  · rcases hmem b hb' with h1 | rfl
    · exact h.bls b h1
    · exact ⟨ha, hm⟩
  · rcases hmem b hb' with h1 | rfl
    · exact h.m16 b h1
    · exact hm16
  · rw [ins_mask hno, maskAt_no hno, orM_zl hm hm16]
/-! ### joined -/
def JoinTo (a b : List Bl) (i : Nat) (out : List Bl) : Prop := Pic out ∧ out.length ≤ a.length + i ∧ ∀ key, maskAt out key = opM orF (maskAt a key) (maskAt (b.take i) key)
theorem joinTo_zero {a : List Bl} (b : List Bl) (h : Pic a) : JoinTo a b 0 a := ⟨h, by omega, fun key => by
  obtain ⟨h1, h2⟩ := maskAt_ok h.bls h.m16 key
  rw [List.take_zero, maskAt_nil, orM_zr h1 h2]⟩
theorem maskAt_take_succ {b : List Bl} (h : Apart b) {i : Nat} (hi : i < b.length) (key : List Int) : maskAt (b.take (i + 1)) key = if key = b[i].1 then b[i].2 else maskAt (b.take i) key := by
  have hap : ∀ c ∈ b.take i, b[i].1 ≠ c.1 := fun c hc e => by
    obtain ⟨j, hj, rfl⟩ := List.getElem_of_mem hc
    rw [List.length_take] at hj
    rw [List.getElem_take] at e
    exact List.pairwise_iff_getElem.1 h j i (by omega) hi (by omega) e.symm
  rw [List.take_succ_eq_append_getElem hi]
  by_cases e : key = b[i].1
  · rw [if_pos e, maskAt_append _ _ _ (fun c hc => by rw [e]; exact hap c hc), maskAt_cons, if_pos e]
  · rw [if_neg e]
    by_cases hx : ∃ c ∈ b.take i, key = c.1
    · rw [maskAt_left hx]
    · rw [maskAt_append _ _ _ (fun c hc h => hx ⟨c, hc, h⟩), maskAt_cons, if_neg e, maskAt_nil, maskAt_no (fun c hc h => hx ⟨c, hc, h⟩)]
theorem maskAt_take_self {b : List Bl} (h : Apart b) {i : Nat} (hi : i < b.length) : maskAt (b.take i) b[i].1 = zr16 := maskAt_no fun c hc e => by
  obtain ⟨j, hj, rfl⟩ := List.getElem_of_mem hc
  rw [List.length_take] at hj
  rw [List.getElem_take] at e
  exact List.pairwise_iff_getElem.1 h j i (by omega) hi (by omega) e.symm
theorem joinTo_succ {a b out out' : List Bl} (ha : Pic a) (hb : Apart b) {i : Nat} (hi : i < b.length) (h : JoinTo a b i out) (h2 : Added out b[i].1 b[i].2 out') : JoinTo a b (i + 1) out' := by
  refine ⟨h2.1, by have := h.2.1; have := h2.2.1; omega, fun key => ?_⟩
  rw [h2.2.2, maskAt_take_succ hb hi]
  by_cases e : key = b[i].1
  · obtain ⟨h3, h4⟩ := maskAt_ok ha.bls ha.m16 b[i].1
    rw [if_pos e, if_pos e, h.2.2, maskAt_take_self hb hi, orM_zr h3 h4, e]
  · rw [if_neg e, if_neg e, h.2.2]
/-! ### met, taken away -/
def mixL (f : Int → Int → Int) (a b : List Bl) : List Bl := a.map fun x => (x.1, opM f x.2 (maskAt b x.1))
theorem maskAt_mix {f : Int → Int → Int} (hz : ∀ m : List Int, m.length = 16 → is16 m → opM f zr16 m = zr16) (a : List Bl) {b : List Bl} (hb : Bls b) (h16 : ∀ x ∈ b, is16 x.2) (key : List Int) : maskAt (mixL f a b) key = opM f (maskAt a key) (maskAt b key) := by
  induction a with
  | nil =>
    obtain ⟨h1, h2⟩ := maskAt_ok hb h16 key
    rw [maskAt_nil, hz _ h1 h2]
    rfl
  | cons x a ih =>
    have e : mixL f (x :: a) b = (x.1, opM f x.2 (maskAt b x.1)) :: mixL f a b := rfl
    rw [e, maskAt_cons, maskAt_cons, ih]
    by_cases h : key = x.1
    · simp [h]
    · simp [h]
def MixTo (f : Int → Int → Int) (a b : List Bl) (i : Nat) (out : List Bl) : Prop := Pic out ∧ out.length ≤ i ∧ ∀ key, maskAt out key = maskAt (mixL f (a.take i) b) key
theorem mixTo_zero (f : Int → Int → Int) (a b : List Bl) : MixTo f a b 0 [] := ⟨Pic.nil, Nat.le_refl _, fun _ => rfl⟩
theorem mixTo_succ {f : Int → Int → Int} (hf : Way f) {a b out out' : List Bl} (ha : Bls a) (hap : Apart a) (hb : Bls b) {i : Nat} (hi : i < a.length) (h16b : ∀ x ∈ b, is16 x.2) (h : MixTo f a b i out) (h2 : Added out a[i].1 (opM f a[i].2 (maskAt b a[i].1)) out') : MixTo f a b (i + 1) out' := by
  have hk : (mixL f a b).length = a.length := by rw [mixL, List.length_map]
  have hm : Apart (mixL f a b) := apart_keys hap (by rw [mixL, List.map_map]; rfl)
  have ht : ∀ j, mixL f (a.take j) b = (mixL f a b).take j := fun j => by rw [mixL, mixL, List.map_take]
  have hi' : i < (mixL f a b).length := by omega
  have hg : (mixL f a b)[i] = (a[i].1, opM f a[i].2 (maskAt b a[i].1)) := by simp only [mixL, List.getElem_map]
  refine ⟨h2.1, by have := h.2.1; have := h2.2.1; omega, fun key => ?_⟩
  obtain ⟨h3, h4⟩ := maskAt_ok hb h16b a[i].1
  rw [h2.2.2, ht, maskAt_take_succ hm hi', hg]
  by_cases e : key = a[i].1
  · have hz := maskAt_take_self hm hi'
    rw [hg] at hz
    rw [if_pos e, if_pos e, h.2.2, ht, hz, orM_zl (opM_length (ha _ (List.getElem_mem hi)).2 h3) (opM_16 hf _ _)]
  · rw [if_neg e, if_neg e, h.2.2, ht]
/-! ### a table of masks, in whatever order -/
def tabL (F : List Int → List Int) (ks : List (List Int)) : List Bl := ks.map fun k => (k, F k)
theorem maskAt_tab (F : List Int → List Int) (ks : List (List Int)) (key : List Int) : maskAt (tabL F ks) key = if key ∈ ks then F key else zr16 := by
  induction ks with
  | nil => rfl
  | cons k ks ih =>
    have e : tabL F (k :: ks) = (k, F k) :: tabL F ks := rfl
    rw [e, maskAt_cons, ih]
    by_cases h : key = k
    · simp [h]
    · simp [h]
theorem tab_apart {F : List Int → List Int} {ks : List (List Int)} (h : ks.Nodup) : Apart (tabL F ks) := by
  rw [tabL, Apart, List.pairwise_map]
  exact h
/-! ### cells that are put in -/
def cornerL (c : List Int) : List Int := [c.getD 0 0 / 16, c.getD 1 0 / 16]
def setOr (M : List Int) (y x : Nat) : List Int := M.set y (orF (M.getD y 0) (2 ^ x))
def putC (M : List Int) (c : List Int) : List Int := setOr M (c.getD 1 0 % 16).toNat (c.getD 0 0 % 16).toNat
def toldM (cs : List (List Int)) (key : List Int) : List Int := cs.foldl (fun M c => if key = cornerL c then putC M c else M) zr16
theorem toldM_succ (cs : List (List Int)) {i : Nat} (hi : i < cs.length) (key : List Int) : toldM (cs.take (i + 1)) key = if key = cornerL cs[i] then putC (toldM (cs.take i) key) cs[i] else toldM (cs.take i) key := by
  rw [toldM, List.take_succ_eq_append_getElem hi, List.foldl_append]
  rfl
theorem pow_16 {x : Nat} (hx : x < 16) : (0 : Int) ≤ 2 ^ x ∧ (2 : Int) ^ x < 65536 := by
  have h1 : (2 : Nat) ^ x < 2 ^ 16 := Nat.pow_lt_pow_right (by decide) hx
  have h2 : ((2 ^ x : Nat) : Int) = (2 : Int) ^ x := by simp
  rw [← h2]
  generalize (2 : Nat) ^ x = q at *
  have h3 : (2 : Nat) ^ 16 = 65536 := by decide
  omega
theorem setOr_eq {M : List Int} (hM : M.length = 16) (h16 : is16 M) {y x : Nat} (_hy : y < 16) (_hx : x < 16) : opM orF M (zr16.set y (2 ^ x)) = setOr M y x := by
  apply List.ext_getElem (by rw [opM_length hM (by rw [List.length_set]; rfl), setOr, List.length_set, hM])
  intro i h1 h2
  have hi : i < M.length := by simpa [setOr] using h2
  have hr := h16 M[i] (List.getElem_mem _)
  simp only [opM, setOr, List.getElem_zipWith, List.getElem_set]
  by_cases e : y = i
  · subst e
    simp [hi]
  · rw [if_neg e, if_neg e, zr16_at]
    exact orF_zr hr.1 hr.2
theorem setOr_length {M : List Int} (hM : M.length = 16) (y x : Nat) : (setOr M y x).length = 16 := by rw [setOr, List.length_set, hM]
theorem setOr_16 {M : List Int} (h16 : is16 M) (y x : Nat) : is16 (setOr M y x) := fun v hv => by
  rcases List.mem_or_eq_of_mem_set hv with h | rfl
  · exact h16 v h
  · exact orF_way.range _ _
theorem toldM_ok : ∀ (cs : List (List Int)) (key : List Int), (toldM cs key).length = 16 ∧ is16 (toldM cs key) := fun cs key => by
  have : ∀ (cs : List (List Int)) (M : List Int), M.length = 16 → is16 M → (cs.foldl (fun M c => if key = cornerL c then putC M c else M) M).length = 16 ∧ is16 (cs.foldl (fun M c => if key = cornerL c then putC M c else M) M) := by
    intro cs
    induction cs with
    | nil => intro M h1 h2; exact ⟨h1, h2⟩
    | cons c cs ih =>
      intro M h1 h2
      rw [List.foldl_cons]
      split
      · exact ih _ (setOr_length h1 _ _) (setOr_16 h2 _ _)
      · exact ih _ h1 h2
  exact this cs zr16 rfl zr16_16
theorem spot_noVoid {y x : Nat} (hy : y < 16) : zr16.set y (2 ^ x) ≠ zr16 := fun e => by
  have hp : (0 : Int) < 2 ^ x := Int.pow_pos (by decide)
  have hl : y < zr16.length := hy
  have h1 : (zr16.set y (2 ^ x)).getD y 0 = zr16.getD y 0 := by rw [e]
  rw [List.getD_eq_getElem?_getD, List.getD_eq_getElem?_getD, List.getElem?_set_self hl, List.getElem?_eq_getElem hl, zr16_at] at h1
  simp only [Option.getD_some] at h1
  omega
theorem spot_16 {y x : Nat} (hx : x < 16) : is16 (zr16.set y (2 ^ x)) := fun v hv => by
  rcases List.mem_or_eq_of_mem_set hv with h | rfl
  · exact zr16_16 v h
  · exact pow_16 hx
def SpotTo (cs : List (List Int)) (i : Nat) (out : List Bl) : Prop := Pic out ∧ out.length ≤ i ∧ ∀ key, maskAt out key = toldM (cs.take i) key
theorem spotTo_zero (cs : List (List Int)) : SpotTo cs 0 [] := ⟨Pic.nil, Nat.le_refl _, fun _ => rfl⟩
theorem spotTo_succ {cs : List (List Int)} {out out' : List Bl} {i : Nat} (hi : i < cs.length) (h : SpotTo cs i out) (h2 : Added out (cornerL cs[i]) (zr16.set (cs[i].getD 1 0 % 16).toNat (2 ^ (cs[i].getD 0 0 % 16).toNat)) out') : SpotTo cs (i + 1) out' := by
  refine ⟨h2.1, by have := h.2.1; have := h2.2.1; omega, fun key => ?_⟩
  obtain ⟨h3, h4⟩ := maskAt_ok h.1.bls h.1.m16 (cornerL cs[i])
  rw [h2.2.2, toldM_succ cs hi]
  by_cases e : key = cornerL cs[i]
  · rw [if_pos e, if_pos e, setOr_eq h3 h4 (by omega) (by omega), h.2.2, e]
    rfl
  · rw [if_neg e, if_neg e, h.2.2]
end Go.Proofs.YtmagaapdijapiaaDoor
