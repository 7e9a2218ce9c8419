/- Frames, plain: what is packed is found again; one bit that is changed is seen at its place, and there alone. No program in sight. -/
import Derived.Test.YtmagaapdijapiaaUe
import Derived.Test.YtmagaapdijapiaaMn
import Derived.Test.YtmagaapdijapiaaSp
import Derived.Test.YtmagaapdijapiaaGa
import Derived.Test.YtmagaapdijapiaaHa
import Derived.Laws.BitsAllLaws
namespace Go.Proofs.Ytmagaapdijapiaa
open Go.ChangeShapes Go.WideShapes Go.ChangeAt Go.RowKit

/-! ### the check tells two payloads that differ in one byte apart -/
def u32r (x : Int) : Prop := 0 ≤ x ∧ x < 4294967296
theorem mul_inj_gen {x y p inv M t : Int} (hM : p * inv = 1 + M * t) (hx0 : 0 ≤ x) (hx1 : x < M) (hy0 : 0 ≤ y) (hy1 : y < M) (h : x * p % M = y * p % M) : x = y := by
  obtain ⟨k, hk⟩ := Int.dvd_of_emod_eq_zero (Int.emod_eq_emod_iff_emod_sub_eq_zero.1 h)
  have h2 : (x - y) * (1 + M * t) = M * (k * inv) := by rw [← hM, ← Int.mul_assoc, Int.sub_mul, hk, Int.mul_assoc]
  have h3 : x - y = M * (k * inv - (x - y) * t) := by
    rw [Int.mul_sub, ← h2, Int.mul_add, Int.mul_one, ← Int.mul_assoc (x - y) M t, Int.mul_comm (x - y) M, Int.mul_assoc]
    omega
  generalize k * inv - (x - y) * t = q at h3
  have hM0 : 0 < M := by omega
  rcases Int.lt_trichotomy q 0 with hq | hq | hq
  · have := Int.mul_le_mul_of_nonneg_left (show q ≤ -1 by omega) (Int.le_of_lt hM0)
    omega
  · subst hq
    omega
  · have := Int.mul_le_mul_of_nonneg_left (show 1 ≤ q by omega) (Int.le_of_lt hM0)
    omega
theorem mul_inj {x y : Int} (hx : u32r x) (hy : u32r y) (h : x * 16777619 % 4294967296 = y * 16777619 % 4294967296) : x = y :=
  mul_inj_gen (inv := 899433627) (t := 3513497) (by decide) hx.1 hx.2 hy.1 hy.2 h
theorem xor_cancel {a b c : Nat} (h : a ^^^ c = b ^^^ c) : a = b := by
  have := congrArg (· ^^^ c) h
  simpa [Nat.xor_assoc] using this
theorem fnvStep_range (c b : Int) : u32r (fnvStep c b) := by
  unfold fnvStep u32r
  omega
theorem fnvStep_xor {c b : Int} (hc : u32r c) (hb : 0 ≤ b ∧ b ≤ 255) : fnvStep c b = ((c.toNat ^^^ b.toNat : Nat) : Int) * 16777619 % 4294967296 := by
  obtain ⟨h0, h1⟩ := hc
  obtain ⟨g0, g1⟩ := hb
  rw [fnvStep, Int.emod_eq_of_lt g0 (by omega), u32_xor c b h0 h1 g0 (by omega)]
theorem xor_range {c b : Nat} (hc : c < 4294967296) (hb : b < 4294967296) : u32r ((c ^^^ b : Nat) : Int) := by
  have : c ^^^ b < 2 ^ 32 := Nat.xor_lt_two_pow (by omega) (by omega)
  unfold u32r
  omega
theorem fnvStep_inj {c c' b b' : Int} (hc : u32r c) (hc' : u32r c') (hb : 0 ≤ b ∧ b ≤ 255) (hb' : 0 ≤ b' ∧ b' ≤ 255) (h : fnvStep c b = fnvStep c' b') : c.toNat ^^^ b.toNat = c'.toNat ^^^ b'.toNat := by
  rw [fnvStep_xor hc hb, fnvStep_xor hc' hb'] at h
  have h0 := hc
  have h1 := hc'
  unfold u32r at h0 h1
  exact Int.ofNat_inj.1 (mul_inj (xor_range (by omega) (by omega)) (xor_range (by omega) (by omega)) h)
theorem fnv_inj : ∀ {l : List Int} {c c' : Int}, is255 l → u32r c → u32r c' → l.foldl fnvStep c = l.foldl fnvStep c' → c = c'
  | [], _, _, _, _, _, h => h
  | b :: l, c, c', hl, hc, hc', h => by
    have h1 := fnv_inj (fun x hx => hl x (List.mem_cons_of_mem _ hx)) (fnvStep_range c b) (fnvStep_range c' b) h
    have hb := hl b (List.mem_cons_self ..)
    have h2 := xor_cancel (fnvStep_inj hc hc' hb hb h1)
    unfold u32r at hc hc'
    omega
theorem fnv_range : ∀ (l : List Int) (c : Int), u32r c → u32r (l.foldl fnvStep c)
  | [], _, h => h
  | b :: l, c, _ => fnv_range l (fnvStep c b) (fnvStep_range c b)
theorem fnv_differ {a r : List Int} {x y c : Int} (hc : u32r c) (hr : is255 r) (hx : 0 ≤ x ∧ x ≤ 255) (hy : 0 ≤ y ∧ y ≤ 255) (hxy : x ≠ y) : (a ++ x :: r).foldl fnvStep c ≠ (a ++ y :: r).foldl fnvStep c := by
  intro h
  rw [List.foldl_append, List.foldl_append, List.foldl_cons, List.foldl_cons] at h
  have h1 := fnv_inj hr (fnvStep_range _ _) (fnvStep_range _ _) h
  have hm := fnv_range a c hc
  have h2 := fnvStep_inj hm hm hx hy h1
  rw [Nat.xor_comm, Nat.xor_comm (Int.toNat _) y.toNat] at h2
  have := xor_cancel h2
  omega
theorem four_inj {a b : Int} (ha : u32r a) (hb : u32r b) (h : four a = four b) : a = b := by
  simp only [four, List.cons.injEq, and_true] at h
  unfold u32r at ha hb
  omega
theorem four_255 (n : Int) : is255 (four n) := fun x hx => by
  simp only [four, List.mem_cons, List.not_mem_nil, or_false] at hx
  omega
theorem num4_four {n : Int} (h : u32r n) : num4 (n / 16777216 % 256) (n / 65536 % 256) (n / 256 % 256) (n % 256) = n := by
  unfold num4 u32r at *
  omega
theorem chk_range (n : Int) (p : List Int) : u32r (chk n p) := fnv_range _ _ (by unfold u32r; omega)
theorem chk_set {n : Int} {p : List Int} {j : Nat} {y : Int} (hp : is255 p) (hj : j < p.length) (hy : 0 ≤ y ∧ y ≤ 255) (hne : p[j] ≠ y) : chk n (p.set j y) ≠ chk n p := by
  have e1 : p = p.take j ++ p[j] :: p.drop (j + 1) := by rw [← List.drop_eq_getElem_cons hj, List.take_append_drop]
  have e2 : p.set j y = p.take j ++ y :: p.drop (j + 1) := by rw [List.set_eq_take_append_cons_drop, if_pos hj]
  unfold chk fnv
  conv => rhs; rw [e1]
  rw [e2, ← List.append_assoc, ← List.append_assoc]
  exact fun h => fnv_differ (by unfold u32r; omega) (fun x hx => hp x (List.mem_of_mem_drop hx)) (hp _ (List.getElem_mem hj)) hy hne h.symm

/-! ### a frame, and a frame with one byte changed -/
theorem mk_take {n : Int} {p : List Int} (hp : p.length = 12) : (mk n p).take 12 = p := by
  rw [mk, ← hp, List.take_left]
theorem mk_255 {n : Int} {p : List Int} (hp : is255 p) : is255 (mk n p) := fun x hx => by
  rcases List.mem_append.1 hx with h | h
  · exact hp x h
  · exact four_255 _ x h
theorem sound_mk {n : Int} {p : List Int} (hp : p.length = 12) : soundB n (mk n p) = true := by
  rw [soundB, mk_take hp]
  exact beq_self_eq_true _
theorem sound_set {n : Int} {p : List Int} (hp : p.length = 12) (h255 : is255 p) {j : Nat} (hj : j < 16) {y : Int} (hy : 0 ≤ y ∧ y ≤ 255) (hne : (mk n p).getD j 0 ≠ y) : soundB n ((mk n p).set j y) = false := by
  rw [soundB, beq_eq_false_iff_ne]
  have hl := mk_length (n := n) hp
  have hg : (mk n p).getD j 0 = (mk n p)[j]'(by omega) := by rw [List.getD_eq_getElem?_getD, List.getElem?_eq_getElem (by omega)]; rfl
  rw [hg] at hne
  intro h
  by_cases h12 : j < 12
  · have e1 : (mk n p).set j y = p.set j y ++ four (chk n p) := by rw [mk, List.set_append_left _ _ (by omega)]
    have e2 : ((mk n p).set j y).take 12 = p.set j y := by rw [e1, List.take_append_of_le_length (by simp [hp]), List.take_of_length_le (by simp [hp])]
    rw [e2, e1, mk] at h
    have h3 := List.append_cancel_left h
    have hpj : p[j]'(by omega) ≠ y := by
      rw [show (mk n p)[j]'(by omega) = p[j]'(by omega) from List.getElem_append_left (by omega)] at hne
      exact hne
    exact chk_set h255 (by omega) hy hpj (four_inj (chk_range _ _) (chk_range _ _) h3)
  · have e1 : (mk n p).set j y = p ++ (four (chk n p)).set (j - p.length) y := by rw [mk, List.set_append_right _ _ (by omega)]
    have e2 : ((mk n p).set j y).take 12 = p := by rw [e1, ← hp, List.take_left]
    rw [e2] at h
    have h2 := congrArg (fun l => l[j]?) h
    simp only [List.getElem?_set_self (show j < (mk n p).length by omega), List.getElem?_eq_getElem (show j < (mk n p).length by omega), Option.some.injEq] at h2
    exact hne h2
theorem flipAt_range {x : Int} (h : 0 ≤ x ∧ x ≤ 255) (t : Nat) : 0 ≤ flipAt x t ∧ flipAt x t ≤ 255 ∧ x ≠ flipAt x t := by
  obtain ⟨h0, h1⟩ := h
  have ht : t % 8 < 8 := Nat.mod_lt _ (by omega)
  have hc : (2 ^ (t % 8) % 256 : Int) = ((2 ^ (t % 8) : Nat) : Int) ∧ 2 ^ (t % 8) < 256 ∧ 0 < 2 ^ (t % 8) := by
    rcases (by omega : t % 8 = 0 ∨ t % 8 = 1 ∨ t % 8 = 2 ∨ t % 8 = 3 ∨ t % 8 = 4 ∨ t % 8 = 5 ∨ t % 8 = 6 ∨ t % 8 = 7) with e | e | e | e | e | e | e | e <;> rw [e] <;> exact ⟨by decide, by decide, by decide⟩
  obtain ⟨c1, c2, c3⟩ := hc
  rw [flipAt, c1]
  obtain ⟨m, rfl⟩ := Int.eq_ofNat_of_zero_le h0
  rw [u8_xor_nat m _ (by omega) c2]
  generalize 2 ^ (t % 8) = q at c2 c3
  have : m ^^^ q < 2 ^ 8 := Nat.xor_lt_two_pow (by omega) (by omega)
  refine ⟨by omega, by omega, fun h => ?_⟩
  have h2 : m ^^^ q = 0 ^^^ m := by rw [Nat.zero_xor]; omega
  rw [Nat.xor_comm m q] at h2
  have := xor_cancel h2
  omega

/-! ### a file -/
theorem packTo_getD {all : List Int} {k i : Nat} (h : i < k) : (packTo all k).getD i [] = mk i ((all.drop (i * 12)).take 12) := by
  rw [List.getD_eq_getElem?_getD, packTo, List.getElem?_map, List.getElem?_range h]
  rfl
theorem chunk_len {all : List Int} {k i : Nat} (h : i < k) (ha : all.length = k * 12) : ((all.drop (i * 12)).take 12).length = 12 := by
  rw [List.length_take, List.length_drop]
  omega
theorem packTo_sound {all : List Int} {k i : Nat} (h : i < k) (ha : all.length = k * 12) : soundB i ((packTo all k).getD i []) = true := by
  rw [packTo_getD h]
  exact sound_mk (chunk_len h ha)
theorem brokenTo_nil {l : List (List Int)} (h : ∀ i, i < l.length → soundB i (l.getD i []) = true) : ∀ k, k ≤ l.length → brokenTo l k = []
  | 0, _ => rfl
  | k + 1, hk => by rw [brokenTo, brokenTo_nil h k (by omega), h k (by omega)]; rfl
theorem brokenTo_one {l : List (List Int)} {a : Nat} (h : ∀ i, i < l.length → i ≠ a → soundB i (l.getD i []) = true) (ha : soundB a (l.getD a []) = false) : ∀ k, k ≤ l.length → brokenTo l k = if a < k then [(a : Int)] else []
  | 0, _ => by simp [brokenTo]
  | k + 1, hk => by
    rw [brokenTo, brokenTo_one h ha k (by omega)]
    by_cases e : k = a
    · subst e
      rw [ha]
      simp
    · rw [h k (by omega) e]
      by_cases h1 : a < k
      · simp [h1, show a < k + 1 by omega]
      · simp [h1, show ¬ a < k + 1 by omega]
theorem getD_set_ne {l : List (List Int)} {a i : Nat} {f : List Int} (h : i ≠ a) : (l.set a f).getD i [] = l.getD i [] := by
  rw [List.getD_eq_getElem?_getD, List.getD_eq_getElem?_getD, List.getElem?_set_ne (fun e => h e.symm)]
theorem getD_set_eq {l : List (List Int)} {a : Nat} {f : List Int} (h : a < l.length) : (l.set a f).getD a [] = f := by
  rw [List.getD_eq_getElem?_getD, List.getElem?_set_self h]
  rfl
theorem mendTo_one {l m : List (List Int)} {a : Nat} (hlm : l.length = m.length) (h : ∀ i, i < l.length → i ≠ a → soundB i (l.getD i []) = true) (ha : soundB a (l.getD a []) = false) (hm : soundB a (m.getD a []) = true) (hal : a < l.length) :
    ∀ k, k ≤ l.length → mendTo l m k = (if a < k then l.set a (m.getD a []) else l) ∧ mendMany l m k = if a < k then 1 else 0
  | 0, _ => by simp [mendTo, mendMany]
  | k + 1, hk => by
    obtain ⟨h1, h2⟩ := mendTo_one hlm h ha hm hal k (by omega)
    unfold mendTo mendMany
    by_cases e : k = a
    · subst e
      have hi : mendIt l m k = true := by rw [mendIt, ha, hm, decide_eq_true (by omega)]; rfl
      rw [hi, h1, h2]
      simp
    · have hi : mendIt l m k = false := by rw [mendIt, h k (by omega) e]; rfl
      rw [hi, h1, h2]
      simp only [Bool.false_eq_true, if_false]
      by_cases h3 : a < k
      · rw [if_pos h3, if_pos h3, if_pos (by omega), if_pos (by omega)]; exact ⟨rfl, rfl⟩
      · rw [if_neg h3, if_neg h3, if_neg (by omega), if_neg (by omega)]; exact ⟨rfl, rfl⟩
theorem dataOf_packTo {all : List Int} : ∀ {k : Nat}, all.length = (k + 1) * 12 → dataOf (packTo all (k + 1)) = all.drop 12 := fun {k} ha => by
  have h1 : ∀ m, m ≤ k → ((List.range m).map fun (i : Nat) => mk ((i + 1 : Nat) : Int) ((all.drop ((i + 1) * 12)).take 12)).flatMap (List.take 12) = (all.drop 12).take (m * 12) := by
    intro m
    induction m with
    | zero => intro _; simp
    | succ m ih =>
      intro hm
      rw [List.range_succ, List.map_append, List.flatMap_append, ih (by omega), List.map_cons, List.map_nil, List.flatMap_cons, List.flatMap_nil, List.append_nil, mk_take (chunk_len (k := k + 1) (by omega) ha)]
      rw [show (m + 1) * 12 = m * 12 + 12 by omega, List.take_add, List.drop_drop, Nat.add_comm 12 (m * 12)]
  unfold dataOf packTo
  rw [List.range_succ_eq_map, List.map_cons, List.drop_succ_cons, List.drop_zero, List.map_map]
  have := h1 k (Nat.le_refl _)
  rw [List.take_of_length_le (by rw [List.length_drop]; omega)] at this
  exact this

section
variable {kd cn : Int} {d : List Int}
theorem packOf_len : (packOf kd cn d).length = packMany d.length := packTo_length _ _
theorem packOf_sound (i : Nat) (h : i < (packOf kd cn d).length) : soundB i ((packOf kd cn d).getD i []) = true := by
  rw [packOf_len] at h
  exact packTo_sound h (packAll_length kd cn d)
theorem packAll_255 (hk : 0 ≤ kd ∧ kd ≤ 255) (hd : is255 d) : is255 (packAll kd cn d) := fun x hx => by
  rw [packAll, headB] at hx
  simp only [List.mem_append, List.mem_cons, List.not_mem_nil, or_false, List.mem_replicate] at hx
  rcases hx with ((((h | h | h | h) | h) | h) | h) | h
  · omega
  · omega
  · omega
  · omega
  · exact four_255 _ x h
  · exact four_255 _ x h
  · exact hd x h
  · omega
theorem packOf_255 (hk : 0 ≤ kd ∧ kd ≤ 255) (hd : is255 d) : ∀ f ∈ packOf kd cn d, is255 f := fun f hf => by
  obtain ⟨i, _, rfl⟩ := List.mem_map.1 hf
  exact mk_255 fun x hx => packAll_255 hk hd x (List.mem_of_mem_drop (List.mem_of_mem_take hx))
theorem packOf_head : opHead (packOf kd cn d) = mk 0 (headB kd cn d.length) := by
  rw [packOf, packMany, packTo, List.range_succ_eq_map, List.map_cons]
  show mk _ _ = _
  rw [pack_head]
  rfl
theorem packOf_opens (hk : 1 ≤ kd ∧ kd ≤ 3) (hc : 0 ≤ cn ∧ cn ≤ 256) (hd : d.length ≤ 8192) : opCode (packOf kd cn d) = 0 ∧ opKind (packOf kd cn d) = kd ∧ opCount (packOf kd cn d) = cn ∧ opData (packOf kd cn d) = d := by
  have hh := packOf_head (kd := kd) (cn := cn) (d := d)
  have hlen := packOf_len (kd := kd) (cn := cn) (d := d)
  have h1 : hdOk (opHead (packOf kd cn d)) = true := by rw [hh, hdOk, mk, headB]; rfl
  have h2 : hdKind (opHead (packOf kd cn d)) = kd := by rw [hh, hdKind, mk, headB]; rfl
  have h3 : numAt (opHead (packOf kd cn d)) 4 = cn := by
    rw [hh, numAt, mk, headB]
    exact num4_four (by unfold u32r; omega)
  have h4 : numAt (opHead (packOf kd cn d)) 8 = (d.length : Int) := by
    rw [hh, numAt, mk, headB]
    exact num4_four (by unfold u32r; omega)
  have h5 : dataOf (packOf kd cn d) = d ++ List.replicate (padLen d.length) 0 := by
    have ha := packAll_length kd cn d
    rw [packOf, packMany, dataOf_packTo (by rw [ha, packMany]), packAll, List.append_assoc, ← headB_length kd cn d.length, List.drop_left]
  have h6 : (dataOf (packOf kd cn d)).take d.length = d := by rw [h5, List.take_left]
  have hg : opGood (packOf kd cn d) = true := by
    rw [opGood, h1, h2, h3, h4, Int.toNat_natCast, h6, beq_self_eq_true, decide_eq_true (show (d.length : Int) ≤ 8192 by omega), decide_eq_true (show (d.length : Int) ≤ ((dataOf (packOf kd cn d)).length : Int) by rw [h5, List.length_append]; omega)]
    have : packOk kd cn = true := by rw [packOk, inB, inB, decide_eq_true hk.1, decide_eq_true hk.2, decide_eq_true hc.1, decide_eq_true hc.2]; rfl
    rw [this]
    rfl
  have hne : packOf kd cn d ≠ [] := by
    intro h
    rw [h] at hlen
    simp [packMany] at hlen
  have hcode : opCode (packOf kd cn d) = 0 := by
    rw [opCode, if_pos (by rw [hlen, packMany]; omega), brokenTo_nil packOf_sound _ (Nat.le_refl _), if_pos rfl, if_neg hne, if_pos hg]
  exact ⟨hcode, by rw [opKind, if_pos hcode, h2], by rw [opCount, if_pos hcode, h3], by rw [opData, if_pos hcode, h4, Int.toNat_natCast, h6]⟩

/-- one bit of one frame is changed -/
theorem spoil_broken {a t : Nat} (hk : 0 ≤ kd ∧ kd ≤ 255) (hd : is255 d) (ha : a < (packOf kd cn d).length) (ht : t < 128) :
    (∀ i, i < (spoil (packOf kd cn d) a t).length → i ≠ a → soundB i ((spoil (packOf kd cn d) a t).getD i []) = true) ∧ soundB a ((spoil (packOf kd cn d) a t).getD a []) = false := by
  constructor
  · intro i hi hia
    rw [spoil, List.length_set] at hi
    rw [spoil, getD_set_ne hia]
    exact packOf_sound i hi
  · rw [spoil, getD_set_eq ha]
    have ha' : a < packMany d.length := by rw [← packOf_len (kd := kd) (cn := cn)]; exact ha
    have e : (packOf kd cn d).getD a [] = mk a (((packAll kd cn d).drop (a * 12)).take 12) := packTo_getD ha'
    have hp : is255 (((packAll kd cn d).drop (a * 12)).take 12) := fun x hx => packAll_255 hk hd x (List.mem_of_mem_drop (List.mem_of_mem_take hx))
    rw [e]
    have hr := flipAt_range ((mk_255 (n := (a : Int)) hp).getD (t / 8)) t
    exact sound_set (chunk_len ha' (packAll_length kd cn d)) hp (by omega) ⟨hr.1, hr.2.1⟩ hr.2.2
end
theorem frs_flat {l : List (List Int)} (hr : Rows_ 16 l) {c k : Nat} (_hc : c ≤ l.flatten.length) (hk : k * 16 ≤ c) (hkl : k ≤ l.length) : frs (l.flatten.take c) k = l.take k := by
  apply List.ext_getElem?
  intro i
  rw [frs, List.getElem?_map]
  by_cases h : i < k
  · rw [List.getElem?_range h, List.getElem?_take_of_lt h, List.getElem?_eq_getElem (show i < l.length by omega), Option.map_some]
    congr 1
    rw [List.drop_take, List.take_take, Nat.min_eq_left (by omega)]
    exact flat_row hr (by omega)
  · rw [List.getElem?_eq_none (by simp; omega), List.getElem?_eq_none (by rw [List.length_take]; omega)]
    rfl
end Go.Proofs.Ytmagaapdijapiaa
