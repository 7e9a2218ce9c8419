/- Points compared part by part: the conversion to complex128, sameFloat, sameComplex. -/
import Derived.Test.YtfjfiljgbkhblaaDoorRows
import Derived.Test.YtfjfiljgbkhblaaDoorBase
import Derived.Laws.FloatArith
import Derived.Laws.ComplexArith
import Derived.Deep.Draws
namespace Go.Proofs.YtfjfiljgbkhblaaDoor
open Go.ChangeShapes Go.WideShapes Go.ChangeAt Go.RowKit

theorem f32_read {x : Nat} {s : Bool} {m : Nat} {e : Int} (h : FloatKind.decode .f32 x = .number s m e) : m < 2 ^ 24 ∧ -149 ≤ e ∧ e ≤ 104 := by
  have hb : FloatKind.f32.format.binade = 8388608 := rfl
  have hw : FloatKind.f32.format.signWeight = 2147483648 := rfl
  have hi : FloatKind.f32.format.infRung = 2139095040 := rfl
  have hl : FloatKind.f32.format.leastPlace = -149 := rfl
  unfold FloatKind.decode Ieee.Format.read at h
  rw [hb, hw, hi, hl] at h
  dsimp only at h
  split at h
  · rename_i h1
    injection h with _ h2 h3
    omega
  · split at h
    · rename_i h1 h2
      injection h with _ h3 h4
      omega
    · split at h <;> cases h
theorem f64_word_fin (s : Bool) {r : Nat} (h : r < 9218868437227405312) : (FloatKind.decode .f64 (Ieee.Format.word FloatKind.f64.format s r)).isInfinity = false ∧ (FloatKind.decode .f64 (Ieee.Format.word FloatKind.f64.format s r)).isNaN = false := by
  have hb : FloatKind.f64.format.binade = 4503599627370496 := rfl
  have hw : FloatKind.f64.format.signWeight = 9223372036854775808 := rfl
  have hi : FloatKind.f64.format.infRung = 9218868437227405312 := rfl
  have hm : Ieee.Format.word FloatKind.f64.format s r % 9223372036854775808 = r := by
    unfold Ieee.Format.word
    rw [hw]
    split <;> omega
  unfold FloatKind.decode Ieee.Format.read
  rw [hb, hw, hi, hm]
  dsimp only
  split
  · exact ⟨rfl, rfl⟩
  · exact ⟨rfl, rfl⟩
theorem widen_rung {s : Bool} {m : Nat} {e : Int} (hm : m < 2 ^ 24) (h1 : -149 ≤ e) (h2 : e ≤ 104) : ∃ r, r < 9218868437227405312 ∧ FloatKind.encode .f64 (.number s m e) = Ieee.Format.word FloatKind.f64.format s r := by
  have hb : FloatKind.f64.format.binade = 4503599627370496 := rfl
  have hf : FloatKind.f64.format.fractionBits = 52 := rfl
  have hi : FloatKind.f64.format.infRung = 9218868437227405312 := rfl
  have hl : FloatKind.f64.format.leastPlace = -1074 := rfl
  show ∃ r, _ ∧ Ieee.Format.nearest _ s m e = _
  unfold Ieee.Format.nearest
  rw [hb, hf, hi, hl]
  by_cases h0 : m = 0
  · exact ⟨0, by omega, by rw [if_pos h0]⟩
  · rw [if_neg h0]
    have hlog : m.log2 < 24 := (Nat.log2_lt h0).2 hm
    have hlt : m < 2 ^ (m.log2 + 1) := Nat.lt_log2_self
    obtain ⟨last, hlast⟩ : ∃ last, last = max (e + (m.log2 : Int) - ((52 : Nat) : Int)) (-1074) := ⟨_, rfl⟩
    have hle : last ≤ e := by omega
    have hge : e - last ≤ 52 - (m.log2 : Int) := by omega
    dsimp only
    rw [← hlast, show (last - e).toNat = 0 by omega]
    obtain ⟨d, hd⟩ : ∃ d, d = (e - last).toNat := ⟨_, rfl⟩
    rw [← hd]
    have hcut : Ieee.Toward.cut .even s (m <<< d) 0 = m <<< d := by
      unfold Ieee.Toward.cut
      rw [show min 0 ((m <<< d).log2 + 2) = 0 by omega]
      simp [Nat.mod_one]
    rw [hcut]
    have hN : m <<< d < 2 ^ 53 := by
      rw [Nat.shiftLeft_eq]
      calc m * 2 ^ d < 2 ^ (m.log2 + 1) * 2 ^ d := Nat.mul_lt_mul_of_pos_right hlt (Nat.two_pow_pos d)
        _ = 2 ^ (m.log2 + 1 + d) := (Nat.pow_add 2 _ _).symm
        _ ≤ 2 ^ 53 := Nat.pow_le_pow_right (by decide) (by omega)
    have hN' : m <<< d < 9007199254740992 := hN
    have hq : (last - -1074).toNat ≤ 1178 := by omega
    generalize m <<< d = N at *
    generalize (last - -1074).toNat = q at *
    clear hN hlt hlog hlast hle hge hcut hd hm
    exact ⟨_, by omega, rfl⟩

/-- the draws and the value of a conversion to float64 -/
def dr (x : Nat) : Nat := if (FloatKind.decode .f32 x).isNaN then 1 else 0
def wd (w : World) (x : Nat) : Nat := if (FloatKind.decode .f32 x).isNaN then (Question.nanConv .f64 x).cut (w.tape w.drawn (.nanConv .f64 x)) else FloatKind.encode .f64 (FloatKind.decode .f32 x)
theorem run_f2f {P : Program} (w : World) (x : Nat) : (Conv.floatToFloat .f32 x .f64).run P w = .ok (.float .f64 (wd w x)) (w.drewN (dr x)) := by
  unfold wd dr Conv.floatToFloat
  rw [if_neg (by decide)]
  cases h : FloatKind.decode .f32 x with
  | nan s f => simp [Ieee.Datum.isNaN, choose, Sem.run, Question.forced, World.drewN, bind, Sem.bind, pure]
  | infinity s => simp [Ieee.Datum.isNaN, World.drewN, pure]
  | number s m e =>
    obtain ⟨h1, h2, h3⟩ := f32_read h
    obtain ⟨r, hr, he⟩ := widen_rung (s := s) h1 h2 h3
    simp [Ieee.Datum.isNaN, World.drewN, pure, he, (f64_word_fin s hr).1]
/-- the same up to the bits of a NaN -/
def nan64 (x : Nat) : Bool := (FloatKind.decode .f64 x).isNaN
def alike (a b : Nat) : Prop := (a = b ∧ nan64 a = false) ∨ (nan64 a = true ∧ nan64 b = true)
theorem nan_cut (x t : Nat) : nan64 ((Question.nanConv .f64 x).cut t) = true := by
  have hb : FloatKind.f64.format.binade = 4503599627370496 := rfl
  have hw : FloatKind.f64.format.signWeight = 9223372036854775808 := rfl
  have hi : FloatKind.f64.format.infRung = 9218868437227405312 := rfl
  obtain ⟨r, hr⟩ : ∃ r, r = (Question.nanConv .f64 x).cut t := ⟨_, rfl⟩
  have hr2 : r = (t % 2) * 9223372036854775808 + 9218868437227405312 + 1 + (t / 2) % 4503599627370495 := hr
  rw [← hr]
  obtain ⟨y, hy⟩ : ∃ y, y = (t / 2) % 4503599627370495 := ⟨_, rfl⟩
  have hy2 : y < 4503599627370495 := by omega
  rw [← hy] at hr2
  clear hy
  have hm : 9218868437227405312 < r % 9223372036854775808 := by
    rcases Nat.mod_two_eq_zero_or_one t with h | h
    · rw [h] at hr2; omega
    · rw [h] at hr2; omega
  unfold nan64 FloatKind.decode Ieee.Format.read
  rw [hb, hw, hi]
  dsimp only
  rw [if_neg (by omega), if_neg (by omega), if_neg (by omega)]
  rfl
theorem inf_nan (s : Bool) : nan64 (FloatKind.encode .f64 (.infinity s)) = false := by
  have hb : FloatKind.f64.format.binade = 4503599627370496 := rfl
  have hw : FloatKind.f64.format.signWeight = 9223372036854775808 := rfl
  have hi : FloatKind.f64.format.infRung = 9218868437227405312 := rfl
  have he : FloatKind.encode .f64 (.infinity s) = Ieee.Format.word FloatKind.f64.format s FloatKind.f64.format.infRung := rfl
  have hm : Ieee.Format.word FloatKind.f64.format s 9218868437227405312 % 9223372036854775808 = 9218868437227405312 := by
    unfold Ieee.Format.word
    rw [hw]
    split <;> omega
  rw [he]
  unfold nan64 FloatKind.decode Ieee.Format.read
  rw [hb, hw, hi, hm]
  rfl
theorem wd_alike (w w' : World) (x : Nat) : alike (wd w x) (wd w' x) := by
  cases h : FloatKind.decode .f32 x with
  | nan s f =>
    have e : ∀ W : World, ∃ t, wd W x = (Question.nanConv .f64 x).cut t := fun W => ⟨_, by rw [wd, h, if_pos (show (Ieee.Datum.nan s f).isNaN = true from rfl)]⟩
    obtain ⟨t1, e1⟩ := e w
    obtain ⟨t2, e2⟩ := e w'
    rw [e1, e2]
    exact .inr ⟨nan_cut x _, nan_cut x _⟩
  | infinity s =>
    have e : ∀ W : World, wd W x = FloatKind.encode .f64 (.infinity s) := fun W => by rw [wd, h, if_neg (show ¬ (Ieee.Datum.infinity s).isNaN = true from fun e => by cases e)]
    rw [e w, e w']
    exact .inl ⟨rfl, inf_nan s⟩
  | number s m e =>
    obtain ⟨h1, h2, h3⟩ := f32_read h
    obtain ⟨r, hr, he⟩ := widen_rung (s := s) h1 h2 h3
    have e : ∀ W : World, wd W x = Ieee.Format.word FloatKind.f64.format s r := fun W => by rw [wd, h, if_neg (show ¬ (Ieee.Datum.number s m e).isNaN = true from fun e => by cases e), he]
    rw [e w, e w']
    exact .inl ⟨rfl, (f64_word_fin s hr).2⟩
theorem run_conv (src dst : TypeId) (w : World) (a b : Nat) (hs : (Tryd.prog.underlying src).isSome = true) (hd : Tryd.prog.underlying dst = some (.complex .f64)) :
    (convert src dst (.complex .f32 a b)).run Tryd.prog w = .ok (.complex .f64 (wd w a) (wd (w.drewN (dr a)) b)) (w.drewN (dr a + dr b)) := by
  obtain ⟨u, hs'⟩ := Option.isSome_iff_exists.1 hs
  have e : ∀ W : World, (W.drewN (dr a)).drewN (dr b) = W.drewN (dr a + dr b) := fun W => by simp [World.drewN, Nat.add_assoc]
  cases u <;> simp [convert, run_underlying hs', run_underlying hd, Conv.complexToComplex, run_f2f, e]

theorem order_self {x : Nat} (h : nan64 x = false) : FloatKind.f64.format.order x x = some .eq := by
  unfold Ieee.Format.order
  unfold nan64 FloatKind.decode at h
  cases hd : FloatKind.f64.format.read x with
  | nan s f => rw [hd] at h; cases h
  | infinity s => simp [Ieee.Datum.order]
  | number s m e => simp [Ieee.Datum.order]
theorem order_nan {x : Nat} (y : Nat) (h : nan64 x = true) : FloatKind.f64.format.order x y = none := by
  unfold Ieee.Format.order
  unfold nan64 FloatKind.decode at h
  cases hd : FloatKind.f64.format.read x with
  | nan s f => rfl
  | infinity s => rw [hd] at h; cases h
  | number s m e => rw [hd] at h; cases h
theorem feq_self {x : Nat} (h : nan64 x = false) : Op.floatEq .f64 x x = true := by
  show (FloatKind.f64.format.order x x == some .eq) = true
  rw [order_self h]; rfl
theorem feq_nan {x : Nat} (y : Nat) (h : nan64 x = true) : Op.floatEq .f64 x y = false := by
  show (FloatKind.f64.format.order x y == some .eq) = false
  rw [order_nan y h]; rfl
end Go.Proofs.YtfjfiljgbkhblaaDoor
