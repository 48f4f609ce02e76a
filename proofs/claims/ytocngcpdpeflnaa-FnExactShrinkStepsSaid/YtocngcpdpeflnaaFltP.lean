/-
  Plain facts on floats of 32 and 64 bits, by their bits; no statement of the program is proved here.
-/
import Derived.Test.YtocngcpdpeflnaaFlt
import Derived.Laws.FloatArith
namespace Go.Proofs.Ytocngcpdpeflnaa
open Go.RowKit
set_option linter.unusedVariables false
set_option maxRecDepth 100000

open Ieee (Datum Format single double)
/-- finite -/
def finD : Datum → Bool
  | .number .. => true
  | _ => false
def nanD : Datum → Bool
  | .nan .. => true
  | _ => false
def finF (b : Nat) : Bool := finD (single.read b)
def nanF (b : Nat) : Bool := nanD (single.read b)
def nanG (b : Nat) : Bool := nanD (double.read b)
theorem fin_out {d : Datum} (h : finD d = true) : ∃ s m e, d = .number s m e := by
  cases d with
  | number s m e => exact ⟨s, m, e, rfl⟩
  | infinity s => cases h
  | nan s t => cases h
theorem order_self {d : Datum} (h : nanD d = false) : d.order d = some .eq := by
  cases d with
  | number s m e => simp [Datum.order]
  | infinity s => simp [Datum.order]
  | nan s t => cases h
theorem order_nan {d e : Datum} (h : nanD d = true) : d.order e = none := by
  cases d with
  | number s m e => cases h
  | infinity s => cases h
  | nan s t => cases e <;> rfl
theorem order_nan' {d e : Datum} (h : nanD e = true) : d.order e = none := by
  cases e with
  | number s m e => cases h
  | infinity s => cases h
  | nan s t => cases d <;> rfl
theorem sub_self_fin {b : Nat} (h : finF b = true) : single.sub b b = some 0 := by
  obtain ⟨s, m, e, hr⟩ := fin_out h
  unfold Format.sub
  rw [hr]
  have h1 : Ieee.signed s m 0 + Ieee.signed (!s) m 0 = 0 := by
    cases s <;> simp [Ieee.signed] <;> omega
  simp only [Datum.opposite, Datum.sum, show min e e = e by omega, Int.sub_self, Int.toNat_zero, h1, if_true, Int.natAbs_zero, Option.map_some]
  cases s <;> rfl
theorem sub_self_not {b : Nat} (h : finF b = false) : single.sub b b = none := by
  unfold Format.sub
  unfold finF at h
  cases hr : single.read b with
  | number s m e => rw [hr] at h; cases h
  | infinity s => cases s <;> rfl
  | nan s t => rfl
theorem arith_fin {a b : Nat} (ha : finF a = true) (hb : finF b = true) : (∃ r, single.sub a b = some r) ∧ (∃ r, single.add a b = some r) := by
  obtain ⟨s, m, e, h1⟩ := fin_out ha
  obtain ⟨t, n, f, h2⟩ := fin_out hb
  constructor
  · unfold Format.sub; rw [h1, h2]; exact ⟨_, rfl⟩
  · unfold Format.add; rw [h1, h2]; exact ⟨_, rfl⟩
/-! ### Words -/
theorem read_word (f : Format) (hb : 0 < f.exponentBits) (neg : Bool) {rung : Nat} (h : rung < f.signWeight) : f.read (f.word neg rung) = if rung < f.binade then .number neg rung f.leastPlace else if rung < f.infRung then .number neg (f.binade + rung % f.binade) (f.leastPlace + (rung / f.binade - 1 : Nat)) else if rung = f.infRung then .infinity neg else .nan neg (rung - f.infRung) := by
  have hp : 0 < f.signWeight := Nat.two_pow_pos _
  have h1 : (f.word neg rung) % f.signWeight = rung := by
    unfold Format.word
    cases neg
    · exact Nat.mod_eq_of_lt h
    · rw [if_pos rfl, Nat.add_mod_left]; exact Nat.mod_eq_of_lt h
  have h2 : ((f.word neg rung) / f.signWeight % 2 == 1) = neg := by
    unfold Format.word
    cases neg
    · rw [if_neg (by decide), Nat.div_eq_of_lt h]; rfl
    · rw [if_pos rfl, Nat.add_div_left _ hp, Nat.div_eq_of_lt h]; rfl
  unfold Format.read
  simp only [h1, h2]
theorem word_notNan (f : Format) (hb : 0 < f.exponentBits) (neg : Bool) {rung : Nat} (h : rung ≤ f.infRung) : nanD (f.read (f.word neg rung)) = false := by
  rw [read_word f hb neg (Nat.lt_of_le_of_lt h (Format.infRung_lt f))]
  split
  · rfl
  · split
    · rfl
    · rw [if_pos (by omega)]; rfl
theorem nearest_notNan (f : Format) (hb : 0 < f.exponentBits) (neg : Bool) (m : Nat) (e : Int) : nanD (f.read (f.nearest neg m e)) = false := by
  unfold Format.nearest
  dsimp only
  split
  · exact word_notNan f hb neg (Nat.zero_le _)
  · exact word_notNan f hb neg (Nat.min_le_right _ _)
/-- a float of an integer -/
theorem ofInt_order (n : Int) : single.order (floatOfInt .f32 n) (floatOfInt .f32 n) = some .eq := by
  unfold Format.order
  exact order_self (nearest_notNan single (by decide) _ _ _)
/-- the payloads that a draw gives are NaNs -/
theorem nanWord32 (t : Nat) : nanF ((t % 2) * 2 ^ 31 + 0x7f800000 + 1 + (t / 2) % (2 ^ 23 - 1)) = true := by
  have h1 : (t / 2) % (2 ^ 23 - 1) < 2 ^ 23 - 1 := Nat.mod_lt _ (by decide)
  obtain ⟨x, hx⟩ : ∃ x, x = (t / 2) % (2 ^ 23 - 1) := ⟨_, rfl⟩
  rw [← hx] at h1 ⊢
  have e : (t % 2) * 2 ^ 31 + 0x7f800000 + 1 + x = single.word (t % 2 == 1) (0x7f800000 + 1 + x) := by
    rcases Nat.mod_two_eq_zero_or_one t with h | h <;> rw [h] <;> simp [Format.word, Format.signWeight, single] <;> omega
  rw [nanF, e, read_word single (by decide) _ (by simp [Format.signWeight, single]; omega)]
  have b1 : single.binade = 8388608 := by decide
  have b2 : single.infRung = 2139095040 := by decide
  rw [b1, b2, if_neg (by omega), if_neg (by omega), if_neg (by omega)]
  rfl
theorem nanWord64 (t : Nat) : nanG ((t % 2) * 2 ^ 63 + 0x7ff0000000000000 + 1 + (t / 2) % (2 ^ 52 - 1)) = true := by
  have h1 : (t / 2) % (2 ^ 52 - 1) < 2 ^ 52 - 1 := Nat.mod_lt _ (by decide)
  obtain ⟨x, hx⟩ : ∃ x, x = (t / 2) % (2 ^ 52 - 1) := ⟨_, rfl⟩
  rw [← hx] at h1 ⊢
  have e : (t % 2) * 2 ^ 63 + 0x7ff0000000000000 + 1 + x = double.word (t % 2 == 1) (0x7ff0000000000000 + 1 + x) := by
    rcases Nat.mod_two_eq_zero_or_one t with h | h <;> rw [h] <;> simp [Format.word, Format.signWeight, double] <;> omega
  rw [nanG, e, read_word double (by decide) _ (by simp [Format.signWeight, double]; omega)]
  have b1 : double.binade = 4503599627370496 := by decide
  have b2 : double.infRung = 9218868437227405312 := by decide
  rw [b1, b2, if_neg (by omega), if_neg (by omega), if_neg (by omega)]
  rfl
/-! ### A float of 32 bits made wider -/
theorem single_range {b : Nat} {s : Bool} {m : Nat} {e : Int} (h : single.read b = .number s m e) : m < 2 ^ 24 ∧ -149 ≤ e ∧ e ≤ 104 := by
  have b1 : single.binade = 8388608 := by decide
  have b2 : single.infRung = 2139095040 := by decide
  have b3 : single.leastPlace = -149 := by decide
  unfold Format.read at h
  simp only [b1, b2, b3] at h
  split at h
  · injection h with _ h2 h3; omega
  · split at h
    · injection h with _ h2 h3
      have := Nat.mod_lt (b % single.signWeight) (show 8388608 > 0 by decide)
      have h5 : b % single.signWeight / 8388608 ≤ 254 := by omega
      constructor
      · omega
      · omega
    · split at h <;> cases h
theorem cut_zero (neg : Bool) (n : Nat) : Ieee.Toward.even.cut neg n 0 = n := by
  simp [Ieee.Toward.cut, Nat.mod_one]
theorem wide_arith (q k : Nat) (h1 : q ≤ 1149) (h2 : k < 9007199254740992) : min (q * 4503599627370496 + k) 9218868437227405312 < 9218868437227405312 := by omega
theorem pow53 : (2 : Nat) ^ 53 = 9007199254740992 := by decide
theorem wide_fin {s : Bool} {m : Nat} {e : Int} (hm : m < 2 ^ 24) (h1 : -149 ≤ e) (h2 : e ≤ 104) : finD (double.read (double.write (.number s m e))) = true := by
  have b1 : double.binade = 4503599627370496 := by decide
  have b2 : double.infRung = 9218868437227405312 := by decide
  have b3 : double.leastPlace = -1074 := by decide
  have b4 : double.fractionBits = 52 := rfl
  have hw : ∀ (neg : Bool) (rung : Nat), rung < 9218868437227405312 → finD (double.read (double.word neg rung)) = true := fun neg rung h => by
    rw [read_word double (by decide) neg (Nat.lt_trans (by rw [b2]; exact h) (Format.infRung_lt double)), b1, b2]
    split
    · rfl
    · first | rfl | (rw [if_pos h]; rfl)
  show finD (double.read (double.nearest s m e)) = true
  unfold Format.nearest
  by_cases h0 : m = 0
  · rw [if_pos h0]; exact hw s 0 (by decide)
  · rw [if_neg h0]
    dsimp only
    have hl : m.log2 ≤ 23 := by
      have := (Nat.log2_lt h0 (k := 24)).2 hm
      omega
    have hlo : 2 ^ m.log2 ≤ m := Nat.log2_self_le h0
    rw [b1, b2, b3, b4]
    have e1 : max (e + (m.log2 : Int) - ((52 : Nat) : Int)) (-1074) = e + (m.log2 : Int) - 52 := by omega
    rw [e1, show (e + (m.log2 : Int) - 52 - e).toNat = 0 by omega, cut_zero]
    have e2 : (e - (e + (m.log2 : Int) - 52)).toNat = 52 - m.log2 := by omega
    rw [e2]
    have hk : m <<< (52 - m.log2) < 2 ^ 53 := by
      rw [Nat.shiftLeft_eq]
      have h3 : m < 2 ^ (m.log2 + 1) := Nat.lt_log2_self
      calc m * 2 ^ (52 - m.log2) < 2 ^ (m.log2 + 1) * 2 ^ (52 - m.log2) := (Nat.mul_lt_mul_right (Nat.two_pow_pos _)).2 h3
        _ = 2 ^ 53 := by rw [← Nat.pow_add]; congr 1; omega
    have e3 : (e + (m.log2 : Int) - 52 - (-1074)).toNat ≤ 1149 := by omega
    obtain ⟨q, hq⟩ : ∃ q, q = (e + (m.log2 : Int) - 52 - (-1074)).toNat := ⟨_, rfl⟩
    rw [← hq] at e3 ⊢
    rw [pow53] at hk
    exact hw s _ (wide_arith q _ e3 hk)
/-- the wider float: none for a NaN -/
def wideF (b : Nat) : Option Nat := floatToFloatBits .f32 b .f64
theorem wide_some {b : Nat} (h : nanF b = false) : ∃ r, wideF b = some r ∧ nanG r = false := by
  have hd : FloatKind.f32.decode b = single.read b := rfl
  have he : ∀ d, FloatKind.f64.encode d = double.write d := fun _ => rfl
  have hdd : ∀ x, FloatKind.f64.decode x = double.read x := fun _ => rfl
  have hne : ¬ (FloatKind.f32 = FloatKind.f64) := by decide
  unfold wideF floatToFloatBits
  rw [if_neg hne, hd]
  cases hr : single.read b with
  | nan s t => rw [nanF, hr] at h; cases h
  | infinity s =>
    dsimp only
    rw [he]
    exact ⟨_, rfl, word_notNan double (by decide) s (Nat.le_refl _)⟩
  | number s m e =>
    obtain ⟨g1, g2, g3⟩ := single_range hr
    have hf := wide_fin (s := s) g1 g2 g3
    have hi : (double.read (double.write (.number s m e))).isInfinity = false := by
      cases hx : double.read (double.write (.number s m e)) with
      | number _ _ _ => rfl
      | infinity _ => rw [hx] at hf; cases hf
      | nan _ _ => rw [hx] at hf; cases hf
    dsimp only
    rw [he, hdd, hi]
    exact ⟨_, if_neg (by decide), nearest_notNan double (by decide) s m e⟩
end Go.Proofs.Ytocngcpdpeflnaa
