/-
  Binary digits of small numbers, as the program reads, turns and clears them: plain laws.
-/
import Derived.Test.YtkankfdpodofjaaNum
import Derived.IntWalk
namespace Go.Proofs.Ytkankfdpodofjaa
open Go.RowKit
set_option linter.unusedVariables false
set_option maxRecDepth 100000

theorem i64_small (a : Nat) (ha : a < 9223372036854775808) : (BitVec.ofInt 64 (a : Int)).toNat = a := by
  rw [BitVec.ofInt_natCast, BitVec.toNat_ofNat]; exact Nat.mod_eq_of_lt (by omega)
def dgt (n k : Nat) : Bool := n.testBit k
theorem dgt_one (n k : Nat) (h : n < 4294967296) : bits .and .i64 ((n : Int) / 2 ^ k) 1 = if dgt n k then 1 else 0 := by
  have e : ((n : Int) / 2 ^ k) = ((n / 2 ^ k : Nat) : Int) := by simp
  have hl : n / 2 ^ k ≤ n := Nat.div_le_self _ _
  rw [e]
  generalize ha : n / 2 ^ k = a at *
  have h1 : (BitVec.ofInt 64 (a : Int)).toNat = a := i64_small a (by omega)
  show IntKind.i64.wrap ((BitVec.ofInt 64 (a : Int) &&& BitVec.ofInt 64 ((1 : Nat) : Int)).toNat : Int) = _
  have h2 : (BitVec.ofInt 64 ((1 : Nat) : Int)).toNat = 1 := rfl
  rw [BitVec.toNat_and, h1, h2, Nat.and_one_is_mod, IntWalk.i64_in _ (by omega)]
  unfold dgt
  rw [Nat.testBit_eq_decide_div_mod_eq, ha]
  by_cases hm : a % 2 = 1
  · simp [hm]
  · have : a % 2 = 0 := by omega
    simp [this]
theorem shl_pow (i : Nat) (h : i ≤ 20) : IntKind.i64.wrap ((2 : Int) ^ i) = ((2 ^ i : Nat) : Int) ∧ 2 ^ i ≤ 1048576 := by
  have h1 : 2 ^ i ≤ 2 ^ 20 := Nat.pow_le_pow_right (by decide) h
  have h2 : (2 : Int) ^ i = ((2 ^ i : Nat) : Int) := by simp
  rw [h2]
  generalize 2 ^ i = p at *
  exact ⟨IntWalk.i64_in _ (by omega), by omega⟩
theorem xor_nat (a b : Nat) (ha : a < 4294967296) (hb : b < 4294967296) : bits .xor .i64 (a : Int) (b : Int) = ((a ^^^ b : Nat) : Int) := by
  have hx : a ^^^ b < 2 ^ 32 := Nat.xor_lt_two_pow (by omega) (by omega)
  show IntKind.i64.wrap ((BitVec.ofInt 64 (a : Int) ^^^ BitVec.ofInt 64 (b : Int)).toNat : Int) = _
  rw [BitVec.toNat_xor, i64_small a (by omega), i64_small b (by omega), IntWalk.i64_in _ (by omega)]
theorem xor_odd {a : Nat} (h : a % 2 = 1) : a ^^^ 1 = a - 1 := by
  have h1 : (a ^^^ 1) % 2 ^ 1 = a % 2 ^ 1 ^^^ 1 % 2 ^ 1 := Nat.xor_mod_two_pow
  have h2 : (a ^^^ 1) / 2 ^ 1 = a / 2 ^ 1 ^^^ 1 / 2 ^ 1 := Nat.xor_div_two_pow
  rw [Nat.pow_one, h] at h1
  rw [Nat.pow_one, show 1 / 2 = 0 from rfl, Nat.xor_zero] at h2
  have h3 : 1 ^^^ 1 % 2 = 0 := by decide
  rw [h3] at h1
  omega
theorem xor_lt {m i : Nat} (h : dgt m i = true) : m ^^^ 2 ^ i < m := by
  unfold dgt at h
  rw [Nat.testBit_eq_decide_div_mod_eq, decide_eq_true_eq] at h
  have hp : 0 < 2 ^ i := Nat.pow_pos (by decide)
  have h1 : (m ^^^ 2 ^ i) % 2 ^ i = m % 2 ^ i ^^^ 2 ^ i % 2 ^ i := Nat.xor_mod_two_pow
  have h2 : (m ^^^ 2 ^ i) / 2 ^ i = m / 2 ^ i ^^^ 2 ^ i / 2 ^ i := Nat.xor_div_two_pow
  rw [Nat.mod_self, Nat.xor_zero] at h1
  rw [Nat.div_self hp, xor_odd h] at h2
  have h3 := Nat.div_add_mod (m ^^^ 2 ^ i) (2 ^ i)
  have h4 := Nat.div_add_mod m (2 ^ i)
  rw [h1, h2] at h3
  generalize m / 2 ^ i = q at *
  generalize m % 2 ^ i = r at *
  generalize m ^^^ 2 ^ i = y at *
  generalize 2 ^ i = p at *
  obtain ⟨k, rfl⟩ : ∃ k, q = k + 1 := ⟨q - 1, by omega⟩
  rw [Nat.mul_add, Nat.mul_one] at h4
  rw [Nat.add_sub_cancel] at h3
  omega
theorem andNot_nat (m i : Nat) (h : dgt m i = true) (hm : m < 4294967296) (hi : 2 ^ i < 4294967296) : bits .andNot .i64 (m : Int) ((2 ^ i : Nat) : Int) = ((m ^^^ 2 ^ i : Nat) : Int) := by
  have hx := xor_lt h
  have e : (BitVec.ofInt 64 (m : Int) &&& ~~~ BitVec.ofInt 64 ((2 ^ i : Nat) : Int)) = BitVec.ofInt 64 (m : Int) ^^^ BitVec.ofInt 64 ((2 ^ i : Nat) : Int) := by
    apply BitVec.eq_of_getLsbD_eq
    intro j hj
    have hm2 : (BitVec.ofInt 64 (m : Int)).getLsbD j = m.testBit j := by rw [← BitVec.testBit_toNat, i64_small m (by omega)]
    have hi2 : (BitVec.ofInt 64 ((2 ^ i : Nat) : Int)).getLsbD j = (2 ^ i).testBit j := by rw [← BitVec.testBit_toNat, i64_small _ (by omega)]
    rw [BitVec.getLsbD_and, BitVec.getLsbD_not, BitVec.getLsbD_xor, hm2, hi2, Nat.testBit_two_pow]
    by_cases hij : i = j
    · subst hij; unfold dgt at h; rw [h]; simp
    · simp [hij, hj]
  show IntKind.i64.wrap ((BitVec.ofInt 64 (m : Int) &&& ~~~ BitVec.ofInt 64 ((2 ^ i : Nat) : Int)).toNat : Int) = _
  rw [e, BitVec.toNat_xor, i64_small m (by omega), i64_small _ (by omega), IntWalk.i64_in _ (by omega)]
/-- the places of the digits 1 -/
def dig (n m : Nat) : List Nat := (List.range n).filter (dgt m)
theorem dig_mem {n m i : Nat} : i ∈ dig n m ↔ i < n ∧ dgt m i = true := by rw [dig, List.mem_filter, List.mem_range]
theorem dig_succ (n m : Nat) : dig (n + 1) m = if dgt m n then dig n m ++ [n] else dig n m := by
  unfold dig
  rw [List.range_succ, List.filter_append]
  cases h : dgt m n <;> simp [h]
theorem dgt_high {n m i : Nat} (hm : m < 2 ^ n) (hi : n ≤ i) : dgt m i = false := Nat.testBit_lt_two_pow (Nat.lt_of_lt_of_le hm (Nat.pow_le_pow_right (by decide) hi))
/-- a number with no digit from k on -/
theorem dig_more {n m k : Nat} (hk : k ≤ n) (h0 : m / 2 ^ k = 0) : dig n m = dig k m := by
  have hm : m < 2 ^ k := by
    rcases Nat.div_eq_zero_iff.1 h0 with h | h
    · have : 0 < 2 ^ k := Nat.pow_pos (by decide)
      omega
    · exact h
  induction n with
  | zero => have : k = 0 := by omega
            rw [this]
  | succ n ih =>
    by_cases e : k = n + 1
    · rw [e]
    · rw [dig_succ, dgt_high hm (by omega)]
      exact ih (by omega)
theorem dig_pos {n m : Nat} (hm : m < 2 ^ n) (h0 : m ≠ 0) : dig n m ≠ [] := by
  intro h
  apply h0
  apply Nat.eq_of_testBit_eq
  intro j
  rw [Nat.zero_testBit]
  cases hj : m.testBit j
  · rfl
  · have h1 : j < n := by
      refine Classical.byContradiction fun hn => ?_
      have h2 := dgt_high (i := j) hm (by omega)
      unfold dgt at h2
      rw [hj] at h2; cases h2
    have h2 : j ∈ dig n m := dig_mem.2 ⟨h1, hj⟩
    rw [h] at h2
    simp at h2
end Go.Proofs.Ytkankfdpodofjaa
