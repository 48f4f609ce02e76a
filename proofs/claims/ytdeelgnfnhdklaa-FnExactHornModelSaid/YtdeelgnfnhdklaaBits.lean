/-
  Bits of 64-bit integers that are natural numbers, digits of numbers of values, and lists of letters that rise.
-/
import Derived.Test.YtdeelgnfnhdklaaModels2
namespace Go.Proofs.Ytdeelgnfnhdklaa
open Go.RowKit
set_option linter.unusedVariables false

theorem i64_nat (a : Nat) (ha : a < 9223372036854775808) : (BitVec.ofInt 64 (a : Int)).toNat = a := by
  rw [BitVec.ofInt_natCast, BitVec.toNat_ofNat]; exact Nat.mod_eq_of_lt (by omega)
theorem and_nat (a b : Nat) (ha : a < 4294967296) (hb : b < 4294967296) : bits .and .i64 (a : Int) (b : Int) = ((a &&& b : Nat) : Int) := by
  have hx : a &&& b ≤ a := Nat.and_le_left
  show IntKind.i64.wrap ((BitVec.ofInt 64 (a : Int) &&& BitVec.ofInt 64 (b : Int)).toNat : Int) = _
  rw [BitVec.toNat_and, i64_nat a (by omega), i64_nat b (by omega), IntWalk.i64_in _ (by omega)]
theorem or_nat (a b : Nat) (ha : a < 4294967296) (hb : b < 4294967296) : bits .or .i64 (a : Int) (b : Int) = ((a ||| b : Nat) : Int) := by
  have hx : a ||| b < 2 ^ 32 := Nat.or_lt_two_pow (by omega) (by omega)
  show IntKind.i64.wrap ((BitVec.ofInt 64 (a : Int) ||| BitVec.ofInt 64 (b : Int)).toNat : Int) = _
  rw [BitVec.toNat_or, i64_nat a (by omega), i64_nat b (by omega), IntWalk.i64_in _ (by omega)]
theorem bitN_test (n k : Nat) : bitN n k = n.testBit k := by unfold bitN; rw [Nat.testBit_eq_decide_div_mod_eq]
theorem numGo_inj (xs bs : List Bool) (h : xs.length = bs.length) (e : numGo 0 xs = numGo 0 bs) : xs = bs := by
  rw [← valuesN_numGo xs, ← valuesN_numGo bs, h, e]
theorem numGo_lt (a : Nat) (bs : List Bool) : numGo a bs < (a + 1) * 2 ^ bs.length := by
  induction bs generalizing a with
  | nil => simp [numGo]
  | cons b r ih =>
    have h1 := ih (2 * a + b.toNat)
    have h2 := b.toNat_le
    rw [numGo, List.length_cons, Nat.pow_succ]
    refine Nat.lt_of_lt_of_le h1 ?_
    rw [Nat.mul_comm (2 ^ r.length) 2, ← Nat.mul_assoc]
    exact Nat.mul_le_mul_right _ (by omega)
/-- the mask of letters: their digits -/
def maskOf (L : Nat) (list : List Int) : Nat := list.foldl (fun m x => m ||| 2 ^ (L - x.toNat)) 0
theorem mask_snoc (L : Nat) (list : List Int) (x : Int) : maskOf L (list ++ [x]) = maskOf L list ||| 2 ^ (L - x.toNat) := by simp [maskOf]
theorem mask_test (L : Nat) (list : List Int) (j : Nat) : (maskOf L list).testBit j = list.any fun x => decide (L - x.toNat = j) := by
  have h : ∀ (rs : List Int), (maskOf L rs.reverse).testBit j = rs.any fun x => decide (L - x.toNat = j) := by
    intro rs
    induction rs with
    | nil => simp [maskOf]
    | cons a r ih => rw [List.reverse_cons, mask_snoc, Nat.testBit_or, ih, Nat.testBit_two_pow, List.any_cons, Bool.or_comm]
  have := h list.reverse
  rw [List.reverse_reverse, List.any_reverse] at this
  exact this
theorem mask_lt (L : Nat) (list : List Int) (h : ∀ x ∈ list, 1 ≤ x) (hL : 1 ≤ L) : maskOf L list < 2 ^ L := by
  have h : ∀ (rs : List Int), (∀ x ∈ rs, 1 ≤ x) → maskOf L rs.reverse < 2 ^ L := by
    intro rs
    induction rs with
    | nil => intro _; simpa [maskOf] using Nat.pow_pos (by decide : 0 < 2)
    | cons a r ih =>
      intro h
      rw [List.reverse_cons, mask_snoc]
      refine Nat.or_lt_two_pow (ih fun x hx => h x (by simp [hx])) ?_
      have := h a (by simp)
      exact Nat.pow_lt_pow_right (by decide) (by omega)
  have := h list.reverse (fun x hx => by simp at hx; exact ‹∀ x ∈ list, 1 ≤ x› x hx)
  rwa [List.reverse_reverse] at this
/-- the digits of n at letters -/
def projN (L : Nat) (list : List Int) (n : Nat) : List Bool := list.map fun x => bitN n (L - x.toNat)
theorem mask_key (L : Nat) (list : List Int) (a b : Nat) : a &&& maskOf L list = b &&& maskOf L list ↔ numGo 0 (projN L list a) = numGo 0 (projN L list b) := by
  constructor
  · intro h
    have : projN L list a = projN L list b := by
      unfold projN
      apply List.map_congr_left
      intro x hx
      rw [bitN_test, bitN_test]
      have h2 := congrArg (fun n => n.testBit (L - x.toNat)) h
      have h3 : (list.any fun y => decide (L - y.toNat = L - x.toNat)) = true := by rw [List.any_eq_true]; exact ⟨x, hx, by simp⟩
      simp only [Nat.testBit_and, mask_test, h3, Bool.and_true] at h2
      exact h2
    rw [this]
  · intro h
    have h1 := numGo_inj _ _ (by simp [projN]) h
    apply Nat.eq_of_testBit_eq
    intro j
    rw [Nat.testBit_and, Nat.testBit_and, mask_test]
    cases hj : list.any fun x => decide (L - x.toNat = j)
    · simp
    · rw [List.any_eq_true] at hj
      obtain ⟨x, hx, hxj⟩ := hj
      have hxj := of_decide_eq_true hxj
      unfold projN at h1
      have h2 := List.map_inj_left.1 h1 x hx
      rw [bitN_test, bitN_test, hxj] at h2
      rw [h2]
/-! ### lists that rise -/
def risesI : List Int → Bool
  | x :: y :: r => decide (x < y) && risesI (y :: r)
  | _ => true
def onGo (L : Int) : Int → List Int → Bool
  | _, [] => true
  | p, x :: r => inB 1 L x && decide (p < x) && onGo L x r
theorem onGo_ok (L p : Int) (zs : List Int) : onGo L p zs = ((zs.all (inB 1 L) && risesI zs) && (match zs with | [] => true | x :: _ => decide (p < x))) := by
  induction zs generalizing p with
  | nil => rfl
  | cons a r ih =>
    rw [onGo, ih]
    cases r with
    | nil => simp [risesI]
    | cons b r => simp only [List.all_cons, risesI]; cases inB 1 L a <;> cases decide (p < a) <;> cases inB 1 L b <;> cases decide (a < b) <;> simp
theorem onGo_zero (L : Int) (zs : List Int) : onGo L 0 zs = (risesI zs && zs.all (inB 1 L)) := by
  rw [onGo_ok]
  cases zs with
  | nil => rfl
  | cons a r =>
    cases h : inB 1 L a
    · simp [h]
    · have := inB_true h
      simp only [List.all_cons, h, decide_eq_true (show (0 : Int) < a by omega), Bool.and_true, Bool.true_and]
      rw [Bool.and_comm]
theorem onGo_len (L p : Int) (zs : List Int) (h : onGo L p zs = true) (hp : 0 ≤ p) (hpl : p ≤ L ∨ zs = []) : (zs.length : Int) + p ≤ L ∨ zs = [] := by
  induction zs generalizing p with
  | nil => exact .inr rfl
  | cons a r ih =>
    simp only [onGo, Bool.and_eq_true, decide_eq_true_eq] at h
    obtain ⟨⟨h1, h2⟩, h3⟩ := h
    have := inB_true h1
    rcases ih a h3 (by omega) (.inl (by omega)) with h4 | h4
    · left; rw [List.length_cons]; omega
    · left; rw [h4]; simp; omega
theorem on_len {L : Nat} {zs : List Int} (h : onGo L 0 zs = true) : zs.length ≤ L := by
  rcases onGo_len L 0 zs h (by omega) (.inl (by omega)) with h | h
  · omega
  · rw [h]; simp
theorem on_all {L p : Int} {zs : List Int} (h : onGo L p zs = true) : ∀ x ∈ zs, 1 ≤ x ∧ x ≤ L := by
  intro x hx
  rw [onGo_ok, Bool.and_eq_true, Bool.and_eq_true, List.all_eq_true] at h
  exact inB_true (h.1.1 x hx)
def prevRaw (zs : List Int) (k : Nat) : Int := if k = 0 then 0 else zs.getD (k - 1) 0
theorem prevRaw_succ (zs : List Int) (k : Nat) (h : k < zs.length) : prevRaw zs (k + 1) = zs[k] := by simp [prevRaw, h]
theorem prevRaw_zero (zs : List Int) (k : Nat) (h : ¬ 0 < k) : prevRaw zs k = 0 := by unfold prevRaw; rw [if_pos (by omega)]
theorem prevRaw_pos (zs : List Int) (k : Nat) (h0 : 0 < k) (h : k - 1 < zs.length) : prevRaw zs k = zs[k - 1] := by
  unfold prevRaw; rw [if_neg (by omega)]; simp [h]
end Go.Proofs.Ytdeelgnfnhdklaa
