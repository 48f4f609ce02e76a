/-
  Bits of 64-bit integers that are natural numbers, digits of numbers of values, and lists of letters that rise.
-/
import Derived.Test.YtcpbgjnijhcpkaaModels2
namespace Go.Proofs.Ytcpbgjnijhcpkaa
open Go.RowKit
set_option linter.unusedVariables false
set_option maxRecDepth 100000

theorem i64_nat (a : Nat) (ha : a < 9223372036854775808) : (BitVec.ofInt 64 (a : Int)).toNat = a := by
  rw [BitVec.ofInt_natCast, BitVec.toNat_ofNat]; exact Nat.mod_eq_of_lt (by omega)
theorem and_nat (a b : Nat) (ha : a < 4294967296) (hb : b < 4294967296) : bits .and .i64 (a : Int) (b : Int) = ((a &&& b : Nat) : Int) := by
  have hx : a &&& b ≤ a := Nat.and_le_left
  show IntKind.i64.wrap ((BitVec.ofInt 64 (a : Int) &&& BitVec.ofInt 64 (b : Int)).toNat : Int) = _
  rw [BitVec.toNat_and, i64_nat a (by omega), i64_nat b (by omega), IntWalk.i64_in _ (by omega)]
theorem or_nat (a b : Nat) (ha : a < 4294967296) (hb : b < 4294967296) : bits .or .i64 (a : Int) (b : Int) = ((a ||| b : Nat) : Int) := by
  have hx : a ||| b < 2 ^ 32 := Nat.or_lt_two_pow (by omega) (by omega)
  show IntKind.i64.wrap ((BitVec.ofInt 64 (a : Int) ||| BitVec.ofInt 64 (b : Int)).toNat : Int) = _
  rw [BitVec.toNat_or, i64_nat a (by omega), i64_nat b (by omega), IntWalk.i64_in _ (by omega)]
theorem bitN_test (n k : Nat) : bitN n k = n.testBit k := by unfold bitN; rw [Nat.testBit_eq_decide_div_mod_eq]
theorem numGo_inj (xs bs : List Bool) (h : xs.length = bs.length) (e : numGo 0 xs = numGo 0 bs) : xs = bs := by
  rw [← valuesN_numGo xs, ← valuesN_numGo bs, h, e]
theorem numGo_lt (a : Nat) (bs : List Bool) : numGo a bs < (a + 1) * 2 ^ bs.length := by
  induction bs generalizing a with
  | nil => simp [numGo]
  | cons b r ih =>
    have h1 := ih (2 * a + b.toNat)
    have h2 := b.toNat_le
    rw [numGo, List.length_cons, Nat.pow_succ]
    refine Nat.lt_of_lt_of_le h1 ?_
    rw [Nat.mul_comm (2 ^ r.length) 2, ← Nat.mul_assoc]
    exact Nat.mul_le_mul_right _ (by omega)
/-- the mask of letters: their digits -/
def maskOf (L : Nat) (list : List Int) : Nat := list.foldl (fun m x => m ||| 2 ^ (L - x.toNat)) 0
theorem mask_snoc (L : Nat) (list : List Int) (x : Int) : maskOf L (list ++ [x]) = maskOf L list ||| 2 ^ (L - x.toNat) := by simp [maskOf]
theorem mask_test (L : Nat) (list : List Int) (j : Nat) : (maskOf L list).testBit j = list.any fun x => decide (L - x.toNat = j) := by
  have h : ∀ (rs : List Int), (maskOf L rs.reverse).testBit j = rs.any fun x => decide (L - x.toNat = j) := by
    intro rs
    induction rs with
    | nil => simp [maskOf]
    | cons a r ih => rw [List.reverse_cons, mask_snoc, Nat.testBit_or, ih, Nat.testBit_two_pow, List.any_cons, Bool.or_comm]
  have := h list.reverse
  rw [List.reverse_reverse, List.any_reverse] at this
  exact this
theorem mask_lt (L : Nat) (list : List Int) (h : ∀ x ∈ list, 1 ≤ x) (hL : 1 ≤ L) : maskOf L list < 2 ^ L := by
  have h : ∀ (rs : List Int), (∀ x ∈ rs, 1 ≤ x) → maskOf L rs.reverse < 2 ^ L := by
    intro rs
    induction rs with
    | nil => intro _; simpa [maskOf] using Nat.pow_pos (by decide : 0 < 2)
    | cons a r ih =>
      intro h
      rw [List.reverse_cons, mask_snoc]
      refine Nat.or_lt_two_pow (ih fun x hx => h x (by simp [hx])) ?_
      have := h a (by simp)
      exact Nat.pow_lt_pow_right (by decide) (by omega)
  have := h list.reverse (fun x hx => by simp at hx; exact ‹∀ x ∈ list, 1 ≤ x› x hx)
  rwa [List.reverse_reverse] at this
/-- the digits of n at letters -/
def projN (L : Nat) (list : List Int) (n : Nat) : List Bool := list.map fun x => bitN n (L - x.toNat)
theorem mask_key (L : Nat) (list : List Int) (a b : Nat) : a &&& maskOf L list = b &&& maskOf L list ↔ numGo 0 (projN L list a) = numGo 0 (projN L list b) := by
  constructor
  · intro h
    have : projN L list a = projN L list b := by
      unfold projN
      apply List.map_congr_left
      intro x hx
      rw [bitN_test, bitN_test]
      have h2 := congrArg (fun n => n.testBit (L - x.toNat)) h
      have h3 : (list.any fun y => decide (L - y.toNat = L - x.toNat)) = true := by rw [List.any_eq_true]; exact ⟨x, hx, by simp⟩
      simp only [Nat.testBit_and, mask_test, h3, Bool.and_true] at h2
      exact h2
    rw [this]
  · intro h
    have h1 := numGo_inj _ _ (by simp [projN]) h
    apply Nat.eq_of_testBit_eq
    intro j
    rw [Nat.testBit_and, Nat.testBit_and, mask_test]
    cases hj : list.any fun x => decide (L - x.toNat = j)
    · simp
    · rw [List.any_eq_true] at hj
      obtain ⟨x, hx, hxj⟩ := hj
      have hxj := of_decide_eq_true hxj
      unfold projN at h1
      have h2 := List.map_inj_left.1 h1 x hx
      rw [bitN_test, bitN_test, hxj] at h2
      rw [h2]
/-! ### lists that rise -/
def risesI : List Int → Bool
  | x :: y :: r => decide (x < y) && risesI (y :: r)
  | _ => true
def onGo (L : Int) : Int → List Int → Bool
  | _, [] => true
  | p, x :: r => inB 1 L x && decide (p < x) && onGo L x r
theorem onGo_ok (L p : Int) (zs : List Int) : onGo L p zs = ((zs.all (inB 1 L) && risesI zs) && (match zs with | [] => true | x :: _ => decide (p < x))) := by
  induction zs generalizing p with
  | nil => rfl
  | cons a r ih =>
    rw [onGo, ih]
    cases r with
    | nil => simp [risesI]
    | cons b r => simp only [List.all_cons, risesI]; cases inB 1 L a <;> cases decide (p < a) <;> cases inB 1 L b <;> cases decide (a < b) <;> simp
theorem onGo_zero (L : Int) (zs : List Int) : onGo L 0 zs = (risesI zs && zs.all (inB 1 L)) := by
  rw [onGo_ok]
  cases zs with
  | nil => rfl
  | cons a r =>
    cases h : inB 1 L a
    · simp [h]
    · have := inB_true h
      simp only [List.all_cons, h, decide_eq_true (show (0 : Int) < a by omega), Bool.and_true, Bool.true_and]
      rw [Bool.and_comm]
theorem onGo_len (L p : Int) (zs : List Int) (h : onGo L p zs = true) (hp : 0 ≤ p) (hpl : p ≤ L ∨ zs = []) : (zs.length : Int) + p ≤ L ∨ zs = [] := by
  induction zs generalizing p with
  | nil => exact .inr rfl
  | cons a r ih =>
    simp only [onGo, Bool.and_eq_true, decide_eq_true_eq] at h
    obtain ⟨⟨h1, h2⟩, h3⟩ := h
    have := inB_true h1
    rcases ih a h3 (by omega) (.inl (by omega)) with h4 | h4
    · left; rw [List.length_cons]; omega
    · left; rw [h4]; simp; omega
theorem on_len {L : Nat} {zs : List Int} (h : onGo L 0 zs = true) : zs.length ≤ L := by
  rcases onGo_len L 0 zs h (by omega) (.inl (by omega)) with h | h
  · omega
  · rw [h]; simp
theorem on_all {L p : Int} {zs : List Int} (h : onGo L p zs = true) : ∀ x ∈ zs, 1 ≤ x ∧ x ≤ L := by
  intro x hx
  rw [onGo_ok, Bool.and_eq_true, Bool.and_eq_true, List.all_eq_true] at h
  exact inB_true (h.1.1 x hx)
def prevRaw (zs : List Int) (k : Nat) : Int := if k = 0 then 0 else zs.getD (k - 1) 0
theorem prevRaw_succ (zs : List Int) (k : Nat) (h : k < zs.length) : prevRaw zs (k + 1) = zs[k] := by simp [prevRaw, h]
theorem prevRaw_zero (zs : List Int) (k : Nat) (h : ¬ 0 < k) : prevRaw zs k = 0 := by unfold prevRaw; rw [if_pos (by omega)]
theorem prevRaw_pos (zs : List Int) (k : Nat) (h0 : 0 < k) (h : k - 1 < zs.length) : prevRaw zs k = zs[k - 1] := by
  unfold prevRaw; rw [if_neg (by omega)]; simp [h]
theorem rises_short (zs : List Int) (h : zs.length ≤ 1) : risesI zs = true := by
  match zs, h with
  | [], _ => rfl
  | [x], _ => rfl
set_option maxHeartbeats 800000 in
set_option maxRecDepth 100000 in
theorem isRising_any {l h : Nat} (v : Value) (zs : List Int) (w : World) (hv : Ints w l h v zs) (hz : zs.length ≤ 1048576) :
    Calls Try.prog 78 #[v] w fun e w' => e = .returned (.bool (risesI zs)) ∧ Drew w w' := by
  obtain ⟨a, cap, rfl, hc1, hc2, hd⟩ := hv.out
  go_enter Try.func78, Try.ntmps78
  go_wp2_with fail
  go_loopw [3] (fun i wr => ∃ k : Nat, 1 ≤ k ∧ i = .int .i64 k ∧ Hid (risesI (zs.drop (k - 1)) = risesI zs) ∧ Drew w wr ∧ (k ≤ zs.length ∨ zs.length = 0)) (fun i _ => zs.length - (intOf i).toNat)
  case atStart => exact ⟨1, Nat.le_refl _, rfl, Lib.hid (by simp), Drew.refl _, by omega⟩
  case round =>
    obtain ⟨k, hk1, rfl, H, hD, hk2⟩ := hrel
    have hcw := hD.cell
    by_cases hlt : k < zs.length
    · have hlt' : k - 1 < zs.length := by omega
      have HD := Lib.hid (drop_cons zs (k - 1) hlt')
      have HD2 := Lib.hid (drop_cons zs k hlt)
      rcases hd with rfl | ⟨b, off, rfl, hb1, hb2, hb3, hcell⟩
      · simp at hlt
      have hck := hcell k hlt
      have hckp := hcell (k - 1) hlt'
      clear hcell
      have HS := Lib.hid (show risesI (zs.drop (k - 1)) = (decide (zs[k - 1] < zs[k]) && risesI (zs.drop k)) by
        rw [HD.out, show k - 1 + 1 = k by omega, HD2.out, risesI])
      have hwr : IntKind.i64.wrap ((k : Int) - 1) = (k : Int) - 1 := IntWalk.i64_in _ (by omega)
      have hk0 : (0 : Int) ≤ (k : Int) - 1 := by omega
      have hkn : ((k : Int) - 1).toNat = k - 1 := by omega
      have hkl : (k : Int) - 1 < (zs.length : Int) := by omega
      cases hq : decide (zs[k] ≤ zs[k - 1])
      all_goals
        go_wp2_with fail
        go_quiet (fail)
        clear hwr hk0 hkn hkl
        go_wp2
      · go_roundw
        case rel => exact ⟨k + 1, by omega, by go_num, Lib.hid (by rw [show k + 1 - 1 = k by omega, ← H.out, HS.out, show decide (zs[k - 1] < zs[k]) = true by simp at hq ⊢; omega, Bool.true_and]), hD.step _, by omega⟩
        case measure => simp [intOf]; omega
      · go_ret
        exact ⟨ret_bool (by rw [← H.out, HS.out, show decide (zs[k - 1] < zs[k]) = false by simp at hq ⊢; omega, Bool.false_and]), hD.step _⟩
    · go_wp2
      go_ret
      exact ⟨ret_bool (by rw [← H.out, rises_short _ (by rw [List.length_drop]; omega)]), hD⟩
end Go.Proofs.Ytcpbgjnijhcpkaa
