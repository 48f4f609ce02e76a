/-
  Cities: the plain part: how many there are, whether ways are ways; no statement of the program is proved here.
-/
import Derived.Test.YtkankfdpodofjaaNum
namespace Go.Proofs.Ytkankfdpodofjaa
open Go.RowKit
set_option linter.unusedVariables false
set_option maxRecDepth 100000

def root (L : Nat) : Nat := if L = 1 then 1 else if L = 4 then 2 else if L = 9 then 3 else if L = 16 then 4 else if L = 25 then 5 else if L = 36 then 6 else if L = 49 then 7 else if L = 64 then 8 else if L = 81 then 9 else if L = 100 then 10 else 0
theorem root_eq {n L : Nat} (h1 : 1 ≤ n) (h2 : n ≤ 10) (h : n * n = L) : root L = n := by
  have : n = 1 ∨ n = 2 ∨ n = 3 ∨ n = 4 ∨ n = 5 ∨ n = 6 ∨ n = 7 ∨ n = 8 ∨ n = 9 ∨ n = 10 := by omega
  subst h
  rcases this with rfl | rfl | rfl | rfl | rfl | rfl | rfl | rfl | rfl | rfl <;> rfl
theorem root_sq {L : Nat} (h : root L ≠ 0) : root L * root L = L ∧ 1 ≤ root L ∧ root L ≤ 10 := by
  unfold root at h ⊢
  repeat' split
  all_goals first | (subst_vars; decide) | (exfalso; apply h; simp [*])
theorem root_none {L : Nat} (h : ∀ n, 1 ≤ n → n ≤ 10 → n * n ≠ L) : root L = 0 := by
  by_cases h0 : root L = 0
  · exact h0
  · obtain ⟨e, h1, h2⟩ := root_sq h0
    exact absurd e (h _ h1 h2)
theorem root_le (L : Nat) : root L ≤ 10 := by
  by_cases h0 : root L = 0
  · omega
  · exact (root_sq h0).2.2
/-- the way from i to k is the way back, and no way leads from a city to itself -/
def okP (ws : List Int) (n i k : Nat) : Bool := (ws.getD (i * n + k) 0 == ws.getD (k * n + i) 0) && (!(i == k) || ws.getD (i * n + k) 0 == 0)
def symW (ws : List Int) (n : Nat) : Bool := (List.range n).all fun i => (List.range n).all fun k => okP ws n i k
theorem symW_iff {ws : List Int} {n : Nat} : symW ws n = true ↔ ∀ i k, i < n → k < n → okP ws n i k = true := by
  simp only [symW, List.all_eq_true, List.mem_range]
  exact ⟨fun h i k hi hk => h i hi k hk, fun h i hi k hk => h i k hi hk⟩
theorem okP_comm (ws : List Int) (n i k : Nat) : okP ws n i k = okP ws n k i := by
  rw [Bool.eq_iff_iff]
  simp only [okP, Bool.and_eq_true, beq_iff_eq, Bool.or_eq_true, Bool.not_eq_true']
  constructor
  · rintro ⟨h1, h2⟩
    refine ⟨h1.symm, ?_⟩
    rw [← h1]
    rcases h2 with h2 | h2
    · left; rw [← h2]; exact Bool.beq_comm
    · exact .inr h2
  · rintro ⟨h1, h2⟩
    refine ⟨h1.symm, ?_⟩
    rw [← h1]
    rcases h2 with h2 | h2
    · left; rw [← h2]; exact Bool.beq_comm
    · exact .inr h2
def isCit (ws : List Int) : Bool := !(root ws.length == 0) && (ws.all (inB 0 1000) && symW ws (root ws.length))
def citN (ws : List Int) : Nat := if isCit ws then root ws.length else 0
theorem isCit_out {ws : List Int} (h : isCit ws = true) : 1 ≤ root ws.length ∧ root ws.length ≤ 10 ∧ root ws.length * root ws.length = ws.length ∧ (∀ x ∈ ws, 0 ≤ x ∧ x ≤ 1000) ∧ symW ws (root ws.length) = true := by
  simp only [isCit, Bool.and_eq_true, Bool.not_eq_true', beq_eq_false_iff_ne, List.all_eq_true] at h
  obtain ⟨h1, h2, h3⟩ := h
  obtain ⟨e, a, b⟩ := root_sq h1
  exact ⟨a, b, e, fun x hx => inB_true (h2 x hx), h3⟩
theorem citN_yes {ws : List Int} (h : isCit ws = true) : citN ws = root ws.length := by rw [citN, if_pos h]
theorem citN_no {ws : List Int} (h : isCit ws = false) : citN ws = 0 := by rw [citN, if_neg (by rw [h]; decide)]
theorem citN_pos {ws : List Int} : 0 < citN ws ↔ isCit ws = true := by
  cases h : isCit ws
  · rw [citN_no h]; simp
  · rw [citN_yes h]; simp; exact (isCit_out h).1
theorem pos_lt {n i k : Nat} (hi : i < n) (hk : k < n) : i * n + k < n * n := by
  have : (i + 1) * n ≤ n * n := Nat.mul_le_mul_right n (by omega)
  rw [Nat.add_mul, Nat.one_mul] at this
  omega
/-- the way from a to b -/
def wayOf (ws : List Int) (n : Nat) (a b : Int) : Int := ws.getD (a * n + b).toNat 0
theorem wayOf_nat (ws : List Int) (n i k : Nat) : wayOf ws n (i : Int) (k : Int) = ws.getD (i * n + k) 0 := by
  unfold wayOf
  congr 1
theorem getD_memI {A : List Int} {j : Nat} (h : j < A.length) : A.getD j 0 ∈ A := by simp [List.getD, h]
theorem wayOf_rng {ws : List Int} {n : Nat} (hl : n * n = ws.length) (hw : ∀ x ∈ ws, 0 ≤ x ∧ x ≤ 1000) {a b : Int} (ha : 0 ≤ a) (ha2 : a < n) (hb : 0 ≤ b) (hb2 : b < n) : 0 ≤ wayOf ws n a b ∧ wayOf ws n a b ≤ 1000 := by
  obtain ⟨i, rfl⟩ := Int.eq_ofNat_of_zero_le ha
  obtain ⟨k, rfl⟩ := Int.eq_ofNat_of_zero_le hb
  rw [wayOf_nat]
  have := pos_lt (n := n) (i := i) (k := k) (by omega) (by omega)
  exact hw _ (getD_memI (by omega))
end Go.Proofs.Ytkankfdpodofjaa
