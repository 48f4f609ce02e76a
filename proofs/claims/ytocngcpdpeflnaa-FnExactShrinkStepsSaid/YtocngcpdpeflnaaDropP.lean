/-
  Rows without one row: the plain part.
-/
import Derived.Test.YtocngcpdpeflnaaValidRows
namespace Go.Proofs.Ytocngcpdpeflnaa
open Go.RowKit
set_option linter.unusedVariables false
set_option maxRecDepth 100000

/-- the numbers of the first k rows, row i left out -/
def dropN (zs : List Nat) (V i : Nat) : Nat → List Nat
  | 0 => []
  | k + 1 => dropN zs V i k ++ (if k = i then [] else (zs.drop (k * V)).take V)
/-- the first k bounds, bound i left out -/
def dropB (bs : List Nat) (i : Nat) : Nat → List Nat
  | 0 => []
  | k + 1 => dropB bs i k ++ (if k = i then [] else [bs.getD k 0])
def dropRow (r : RowsD) (i : Int) : RowsD × Bool :=
  if okRows r && decide (2 ≤ r.bounds.length) && inB 0 ((r.bounds.length : Int) - 1) i then
    (⟨r.vars, dropN r.numbers r.vars.toNat i.toNat r.bounds.length, dropB r.bounds i.toNat r.bounds.length, r.gains⟩, true)
  else (⟨0, [], [], []⟩, false)
theorem allFin_append : ∀ xs ys : List Nat, allFin (xs ++ ys) = (allFin xs && allFin ys)
  | [], ys => by simp [allFin]
  | x :: r, ys => by rw [List.cons_append, allFin, allFin, allFin_append r ys, Bool.and_assoc]
theorem allFin_take (zs : List Nat) (k : Nat) (h : allFin zs = true) : allFin (zs.take k) = true := by
  have := allFin_append (zs.take k) (zs.drop k)
  rw [List.take_append_drop, h] at this
  cases hx : allFin (zs.take k)
  · rw [hx] at this; simp at this
  · rfl
theorem allFin_drop (zs : List Nat) (k : Nat) (h : allFin zs = true) : allFin (zs.drop k) = true := by
  have := allFin_append (zs.take k) (zs.drop k)
  rw [List.take_append_drop, h] at this
  cases hx : allFin (zs.drop k)
  · rw [hx] at this; simp at this
  · rfl
theorem dropN_fin (zs : List Nat) (V i : Nat) (h : allFin zs = true) : ∀ k, allFin (dropN zs V i k) = true
  | 0 => rfl
  | k + 1 => by
    rw [dropN, allFin_append, dropN_fin zs V i h k]
    split
    · rfl
    · rw [allFin_take _ _ (allFin_drop _ _ h)]; rfl
theorem dropB_ok (bs : List Nat) (i : Nat) (h : bs.all okBy = true) : ∀ k, k ≤ bs.length → (dropB bs i k).all okBy = true
  | 0, _ => rfl
  | k + 1, hk => by
    rw [dropB, List.all_append, dropB_ok bs i h k (by omega)]
    split
    · rfl
    · have hm : bs.getD k 0 ∈ bs := by
        rw [List.getD, List.getElem?_eq_getElem (by omega : k < bs.length)]; exact List.getElem_mem _
      have := List.all_eq_true.1 h _ hm
      rw [List.all_cons, this]; rfl
theorem dropB_len (bs : List Nat) (i : Nat) : ∀ k, (dropB bs i k).length = k - (if i < k then 1 else 0)
  | 0 => rfl
  | k + 1 => by
    rw [dropB, List.length_append, dropB_len bs i k]
    by_cases h : k = i
    · subst h; rw [if_pos rfl, if_neg (Nat.lt_irrefl k), if_pos (Nat.lt_succ_self k)]; simp
    · rw [if_neg h]
      by_cases h2 : i < k
      · rw [if_pos h2, if_pos (by omega)]; simp; omega
      · rw [if_neg h2, if_neg (by omega)]; simp
theorem dropN_len (zs : List Nat) (V i n : Nat) (hz : zs.length = V * n) : ∀ k, k ≤ n → (dropN zs V i k).length = V * (k - (if i < k then 1 else 0))
  | 0, _ => by simp [dropN]
  | k + 1, hk => by
    rw [dropN, List.length_append, dropN_len zs V i n hz k (by omega)]
    by_cases h : k = i
    · subst h; rw [if_pos rfl, if_neg (Nat.lt_irrefl k), if_pos (Nat.lt_succ_self k)]; simp
    · rw [if_neg h]
      have hl : ((zs.drop (k * V)).take V).length = V := by
        rw [List.length_take, List.length_drop, hz]
        have h1 : (k + 1) * V ≤ n * V := Nat.mul_le_mul_right _ hk
        rw [Nat.succ_mul, Nat.mul_comm n V] at h1
        omega
      rw [hl]
      by_cases h2 : i < k
      · rw [if_pos h2, if_pos (by omega), show k + 1 - 1 = (k - 1) + 1 by omega, Nat.mul_succ]
      · rw [if_neg h2, if_neg (by omega), Nat.sub_zero, Nat.sub_zero, Nat.mul_succ]
theorem okRows_out {r : RowsD} (h : okRows r = true) : inB 1 8 r.vars = true ∧ inB 1 8 (r.bounds.length : Int) = true ∧ (r.gains.length : Int) = r.vars ∧ (r.numbers.length : Int) = r.vars * (r.bounds.length : Int) ∧ allFin r.numbers = true ∧ allFin r.gains = true ∧ r.bounds.all okBy = true := by
  simp only [okRows, Bool.and_eq_true, decide_eq_true_eq] at h
  obtain ⟨⟨⟨⟨⟨⟨h1, h2⟩, h3⟩, h4⟩, h5⟩, h6⟩, h7⟩ := h
  exact ⟨h1, h2, h3, h4, h5, h6, h7⟩
/-- what is left when one row is gone is valid where two were there -/
theorem dropped_ok {r : RowsD} {i : Nat} (h : okRows r = true) (hi : i < r.bounds.length) :
    okRows ⟨r.vars, dropN r.numbers r.vars.toNat i r.bounds.length, dropB r.bounds i r.bounds.length, r.gains⟩ = decide (2 ≤ r.bounds.length) := by
  obtain ⟨h1, h2, h3, h4, h5, h6, h7⟩ := okRows_out h
  have v1 := inB_true h1
  have v2 := inB_true h2
  obtain ⟨V, hV⟩ : ∃ V : Nat, r.vars = (V : Int) := ⟨r.vars.toNat, by omega⟩
  rw [hV] at h4
  have hz : r.numbers.length = V * r.bounds.length := by
    have : ((V * r.bounds.length : Nat) : Int) = (V : Int) * (r.bounds.length : Int) := by simp
    omega
  have hB := dropB_len r.bounds i r.bounds.length
  have hN := dropN_len r.numbers V i r.bounds.length hz r.bounds.length (Nat.le_refl _)
  rw [if_pos hi] at hB hN
  have e : r.vars.toNat = V := by omega
  rw [e]
  unfold okRows
  simp only [h1, h3, h6, dropN_fin r.numbers V i h5, dropB_ok r.bounds i h7 _ (Nat.le_refl _), hB, hN]
  have h8 : decide (((V * (r.bounds.length - 1) : Nat) : Int) = r.vars * ((r.bounds.length - 1 : Nat) : Int)) = true := decide_eq_true (by rw [hV]; simp)
  rw [h8]
  by_cases h9 : 2 ≤ r.bounds.length
  · rw [decide_eq_true h9, inB, decide_eq_true (by omega), decide_eq_true (by omega)]; simp
  · rw [decide_eq_false h9, inB, decide_eq_false (p := 1 ≤ ((r.bounds.length - 1 : Nat) : Int)) (by omega)]; simp
end Go.Proofs.Ytocngcpdpeflnaa
