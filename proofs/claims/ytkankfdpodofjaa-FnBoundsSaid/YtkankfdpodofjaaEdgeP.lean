/-
  The edges of the tree, one by one: the plain part; no statement of the program is proved here.
-/
import Derived.Test.YtkankfdpodofjaaTourP
import Derived.Test.YtkankfdpodofjaaBool
namespace Go.Proofs.Ytkankfdpodofjaa
open Go.RowKit
set_option linter.unusedVariables false
set_option maxRecDepth 100000

def tS (W : Int → Int → Int) (n : Nat) : Nat → List Int
  | 0 => [0]
  | k + 1 => tS W n k ++ [(pick W (tS W n k) 0 n).2]
def tE (W : Int → Int → Int) (n : Nat) : Nat → List Int
  | 0 => []
  | k + 1 => tE W n k ++ [(pick W (tS W n k) 0 n).1, (pick W (tS W n k) 0 n).2]
def tT (W : Int → Int → Int) (n : Nat) : Nat → Int
  | 0 => 0
  | k + 1 => tT W n k + W (pick W (tS W n k) 0 n).1 (pick W (tS W n k) 0 n).2
theorem treeGo_unroll (W : Int → Int → Int) (n : Nat) : ∀ (m k : Nat), treeGo W 0 n m (tS W n k) (tE W n k) (tT W n k) = (tE W n (k + m), tT W n (k + m)) := by
  intro m
  induction m with
  | zero => intro k; rfl
  | succ m ih =>
    intro k
    rw [treeGo]
    have := ih (k + 1)
    rw [tS, tE, tT] at this
    rw [this, show k + 1 + m = k + (m + 1) by omega]
theorem treeOf_unroll (W : Int → Int → Int) (n : Nat) : treeOf W 0 n = (tE W n (n - 1), tT W n (n - 1)) := by
  have := treeGo_unroll W n (n - 1) 0
  rw [Nat.zero_add] at this
  exact this
theorem tE_len (W : Int → Int → Int) (n : Nat) : ∀ k, (tE W n k).length = 2 * k := by
  intro k
  induction k with
  | zero => rfl
  | succ k ih => rw [tE, List.length_append, ih]; rfl
theorem tS_len (W : Int → Int → Int) (n : Nat) : ∀ k, (tS W n k).length = k + 1 := by
  intro k
  induction k with
  | zero => rfl
  | succ k ih => rw [tS, List.length_append, ih]; rfl
theorem tS_zero (W : Int → Int → Int) (n : Nat) : ∀ k, (0 : Int) ∈ tS W n k := by
  intro k
  induction k with
  | zero => simp [tS]
  | succ k ih => rw [tS]; exact List.mem_append_left _ ih
theorem tS_pick (W : Int → Int → Int) {n k : Nat} (hk : k + 1 < n) : (pick W (tS W n k) 0 n).1 ∈ tS W n k ∧ 0 ≤ (pick W (tS W n k) 0 n).1 ∧ (pick W (tS W n k) 0 n).1 < n ∧ (pick W (tS W n k) 0 n).2 ∉ tS W n k ∧ 0 ≤ (pick W (tS W n k) 0 n).2 ∧ (pick W (tS W n k) 0 n).2 < n := by
  have := pick_ok W (tS W n k) 0 n (Int.le_refl _) ⟨0, Int.le_refl _, by omega, tS_zero W n k⟩ (by rw [tS_len]; omega)
  rw [Int.zero_add] at this
  exact this
theorem tS_nd (W : Int → Int → Int) {n : Nat} : ∀ k, k < n → (tS W n k).Nodup ∧ ∀ x ∈ tS W n k, 0 ≤ x ∧ x < (n : Int) := by
  intro k
  induction k with
  | zero => intro h; refine ⟨by simp [tS], fun x hx => ?_⟩; simp [tS] at hx; omega
  | succ k ih =>
    intro h
    obtain ⟨i1, i2⟩ := ih (by omega)
    obtain ⟨p1, p2, p3, p4, p5, p6⟩ := tS_pick W h
    rw [tS]
    refine ⟨?_, fun x hx => ?_⟩
    · rw [List.nodup_append]
      refine ⟨i1, by simp, fun x hx y hy => ?_⟩
      rw [List.mem_singleton] at hy
      subst hy
      rintro rfl
      exact p4 hx
    · rcases List.mem_append.1 hx with hx | hx
      · exact i2 x hx
      · rw [List.mem_singleton] at hx; subst hx; exact ⟨p5, p6⟩
theorem tS_all (W : Int → Int → Int) {n : Nat} (hn : 1 ≤ n) {v : Int} (h0 : 0 ≤ v) (h1 : v < n) : v ∈ tS W n (n - 1) := by
  obtain ⟨i1, i2⟩ := tS_nd W (n - 1) (show n - 1 < n by omega)
  exact all_in (by rw [tS_len]; omega) i1 i2 h0 h1
theorem tE_at (W : Int → Int → Int) (n : Nat) : ∀ (m k : Nat), k < m → (tE W n m).getD (2 * k) 0 = (pick W (tS W n k) 0 n).1 ∧ (tE W n m).getD (2 * k + 1) 0 = (pick W (tS W n k) 0 n).2 := by
  intro m
  induction m with
  | zero => intro k h; omega
  | succ m ih =>
    intro k h
    have hl := tE_len W n m
    rw [tE]
    by_cases hk : k < m
    · have := ih k hk
      simp only [List.getD] at this ⊢
      rw [List.getElem?_append_left (by omega), List.getElem?_append_left (by omega)]
      exact this
    · have : k = m := by omega
      subst this
      simp only [List.getD]
      rw [List.getElem?_append_right (by omega), List.getElem?_append_right (by omega), hl]
      simp
/-- which cities are in -/
def inK (W : Int → Int → Int) (n k : Nat) : List Bool := (List.range n).map fun x => decide (((x : Nat) : Int) ∈ tS W n k)
theorem inK_len (W : Int → Int → Int) (n k : Nat) : (inK W n k).length = n := by simp [inK]
theorem inK_at (W : Int → Int → Int) (n k : Nat) {x : Nat} (hx : x < n) : (inK W n k).getD x false = decide ((x : Int) ∈ tS W n k) := by simp [inK, List.getD, hx]
theorem inK_zero (W : Int → Int → Int) {n : Nat} (hn : 1 ≤ n) : (List.replicate n false).set 0 true = inK W n 0 := by
  refine List.ext_getElem (by simp [inK]) fun i h1 h2 => ?_
  rw [List.getElem_set]
  simp only [inK, tS, List.getElem_map, List.getElem_range, List.mem_singleton]
  by_cases h : i = 0
  · subst h; simp
  · rw [if_neg (fun e => h e.symm)]
    simp; omega
theorem inK_succ (W : Int → Int → Int) {n k b : Nat} (hb : (pick W (tS W n k) 0 n).2 = (b : Int)) : (inK W n k).set b true = inK W n (k + 1) := by
  refine List.ext_getElem (by simp [inK]) fun i h1 h2 => ?_
  rw [List.getElem_set]
  simp only [inK, tS, hb, List.getElem_map, List.getElem_range, List.mem_append, List.mem_singleton]
  by_cases h : b = i
  · subst h; simp
  · rw [if_neg h, Bool.eq_iff_iff, decide_eq_true_eq, decide_eq_true_eq]
    constructor
    · exact fun h => .inl h
    · rintro (h' | h')
      · exact h'
      · omega
theorem tT_rng {W : Int → Int → Int} {n : Nat} (hW : ∀ a b, 0 ≤ a → a < (n : Int) → 0 ≤ b → b < (n : Int) → 0 ≤ W a b ∧ W a b ≤ 1000) : ∀ k, k < n → 0 ≤ tT W n k ∧ tT W n k ≤ 1000 * k := by
  intro k
  induction k with
  | zero => intro _; simp [tT]
  | succ k ih =>
    intro h
    obtain ⟨i1, i2⟩ := ih (by omega)
    obtain ⟨p1, p2, p3, p4, p5, p6⟩ := tS_pick W h
    have := hW _ _ p2 p3 p5 p6
    rw [tT]
    omega
/-- one edge -/
structure EdgeF (W : Int → Int → Int) (n k a b : Nat) : Prop where
  ea : (tE W n (n - 1)).getD (2 * k) 0 = (a : Int)
  eb : (tE W n (n - 1)).getD (2 * k + 1) 0 = (b : Int)
  la : a < n
  lb : b < n
  ia : (inK W n k).getD a false = true
  ib : (inK W n k).getD b false = false
  nx : (inK W n k).set b true = inK W n (k + 1)
  tt : tT W n (k + 1) = tT W n k + W a b
theorem edgeF (W : Int → Int → Int) {n k : Nat} (hk : k + 1 < n) : ∃ a b, EdgeF W n k a b := by
  obtain ⟨p1, p2, p3, p4, p5, p6⟩ := tS_pick W hk
  obtain ⟨e1, e2⟩ := tE_at W n (n - 1) k (by omega)
  obtain ⟨a, ha⟩ := Int.eq_ofNat_of_zero_le p2
  obtain ⟨b, hb⟩ := Int.eq_ofNat_of_zero_le p5
  refine ⟨a, b, by rw [e1, ha], by rw [e2, hb], by omega, by omega, ?_, ?_, inK_succ W hb, by rw [tT, ha, hb]⟩
  · rw [inK_at W n k (by omega), decide_eq_true_eq, ← ha]; exact p1
  · rw [inK_at W n k (by omega), decide_eq_false_iff_not, ← hb]; exact p4
end Go.Proofs.Ytkankfdpodofjaa
