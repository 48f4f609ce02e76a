/-
  Contracts of the functions of the laws that copy, compare, measure and mark slices of integers.
-/
import Derived.Test.YtcpbgjnijhcpkaaNum
namespace Go.Proofs.Ytcpbgjnijhcpkaa
open Go.RowKit
set_option linter.unusedVariables false
set_option maxRecDepth 100000
def markI (k : Int) : Int := k
def marksI (k : Int) (n : Nat) : List Int := (List.range n).map fun (j : Nat) => markI (k + (j : Int))
theorem marksI_succ (k : Int) (n : Nat) : marksI k (n + 1) = marksI k n ++ [markI (k + (n : Int))] := by simp [marksI, List.range_succ]
theorem marksI_len (k : Int) (n : Nat) : (marksI k n).length = n := by simp [marksI]
theorem marksI_rng (k : Int) (n : Nat) (h0 : 0 ≤ k) (h1 : k + n ≤ 17592186043904) : ∀ x ∈ marksI k n, I64 x := by
  intro x hx
  simp only [marksI, markI, List.mem_map, List.mem_range] at hx
  obtain ⟨j, hj, rfl⟩ := hx
  unfold I64; omega
theorem marksI_set (k : Int) (xs : List Int) (j : Nat) (hj : j < xs.length) : (marksI k j ++ xs.drop j).set j (markI (k + (j : Int))) = marksI k (j + 1) ++ xs.drop (j + 1) := by
  rw [drop_cons xs j hj, List.set_append_right _ _ (by rw [marksI_len]; exact Nat.le_refl _), marksI_len, Nat.sub_self, List.set_cons_zero, marksI_succ]; simp
end Go.Proofs.Ytcpbgjnijhcpkaa
