/-
  ThinForm leaves out clauses of which others are parts: contracts in the reference and in the program.
-/
import Derived.Test.YtdeelgnfnhdklaaStep
import Derived.Test.YtdeelgnfnhdklaaPart
import Derived.Test.YtdeelgnfnhdklaaCopy
import Derived.Test.YtdeelgnfnhdklaaTwo
import Derived.Deep.RegionLaw
namespace Go.Proofs.Ytdeelgnfnhdklaa
open Go.RowKit
set_option linter.unusedVariables false

def thinTold (cs : List (List Int)) (i k : Nat) : Bool :=
  !(decide (k = i)) && (isPart (cs.getD k []) (cs.getD i []) && (decide ((cs.getD k []).length < (cs.getD i []).length) || decide (k < i)))
def thinAny (cs : List (List Int)) (i n : Nat) : Bool := (List.range n).any (thinTold cs i)
theorem thinAny_succ (cs : List (List Int)) (i n : Nat) : thinAny cs i (n + 1) = (thinAny cs i n || thinTold cs i n) := by
  simp [thinAny, List.range_succ, List.any_append]
def thinTo (cs : List (List Int)) (n : Nat) : List (List Int) := ((List.range n).filter fun i => !thinAny cs i cs.length).map fun i => cs.getD i []
theorem thinTo_no {cs : List (List Int)} {n : Nat} (h : thinAny cs n cs.length = true) : thinTo cs (n + 1) = thinTo cs n := by
  simp [thinTo, List.range_succ, List.filter_append, h]
theorem thinTo_yes {cs : List (List Int)} {n : Nat} (h : thinAny cs n cs.length = false) (hn : n < cs.length) : thinTo cs (n + 1) = thinTo cs n ++ [cs[n]] := by
  simp [thinTo, List.range_succ, List.filter_append, h, List.getD, hn]
theorem thinTo_len (cs : List (List Int)) (n : Nat) : (thinTo cs n).length ≤ n := by
  have := List.length_filter_le (fun i => !thinAny cs i cs.length) (List.range n)
  simpa [thinTo] using this
theorem thinTo_sum (cs : List (List Int)) (n : Nat) (hn : n ≤ cs.length) : ((thinTo cs n).map List.length).sum ≤ (cs.map List.length).sum := by
  have h : ∀ n, n ≤ cs.length → ((thinTo cs n).map List.length).sum ≤ offs cs n := by
    intro n
    induction n with
    | zero => intro _; simp [thinTo]
    | succ n ih =>
      intro hn
      have h1 := ih (by omega)
      have h2 := offs_succ cs n (by omega)
      cases h : thinAny cs n cs.length
      · rw [thinTo_yes h (by omega), List.map_append, List.sum_append]; simp; omega
      · rw [thinTo_no h]; omega
  have := h n hn
  have := offs_le cs n
  omega
def thinForm (f : FormD) : FormD × Bool := if validForm f then (⟨f.letters, thinTo f.clauses f.clauses.length⟩, true) else (⟨0, []⟩, false)
theorem told_same {cs : List (List Int)} {i k : Nat} (h : k = i) : thinTold cs i k = false := by simp [thinTold, h]
theorem told_apart {cs : List (List Int)} {i k : Nat} (hi : i < cs.length) (hk : k < cs.length) (h : k ≠ i) : thinTold cs i k = (isPart cs[k] cs[i] && (decide (cs[k].length < cs[i].length) || decide (k < i))) := by
  simp [thinTold, h, List.getD, hi, hk]
/-- what the law asks of the results where there is none -/
theorem noForm (w : World) (hi : Nat) (h : hi ≤ w.heap.size) (lo : Nat) : OwnF w lo hi (.agg #[.int .i64 0, .slice none 0 0]) ⟨0, []⟩ := ⟨⟨_, rfl, OwnII.nil _ _ _ h⟩, by constructor <;> decide⟩
end Go.Proofs.Ytdeelgnfnhdklaa
