/-
  DueOrder: contracts in the reference and in the program.
-/
import Derived.Test.YteoikfddebbakaaSort
import Derived.Test.YteoikfddebbakaaJobA
import Derived.OneCell
namespace Go.Proofs.Yteoikfddebbakaa
open Go.RowKit
set_option linter.unusedVariables false
set_option maxRecDepth 100000

/-- a block of one cell -/
theorem one_new (w : World) (t : TypeId) (v : Value) : (w.alloc (.cells #[v] t)).cell? ⟨w.heap.size, 0, none⟩ = some v := by
  rw [World.cell?_alloc_at _ _ _ _ rfl]; rfl
theorem below_newW (w : World) (o : Obj) : Below w.heap.size w (w.alloc o) := (Below.refl _ _).alloc (Nat.le_refl _) o
def dues (js : List JobD) : List Int := js.map JobD.x1
theorem dues_getD (js : List JobD) (i : Nat) (hi : i < js.length) : (dues js).getD i 0 = js[i].x1 := by simp [dues, List.getD, hi]
theorem dues_snoc (js : List JobD) (k : Nat) (hk : k < js.length) : dues (js.take (k + 1)) = dues (js.take k) ++ [js[k].x1] := by
  rw [List.take_succ_eq_append_getElem hk]; simp only [dues, List.map_append, List.map_cons, List.map_nil]
def dueOrderL (js : List JobD) : List Int := ordTo (keyLt (dues js)) js.length
def dueOrder (js : List JobD) : List Int × Bool := if areJobs js then (dueOrderL js, true) else ([], false)
def keyCmp (keys : List Int) (a b : Int) : Int := cmpI (keys.getD a.toNat 0) (keys.getD b.toNat 0)
theorem keyCmp_lt (keys : List Int) : ltOf (keyCmp keys) = keyLt keys := by
  funext x y; unfold ltOf keyCmp keyLt; exact cmpI_lt _ _
theorem areJobs_len {js : List JobD} (h : areJobs js = true) : 0 < js.length ∧ js.length ≤ 12 := by
  simp only [areJobs, Bool.and_eq_true] at h
  have := inB_true h.1
  omega
end Go.Proofs.Yteoikfddebbakaa
