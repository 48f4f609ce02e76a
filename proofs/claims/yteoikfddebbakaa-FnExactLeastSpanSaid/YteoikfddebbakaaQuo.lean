/-
  The reference's order by quotients (l04Order), and SmithOrder: contracts.
-/
import Derived.Test.YteoikfddebbakaaDue
import Derived.Test.YteoikfddebbakaaOwn2
namespace Go.Proofs.Yteoikfddebbakaa
open Go.RowKit
set_option linter.unusedVariables false
set_option maxRecDepth 100000

theorem below_newN (w : World) (o : Obj) : Below w.heap.size w (w.alloc o) := (Below.refl _ _).alloc (Nat.le_refl _) o
def quoLt (sizes gains : List Int) (x y : Int) : Bool := decide (gains.getD y.toNat 0 * sizes.getD x.toNat 0 < gains.getD x.toNat 0 * sizes.getD y.toNat 0)
def longs (js : List JobD) : List Int := js.map JobD.x0
def weights (js : List JobD) : List Int := js.map JobD.x2
theorem longs_snoc (js : List JobD) (k : Nat) (hk : k < js.length) : longs (js.take (k + 1)) = longs (js.take k) ++ [js[k].x0] := by
  rw [List.take_succ_eq_append_getElem hk]; simp only [longs, List.map_append, List.map_cons, List.map_nil]
theorem weights_snoc (js : List JobD) (k : Nat) (hk : k < js.length) : weights (js.take (k + 1)) = weights (js.take k) ++ [js[k].x2] := by
  rw [List.take_succ_eq_append_getElem hk]; simp only [weights, List.map_append, List.map_cons, List.map_nil]
theorem longs_getD (js : List JobD) (i : Nat) (hi : i < js.length) : (longs js).getD i 0 = js[i].x0 := by simp [longs, List.getD, hi]
theorem weights_getD (js : List JobD) (i : Nat) (hi : i < js.length) : (weights js).getD i 0 = js[i].x2 := by simp [weights, List.getD, hi]
def smithL (js : List JobD) : List Int := ordTo (quoLt (longs js) (weights js)) js.length
def smithOrder (js : List JobD) : List Int × Bool := if areJobs js then (smithL js, true) else ([], false)
def quoCmp (sizes gains : List Int) (a b : Int) : Int := cmpI (gains.getD b.toNat 0 * sizes.getD a.toNat 0) (gains.getD a.toNat 0 * sizes.getD b.toNat 0)
theorem quoCmp_lt (sizes gains : List Int) : ltOf (quoCmp sizes gains) = quoLt sizes gains := by
  funext x y; unfold ltOf quoCmp quoLt; exact cmpI_lt _ _
theorem jobs_ok {js : List JobD} (h : areJobs js = true) : ∀ j ∈ js, okJob j = true := by
  simp only [areJobs, Bool.and_eq_true] at h
  exact List.all_eq_true.1 h.2
end Go.Proofs.Yteoikfddebbakaa
