/-
  How a slice of Bools that comes to a law as an argument lies in memory.
-/
import Derived.Test.YtdeelgnfnhdklaaOpen
import Derived.Test.YtdeelgnfnhdklaaBool
import Derived.Deep.Grids
namespace Go.Proofs.Ytdeelgnfnhdklaa
open Go.ChangeShapes Go.WideShapes Go.ChangeAt Go.RowKit Go.Deep
set_option linter.unusedVariables false

set_option maxRecDepth 100000 in
theorem open_B {H : Type} {enc : TypeId × Value → H} {W : World} {base : Nat} {v : Value} {d : DataW H} {p : List MemPlace}
    (hv : Value.okWide Try.prog W .any base 25 v) (h : DataW.Trod enc Try.prog W 0 (fun _ => true) true 25 v d p) : ∃ zs, Bools W 0 W.heap.size v zs := by
  obtain ⟨a, len, cap, rfl⟩ := okWide_slice Try.underlying25 hv
  obtain ⟨fuel, hf⟩ := h
  rcases open_bools Try.underlying25 Try.underlying4 (by kernel_rfl) hf with ⟨hcs, _⟩ | ⟨x, l, c, B, hcs, _, hl, hm, _, hcell⟩
  · simp [Value.cells] at hcs
    obtain ⟨rfl, rfl, rfl⟩ := hcs
    exact ⟨[], Bools.nil _ _ _⟩
  · simp [Value.cells] at hcs
    obtain ⟨rfl, rfl, rfl⟩ := hcs
    have e : ((List.range len).map B).length = len := by simp
    refine ⟨(List.range len).map B, ⟨⟨some x, cap, by rw [e], by omega, by simpa [maxLen] using hm, ?_⟩⟩⟩
    rw [e]
    by_cases h0 : len = 0
    · exact .inl h0
    · have hc0 := hcell 0 (by omega)
      have hx : x.add 0 = x := by unfold Addr.add; simp
      rw [hx] at hc0
      obtain ⟨hxe, hxb⟩ := addr_of_cell hc0
      refine .inr ⟨x.block, x.off, by rw [← hxe], Nat.zero_le _, hxb, Nat.le_refl _, fun i hi => ?_⟩
      have := hcell i (by omega)
      rw [hxe, add_plain] at this
      rw [this]
      have hi' : i < len := by omega
      rw [List.getD, List.getElem?_map, List.getElem?_range hi']
      rfl
end Go.Proofs.Ytdeelgnfnhdklaa
