/-
  How a slice of bytes that comes to a law as an argument lies in memory.
-/
import Derived.Test.YtkankfdpodofjaaOpen
import Derived.Test.YtkankfdpodofjaaSrc
namespace Go.Proofs.Ytkankfdpodofjaa
open Go.ChangeShapes Go.WideShapes Go.ChangeAt Go.RowKit
set_option linter.unusedVariables false
set_option maxRecDepth 100000

theorem U8_of_wf {n : Int} (h : (Lit.int .u8 n).wf = true) : 0 ≤ n ∧ n ≤ 255 := by
  simpa [Lit.wf, IntKind.min, IntKind.max, IntKind.signed, IntKind.bits] using h
set_option maxRecDepth 100000 in
theorem open_Y {H : Type} {enc : TypeId × Value → H} {W : World} {base : Nat} {v : Value} {d : DataW H} {p : List MemPlace}
    (hv : Value.okWide Try.prog W .any base 22 v) (h : DataW.Trod enc Try.prog W 0 (fun _ => true) true 22 v d p) : ∃ zs, Byts W 0 W.heap.size v zs := by
  obtain ⟨a, len, cap, rfl⟩ := okWide_slice Try.underlying22 hv
  obtain ⟨fuel, hf⟩ := h
  rcases open_ints Try.underlying22 Try.underlying5 (by kernel_rfl) hf with ⟨hcs, _⟩ | ⟨x, l, c, zs, hcs, _, hl, hm, hz, _, hcell, hwz⟩
  · simp [Value.cells] at hcs
    obtain ⟨rfl, rfl, rfl⟩ := hcs
    exact ⟨[], ⟨⟨none, 0, rfl, Nat.le_refl _, by decide, .inl rfl⟩, by simp⟩⟩
  · simp [Value.cells] at hcs
    obtain ⟨rfl, rfl, rfl⟩ := hcs
    simp only [if_true] at hz
    have e : (zs.take len).length = len := by rw [List.length_take]; omega
    refine ⟨zs.take len, ⟨⟨some x, cap, by rw [e], by omega, by simpa [maxLen] using hm, ?_⟩, fun n hn => U8_of_wf (hwz n (List.mem_of_mem_take hn))⟩⟩
    rw [e]
    by_cases h0 : len = 0
    · exact .inl h0
    · have hc0 := hcell 0 (by omega)
      have hx : x.add 0 = x := by unfold Addr.add; simp
      rw [hx] at hc0
      obtain ⟨hxe, hxb⟩ := addr_of_cell hc0
      refine .inr ⟨x.block, x.off, by rw [← hxe], Nat.zero_le _, hxb, Nat.le_refl _, fun i hi => ?_⟩
      have := hcell i (by omega)
      rw [hxe, add_plain] at this
      rw [this]
      simp [List.getD, show i < len by omega]
end Go.Proofs.Ytkankfdpodofjaa
