/-
  How a form that comes to a law as an argument lies in memory.
-/
import Derived.Test.YteoikfddebbakaaOpen
import Derived.Test.YteoikfddebbakaaForm
import Derived.Lib.SmallJoins
namespace Go.Proofs.Yteoikfddebbakaa
open Go.ChangeShapes Go.WideShapes Go.ChangeAt Go.RowKit Go.Deep
set_option linter.unusedVariables false
set_option maxRecDepth 100000

theorem ints_of_trod {H : Type} {enc : TypeId × Value → H} {W : World} {c : Value} {fuel : Nat} {x : DataW H × List MemPlace}
    (hf : DataW.trod enc Try.prog W 0 (fun _ => true) true fuel 32 [c] = some x) : ∃ zs, Ints W 0 W.heap.size c zs := by
  rcases open_ints Try.underlying32 Try.underlying2 (by kernel_rfl) hf with ⟨hcs, _⟩ | ⟨x, len, cap, zs, hcs, _, hl, hm, hz, _, hcell, hwz⟩
  · simp only [List.cons.injEq, and_true] at hcs
    subst hcs
    exact ⟨[], Ints.nil _ _ _⟩
  · simp only [List.cons.injEq, and_true] at hcs
    subst hcs
    simp only [if_true] at hz
    have e : (zs.take len).length = len := by rw [List.length_take]; omega
    refine ⟨zs.take len, ⟨⟨some x, cap, by rw [e], by omega, by simpa [maxLen] using hm, ?_⟩, fun n hn => I64_of_wf (hwz n (List.mem_of_mem_take hn))⟩⟩
    rw [e]
    by_cases h0 : len = 0
    · exact .inl h0
    · have hc0 := hcell 0 (by omega)
      have hx : x.add 0 = x := by unfold Addr.add; simp
      rw [hx] at hc0
      obtain ⟨hxe, hxb⟩ := addr_of_cell hc0
      refine .inr ⟨x.block, x.off, by rw [← hxe], Nat.zero_le _, hxb, Nat.le_refl _, fun i hi => ?_⟩
      have := hcell i (by omega)
      rw [hxe, add_plain] at this
      rw [this]
      simp [List.getD, show i < len by omega]
theorem intss_of_trod {H : Type} {enc : TypeId × Value → H} {W : World} {c : Value} {fuel : Nat} {x : DataW H × List MemPlace}
    (hf : DataW.trod enc Try.prog W 0 (fun _ => true) true fuel 22 [c] = some x) : ∃ zss, Intss W 0 W.heap.size c zss := by
  rcases open_slice1 Try.underlying22 (by kernel_rfl) hf with ⟨hcs, _⟩ | ⟨x, len, cap, m, n, V, Dd, Pl, hcs, _, hl, hm, hmm, _, hx⟩
  · simp only [List.cons.injEq, and_true] at hcs
    subst hcs
    exact ⟨[], Intss.nil _ _ _⟩
  · simp only [List.cons.injEq, and_true] at hcs
    subst hcs
    simp only [if_true] at hmm
    rw [hmm] at hx
    obtain ⟨Z, hZ⟩ := choose_lt (α := List Int) (n := len) (p := fun i z => Ints W 0 W.heap.size (V i) z) (fun i hi => ints_of_trod (hx i (by omega)).2)
    have e : ((List.range len).map Z).length = len := by simp
    refine ⟨(List.range len).map Z, ⟨V, ⟨some x, cap, by rw [e], by omega, by simpa [maxLen] using hm, ?_⟩, fun i hi => ?_⟩⟩
    · rw [e]
      by_cases h0 : len = 0
      · exact .inl h0
      · have hc0 := (hx 0 (by omega)).1
        have hx0 : x.add 0 = x := by unfold Addr.add; simp
        rw [hx0] at hc0
        obtain ⟨hxe, hxb⟩ := addr_of_cell hc0
        refine .inr ⟨x.block, x.off, by rw [← hxe], Nat.zero_le _, hxb, Nat.le_refl _, fun i hi => ?_⟩
        have := (hx i (by omega)).1
        rw [hxe, add_plain] at this
        exact this
    · rw [e] at hi
      simpa using hZ i hi
set_option maxRecDepth 100000 in
theorem open_II {H : Type} {enc : TypeId × Value → H} {W : World} {base : Nat} {v : Value} {d : DataW H} {p : List MemPlace}
    (hv : Value.okWide Try.prog W .any base 22 v) (h : DataW.Trod enc Try.prog W 0 (fun _ => true) true 22 v d p) : ∃ z, Intss W 0 W.heap.size v z := by
  obtain ⟨a, len, cap, rfl⟩ := okWide_slice Try.underlying22 hv
  obtain ⟨fuel, hf⟩ := h
  exact intss_of_trod (by simpa [Value.cells] using hf)
end Go.Proofs.Yteoikfddebbakaa
