/-
  How a slice of floats of 32 bits that comes to a law as an argument lies in memory; a float as an argument.
-/
import Derived.Test.YtocngcpdpeflnaaOpen
import Derived.Test.YtocngcpdpeflnaaFlt
import Derived.Deep.Grids
import Derived.Laws.Cover2
namespace Go.Proofs.Ytocngcpdpeflnaa
open Go.ChangeShapes Go.WideShapes Go.ChangeAt Go.RowKit Go.Deep
set_option linter.unusedVariables false
set_option maxRecDepth 100000

set_option maxRecDepth 100000 in
theorem open_FL {H : Type} {enc : TypeId × Value → H} {W : World} {base : Nat} {v : Value} {d : DataW H} {p : List MemPlace}
    (hv : Value.okWide Try.prog W .any base 22 v) (h : DataW.Trod enc Try.prog W 0 (fun _ => true) true 22 v d p) : ∃ zs, Flts W 0 W.heap.size v zs := by
  obtain ⟨a, len, cap, rfl⟩ := okWide_slice Try.underlying22 hv
  obtain ⟨fuel, hf⟩ := h
  have he : Try.prog.underlying 23 = some (.float .f32) := Try.underlying23
  rcases open_slice1 Try.underlying22 (by kernel_rfl) hf with ⟨hcs, _⟩ | ⟨x, l, c, m, n, V, D, Pl, hcs, _, hl, hm, hmm, _, hcell⟩
  · simp [Value.cells] at hcs
    obtain ⟨rfl, rfl, rfl⟩ := hcs
    exact ⟨[], Flts.nil _ _ _⟩
  · simp [Value.cells] at hcs
    obtain ⟨rfl, rfl, rfl⟩ := hcs
    simp only [if_true] at hmm
    obtain ⟨B, hB⟩ := choose_lt (α := Nat) (p := fun i b => V i = .float .f32 b) (fun i (hi : i < m) => by
      have h2 := (hcell i hi).2
      cases n with
      | zero => simp [DataW.trod] at h2
      | succ k =>
        generalize V i = u at h2 ⊢
        cases u <;> simp [DataW.trod, he] at h2
        rename_i kk b
        cases kk
        all_goals first | exact ⟨b, rfl⟩ | (simp at h2; done))
    have e : ((List.range len).map B).length = len := by simp
    refine ⟨(List.range len).map B, ⟨⟨some x, cap, by rw [e], by omega, by simpa [maxLen] using hm, ?_⟩⟩⟩
    rw [e]
    by_cases h0 : len = 0
    · exact .inl h0
    · have hc0 := (hcell 0 (by omega)).1
      have hx : x.add 0 = x := by unfold Addr.add; simp
      rw [hx] at hc0
      obtain ⟨hxe, hxb⟩ := addr_of_cell hc0
      refine .inr ⟨x.block, x.off, by rw [← hxe], Nat.zero_le _, hxb, Nat.le_refl _, fun i hi => ?_⟩
      have := (hcell i (by omega)).1
      rw [hxe, add_plain] at this
      rw [this, hB i (by omega)]
      have hi' : i < len := by omega
      rw [List.getD, List.getElem?_map, List.getElem?_range hi']
      rfl
end Go.Proofs.Ytocngcpdpeflnaa
