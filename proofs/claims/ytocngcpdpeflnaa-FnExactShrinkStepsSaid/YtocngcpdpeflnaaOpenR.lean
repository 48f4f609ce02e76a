/-
  How rows that come to a law as an argument lie in memory.
-/
import Derived.Test.YtocngcpdpeflnaaOpenFL
import Derived.Test.YtocngcpdpeflnaaRowD
import Derived.Lib.SmallJoins
namespace Go.Proofs.Ytocngcpdpeflnaa
open Go.ChangeShapes Go.WideShapes Go.ChangeAt Go.RowKit Go.Deep
set_option linter.unusedVariables false
set_option maxRecDepth 100000

theorem flts_of_trod {H : Type} {enc : TypeId × Value → H} {W : World} {c : Value} {fuel : Nat} {x : DataW H × List MemPlace}
    (hf : DataW.trod enc Try.prog W 0 (fun _ => true) true fuel 22 [c] = some x) : ∃ zs, Flts W 0 W.heap.size c zs := by
  have he : Try.prog.underlying 23 = some (.float .f32) := Try.underlying23
  rcases open_slice1 Try.underlying22 (by kernel_rfl) hf with ⟨hcs, _⟩ | ⟨x, len, cap, m, n, V, D, Pl, hcs, _, hl, hm, hmm, _, hcell⟩
  · simp only [List.cons.injEq, and_true] at hcs
    subst hcs
    exact ⟨[], Flts.nil _ _ _⟩
  · simp only [List.cons.injEq, and_true] at hcs
    subst hcs
    simp only [if_true] at hmm
    obtain ⟨B, hB⟩ := choose_lt (α := Nat) (p := fun i b => V i = .float .f32 b) (fun i (hi : i < m) => by
      have h2 := (hcell i hi).2
      cases n with
      | zero => simp [DataW.trod] at h2
      | succ k =>
        generalize V i = u at h2 ⊢
        cases u <;> simp [DataW.trod, he] at h2
        rename_i kk b
        cases kk
        all_goals first | exact ⟨b, rfl⟩ | (simp at h2; done))
    have e : ((List.range len).map B).length = len := by simp
    refine ⟨(List.range len).map B, ⟨⟨some x, cap, by rw [e], by omega, by simpa [maxLen] using hm, ?_⟩⟩⟩
    rw [e]
    by_cases h0 : len = 0
    · exact .inl h0
    · have hc0 := (hcell 0 (by omega)).1
      have hx : x.add 0 = x := by unfold Addr.add; simp
      rw [hx] at hc0
      obtain ⟨hxe, hxb⟩ := addr_of_cell hc0
      refine .inr ⟨x.block, x.off, by rw [← hxe], Nat.zero_le _, hxb, Nat.le_refl _, fun i hi => ?_⟩
      have := (hcell i (by omega)).1
      rw [hxe, add_plain] at this
      rw [this, hB i (by omega)]
      have hi' : i < len := by omega
      rw [List.getD, List.getElem?_map, List.getElem?_range hi']
      rfl
theorem open_R {H : Type} {enc : TypeId × Value → H} {W : World} {base : Nat} {v : Value} {d : DataW H} {p : List MemPlace}
    (hv : Value.okWide Try.prog W .any base 31 v) (h : DataW.Trod enc Try.prog W 0 (fun _ => true) true 31 v d p) : ∃ z, RowsR W 0 W.heap.size v z := by
  obtain ⟨c0, c1, c2, c3, y0, y1, y2, y3, m, rfl, rfl, rfl, hy0, hy1, hy2, hy3⟩ := Go.Joins.open_agg4 Try.underlying31 (by kernel_rfl) (by kernel_rfl) hv h
  obtain ⟨n0, e0, _, w0⟩ := DataW.trod_int Try.underlying2 hy0
  simp only [List.cons.injEq, and_true] at e0
  subst e0
  obtain ⟨z1, h1⟩ := flts_of_trod hy1
  obtain ⟨z2, h2⟩ := flts_of_trod hy2
  obtain ⟨z3, h3⟩ := flts_of_trod hy3
  exact ⟨⟨n0, z1, z2, z3⟩, ⟨_, _, _, rfl, h1, h2, h3⟩, I64_of_wf w0⟩
end Go.Proofs.Ytocngcpdpeflnaa
