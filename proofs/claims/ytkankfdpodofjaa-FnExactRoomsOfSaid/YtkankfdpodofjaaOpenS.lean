/-
  How a slice of Spans that comes to a law as an argument lies in memory.
-/
import Derived.Test.YtkankfdpodofjaaOpen
import Derived.Test.YtkankfdpodofjaaSpan
namespace Go.Proofs.Ytkankfdpodofjaa
open Go.ChangeShapes Go.WideShapes Go.ChangeAt Go.RowKit Go.Deep
set_option linter.unusedVariables false
set_option maxRecDepth 100000

theorem span_of_cells {H : Type} {enc : TypeId × Value → H} {W : World} {cs : List Value} {x : DataW H × List MemPlace} {fuel : Nat}
    (h : DataW.trod enc Try.prog W 0 (fun _ => true) true fuel 87 cs = some x) : ∃ s : SpanD, cs = s.cells ∧ s.ok := by
  obtain ⟨xs, n, _, _, hl, hx, hf⟩ := DataW.trod_struct Try.underlying87 h
  have hc : Try.prog.cellsOf 87 = 3 := by kernel_rfl
  have hc1 : Try.prog.cellsOf 2 = 1 := by kernel_rfl
  rw [hc] at hl
  simp only [List.size_toArray, List.length_cons, List.length_nil] at hx
  match cs, hl with
  | [c0, c1, c2], _ =>
    match xs, hx with
    | [y0, y1, y2], _ =>
      have f0 : DataW.trod enc Try.prog W 0 (fun _ => true) true n 2 (([c0, c1, c2].drop 0).take (Try.prog.cellsOf 2)) = some y0 := hf 0 _ rfl
      have f1 : DataW.trod enc Try.prog W 0 (fun _ => true) true n 2 (([c0, c1, c2].drop 1).take (Try.prog.cellsOf 2)) = some y1 := hf 1 _ rfl
      have f2 : DataW.trod enc Try.prog W 0 (fun _ => true) true n 2 (([c0, c1, c2].drop 2).take (Try.prog.cellsOf 2)) = some y2 := hf 2 _ rfl
      rw [hc1] at f0 f1 f2
      replace f0 : DataW.trod enc Try.prog W 0 (fun _ => true) true n 2 [c0] = some y0 := f0
      replace f1 : DataW.trod enc Try.prog W 0 (fun _ => true) true n 2 [c1] = some y1 := f1
      replace f2 : DataW.trod enc Try.prog W 0 (fun _ => true) true n 2 [c2] = some y2 := f2
      obtain ⟨n0, e0, _, w0⟩ := DataW.trod_int Try.underlying2 f0
      obtain ⟨n1, e1, _, w1⟩ := DataW.trod_int Try.underlying2 f1
      obtain ⟨n2, e2, _, w2⟩ := DataW.trod_int Try.underlying2 f2
      simp only [List.cons.injEq, and_true] at e0 e1 e2
      subst e0 e1 e2
      exact ⟨⟨n0, n1, n2⟩, rfl, I64_of_wf w0, I64_of_wf w1, I64_of_wf w2⟩

theorem open_S {H : Type} {enc : TypeId × Value → H} {W : World} {base : Nat} {v : Value} {d : DataW H} {p : List MemPlace}
    (hv : Value.okWide Try.prog W .any base 43 v) (h : DataW.Trod enc Try.prog W 0 (fun _ => true) true 43 v d p) : ∃ zs, Spans W 0 W.heap.size v zs := by
  obtain ⟨a, len, cap, rfl⟩ := okWide_slice Try.underlying43 hv
  obtain ⟨fuel, hf⟩ := h
  have hc : Try.prog.cellsOf 87 = 3 := by kernel_rfl
  rcases open_slice Try.underlying43 hf with ⟨hcs, _⟩ | ⟨x, l, c, m, n, Dd, Pl, hcs, _, hl, hm, hmm, _, hx⟩
  · simp [Value.cells] at hcs
    obtain ⟨rfl, rfl, rfl⟩ := hcs
    exact ⟨[], Spans.nil _ _ _⟩
  · simp [Value.cells] at hcs
    obtain ⟨rfl, rfl, rfl⟩ := hcs
    simp only [if_true] at hmm
    rw [hc, hmm] at hx
    have key : ∀ i, i < len → ∃ s : SpanD, s.ok ∧ ∀ j, j < 3 → W.cell? (x.add (i * 3 + j)) = s.cells[j]? := by
      intro i hi
      obtain ⟨cs, h1, h2⟩ := hx i (by omega)
      obtain ⟨s, rfl, hs⟩ := span_of_cells h2
      obtain ⟨_, hlen, hcell⟩ := World.cells?_some h1
      exact ⟨s, hs, fun j hj => by
        have := hcell j hj
        rw [add_add] at this
        exact this⟩
    obtain ⟨S, hS⟩ := choose_lt (α := SpanD) (n := len) (p := fun i s => s.ok ∧ ∀ j, j < 3 → W.cell? (x.add (i * 3 + j)) = s.cells[j]?) key
    have e : ((List.range len).map S).length = len := by simp
    refine ⟨(List.range len).map S, ⟨⟨some x, cap, by rw [e], by omega, by simpa [maxLen] using hm, ?_⟩, ?_⟩⟩
    · rw [e]
      by_cases h0 : len = 0
      · exact .inl h0
      · have hc0 := (hS 0 (by omega)).2 0 (by omega)
        have hx0 : x.add (0 * 3 + 0) = x := by unfold Addr.add; simp
        rw [hx0] at hc0
        obtain ⟨hxe, hxb⟩ := addr_of_cell (v := .int .i64 (S 0).x0) hc0
        refine .inr ⟨x.block, x.off, by rw [← hxe], Nat.zero_le _, hxb, Nat.le_refl _, fun i hi => ?_⟩
        have h1 := (hS (i / 3) (by omega)).2 (i % 3) (by omega)
        rw [hxe, add_plain, show i / 3 * 3 + i % 3 = i by omega] at h1
        rw [h1]
        simp only [spanCell]
        rw [show ((List.range len).map S).getD (i / 3) .zero = S (i / 3) by simp [List.getD, show i / 3 < len by omega]]
        match i % 3, Nat.mod_lt i (show 0 < 3 by omega) with
        | 0, _ => rfl
        | 1, _ => rfl
        | 2, _ => rfl
    · intro s hs
      obtain ⟨i, hi, rfl⟩ := List.mem_map.1 hs
      exact (hS i (List.mem_range.1 hi)).1
end Go.Proofs.Ytkankfdpodofjaa
