/-
  How a slice of forms that comes to a law as an argument lies in memory.
-/
import Derived.Test.YtdeelgnfnhdklaaOpenF
import Derived.Test.YtdeelgnfnhdklaaFormS
namespace Go.Proofs.Ytdeelgnfnhdklaa
open Go.ChangeShapes Go.WideShapes Go.ChangeAt Go.RowKit Go.Deep
set_option linter.unusedVariables false

set_option maxRecDepth 100000 in
theorem formA_of_cells {H : Type} {enc : TypeId × Value → H} {W : World} {cs : List Value} {x : DataW H × List MemPlace} {fuel : Nat}
    (h : DataW.trod enc Try.prog W 0 (fun _ => true) true fuel 24 cs = some x) : ∃ (f : FormD) (u : Value), cs = [.int .i64 f.letters, u] ∧ I64 f.letters ∧ Intss W 0 W.heap.size u f.clauses := by
  obtain ⟨xs, n, _, _, hl, hx, hf⟩ := DataW.trod_struct Try.underlying24 h
  have hc : Try.prog.cellsOf 24 = 2 := by kernel_rfl
  have hc1 : Try.prog.cellsOf 2 = 1 := by kernel_rfl
  have hc2 : Try.prog.cellsOf 22 = 1 := by kernel_rfl
  rw [hc] at hl
  simp only [List.size_toArray, List.length_cons, List.length_nil] at hx
  match cs, hl with
  | [c0, c1], _ =>
    match xs, hx with
    | [y0, y1], _ =>
      have f0 : DataW.trod enc Try.prog W 0 (fun _ => true) true n 2 (([c0, c1].drop 0).take (Try.prog.cellsOf 2)) = some y0 := hf 0 _ rfl
      have f1 : DataW.trod enc Try.prog W 0 (fun _ => true) true n 22 (([c0, c1].drop 1).take (Try.prog.cellsOf 22)) = some y1 := hf 1 _ rfl
      rw [hc1] at f0
      rw [hc2] at f1
      replace f0 : DataW.trod enc Try.prog W 0 (fun _ => true) true n 2 [c0] = some y0 := f0
      replace f1 : DataW.trod enc Try.prog W 0 (fun _ => true) true n 22 [c1] = some y1 := f1
      obtain ⟨n0, e0, _, w0⟩ := DataW.trod_int Try.underlying2 f0
      simp only [List.cons.injEq, and_true] at e0
      subst e0
      obtain ⟨z, hz⟩ := intss_of_trod f1
      exact ⟨⟨n0, z⟩, c1, rfl, I64_of_wf w0, hz⟩
set_option maxRecDepth 100000 in
theorem open_FS {H : Type} {enc : TypeId × Value → H} {W : World} {base : Nat} {v : Value} {d : DataW H} {p : List MemPlace}
    (hv : Value.okWide Try.prog W .any base 54 v) (h : DataW.Trod enc Try.prog W 0 (fun _ => true) true 54 v d p) : ∃ zs, Forms W 0 W.heap.size v zs := by
  obtain ⟨a, len, cap, rfl⟩ := okWide_slice Try.underlying54 hv
  obtain ⟨fuel, hf⟩ := h
  have hc : Try.prog.cellsOf 24 = 2 := by kernel_rfl
  rcases open_slice Try.underlying54 hf with ⟨hcs, _⟩ | ⟨x, l, c, m, n, Dd, Pl, hcs, _, hl, hm, hmm, _, hx⟩
  · simp [Value.cells] at hcs
    obtain ⟨rfl, rfl, rfl⟩ := hcs
    exact ⟨[], Forms.nil _ _ _⟩
  · simp [Value.cells] at hcs
    obtain ⟨rfl, rfl, rfl⟩ := hcs
    simp only [if_true] at hmm
    rw [hc, hmm] at hx
    have key : ∀ i, i < len → ∃ s : FormD × Value, I64 s.1.letters ∧ Intss W 0 W.heap.size s.2 s.1.clauses ∧ W.cell? (x.add (i * 2)) = some (.int .i64 s.1.letters) ∧ W.cell? (x.add (i * 2 + 1)) = some s.2 := by
      intro i hi
      obtain ⟨cs, h1, h2⟩ := hx i (by omega)
      obtain ⟨f, u, rfl, hL, hu⟩ := formA_of_cells h2
      obtain ⟨_, hlen, hcell⟩ := World.cells?_some h1
      have c0 := hcell 0 (by omega)
      have c1 := hcell 1 (by omega)
      rw [add_add] at c0 c1
      exact ⟨⟨f, u⟩, hL, hu, c0, c1⟩
    haveI : Inhabited (FormD × Value) := ⟨⟨⟨0, []⟩, undef⟩⟩
    obtain ⟨S, hS⟩ := choose_lt (α := FormD × Value) (n := len) (p := fun i s => I64 s.1.letters ∧ Intss W 0 W.heap.size s.2 s.1.clauses ∧ W.cell? (x.add (i * 2)) = some (.int .i64 s.1.letters) ∧ W.cell? (x.add (i * 2 + 1)) = some s.2) key
    have e : ((List.range len).map fun i => (S i).1).length = len := by simp
    refine ⟨(List.range len).map fun i => (S i).1, ⟨⟨fun i => (S i).2, ⟨some x, cap, by rw [e], by omega, by simpa [maxLen] using hm, ?_⟩, fun i hi => ?_⟩, ?_⟩⟩
    · rw [e]
      by_cases h0 : len = 0
      · exact .inl h0
      · have hc0 := (hS 0 (by omega)).2.2.1
        have hx0 : x.add (0 * 2) = x := by unfold Addr.add; simp
        rw [hx0] at hc0
        obtain ⟨hxe, hxb⟩ := addr_of_cell (v := .int .i64 (S 0).1.letters) hc0
        refine .inr ⟨x.block, x.off, by rw [← hxe], Nat.zero_le _, hxb, Nat.le_refl _, fun i hi => ?_⟩
        have h1 := hS (i / 2) (by omega)
        unfold formCell
        split
        · rename_i he
          have h2 := h1.2.2.1
          rw [hxe, add_plain, show i / 2 * 2 = i by omega] at h2
          rw [h2]; simp [List.getD, show i / 2 < len by omega]
        · rename_i he
          have h2 := h1.2.2.2
          rw [hxe, add_plain, show i / 2 * 2 + 1 = i by omega] at h2
          exact h2
    · rw [e] at hi
      have h1 := (hS i hi).2.1
      simpa using h1
    · intro s hs
      obtain ⟨i, hi, rfl⟩ := List.mem_map.1 hs
      exact (hS i (List.mem_range.1 hi)).1
end Go.Proofs.Ytdeelgnfnhdklaa
