/-
  Contracts of slices.Grow (of nil) and slices.Concat at slices of integers.
-/
import Derived.Test.YtkankfdpodofjaaApp
import Derived.Test.YtkankfdpodofjaaIntss
import Derived.OwnWalk
namespace Go.Proofs.Ytkankfdpodofjaa
open Go.RowKit
set_option linter.unusedVariables false
set_option maxRecDepth 100000

theorem alloc_belowW (w : World) (o : Obj) : Below w.heap.size w (w.alloc o) := (Below.refl _ _).alloc (Nat.le_refl _) o
theorem run_append_nil_make (w : World) (t ti e : TypeId) (i : TypeInfo) (z : Value) (ht : Try.prog.underlying t = some (.slice e)) (hti : Try.prog.underlying ti = some (.int .i64)) (hi : Try.prog.info? e = some i) (hz : i.zero = some z)
    (hsz : i.size = 1) (hby : i.bytes = 8) (hzc : z.cells = #[z]) (n : Nat) (h0 : 0 < n) (h1 : n ≤ 1048576) :
    ∃ cur : Array Value, ∃ cap : Nat, n ≤ cap ∧ cap ≤ maxLen ∧ cur.size = cap * 1 ∧ ∀ ty, (Builtin.append_ #[t, ti] ty #[.slice none 0 0, .int .i64 n]).run Try.prog w = .ok (.slice (some ⟨w.heap.size, 0, none⟩) n cap) (w.drew.alloc (.cells cur e)) := by
  have hg1 := grownCap_ge w n 0 e
  have hg2 := grownCap_le_maxLen w n 0 e (by unfold maxLen; omega)
  have hw : IntKind.i64.wrap (n : Int) = n := IntWalk.i64_in _ (by omega)
  have hn : n ≠ 0 := by omega
  have h63' : ¬ (9223372036854775807 < (n : Int)) := by omega
  have hneg : ¬ ((n : Int) < 0) := by omega
  have h48 : ¬ (281474976710656 < (n : Int) * 8) := by omega
  have h48' : ¬ (281474976710656 < Builtin.nextslicecap n 0 * 8) := by rw [nextslicecap_zero h0]; omega
  have ha : ∀ w', Sem.run Try.prog (asInt (.int .i64 (n : Int))) w' = .ok (n : Int) w' := fun _ => rfl
  refine ⟨Builtin.zeroCells z.cells n ++ Builtin.zeroCells z.cells (grownCap w n 0 e - n), grownCap w n 0 e, hg1, hg2, ?_, fun ty => ?_⟩
  · simp only [Array.size_append, size_zeroCells, hzc]
    show n * 1 + (grownCap w n 0 e - n) * 1 = _
    omega
  · simp [Builtin.append_, run_underlying ht, run_underlying hti, sizeOf, typeInfo, zeroValue, hi, hz, hsz, hby, ha, hw, hn, hneg, h48, h48', h63', Question.forced, run_firstCells_none, newRow, grownCap]
theorem wpList_appRun {w w' : World} {ops : Array Oper} {rest : List Oper} {o : Oper} {a : Act} {Q : Exit → Act → World → Prop} (hgd : o.guard = none) (s x : Operand) (t ti : TypeId)
    (ho : o.op = .call { callee := .builtin .append, args := #[s, x], argTypes := #[t, ti] }) {v u v' : Value} (hs : a.eval s = v) (hx : a.eval x = u)
    (hrun : ∀ ty, (Builtin.append_ #[t, ti] ty #[v, u]).run Try.prog w = .ok v' w') (h : wpList Try.prog ops Q rest (a.put o.dst v') w') : wpList Try.prog ops Q (o :: rest) a w := by
  refine wpList_plain hgd fun K hK => ?_
  unfold Oper.wp
  simp only [execOp, ho, resolve, invoke, builtin, Sem.run_bind, Sem.run_pure, Result.andThen_ok, List.map_toArray, List.map_cons, List.map_nil, hs, hx, hrun]
  exact hK _ _ h
theorem add_plain' (b off i : Nat) : (⟨b, off, none⟩ : Addr).add i = ⟨b, off + i, none⟩ := by unfold Addr.add; split <;> simp_all
theorem run_append_empty (w : World) (g : Option Addr) (n cap : Nat) (hn : n ≤ cap) (a : Option Addr) (c : Nat) (ty : TypeId) :
    (Builtin.append_ #[25, 25] ty #[.slice g n cap, .slice a 0 c]).run Try.prog w = .ok (.slice g n cap) w := by
  obtain ⟨i0, hi0, hz0, hz1, hz2⟩ := info_parts info_i64
  have hf : ∀ w', Sem.run Try.prog (Builtin.firstCells 1 0 (.slice a 0 c)) w' = .ok #[] w' := by
    intro w'
    cases a <;> simp [Builtin.firstCells, loadCells, loadCellsFrom]
  cases g <;> simp [Builtin.append_, run_underlying Try.underlying25, sizeOf, typeInfo, hi0, hz1, Builtin.lenOf, hn, hf, storeCells]
end Go.Proofs.Ytkankfdpodofjaa
