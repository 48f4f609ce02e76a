/-
  Laws on append for slices of Bools that the call itself made.
-/
import Derived.Test.YtcpbgjnijhcpkaaApp
import Derived.Test.YtcpbgjnijhcpkaaBool
namespace Go.Proofs.Ytcpbgjnijhcpkaa
open Go.RowKit
set_option linter.unusedVariables false
set_option maxRecDepth 100000

theorem OwnB.alloc {w : World} {lo hi : Nat} {v : Value} {zs : List Bool} (h : OwnB w lo hi v zs) (o : Obj) : OwnB (w.alloc o) lo hi v zs :=
  h.keep (by simp) fun k _ _ hk => Below.heap_alloc _ _ _ hk
theorem OwnB.ge {w : World} {lo hi : Nat} {v : Value} {zs : List Bool} (h : OwnB w lo hi v zs) : ∀ k, v.ownBlock = some k → lo ≤ k := fun k e => (h.own.row.lt k e).1
theorem bools_oneCell (ys : List Bool) : ∀ u ∈ ys.map Value.bool, u.oneCell' = true := by
  intro u hu
  obtain ⟨b, _, rfl⟩ := List.mem_map.1 hu
  rfl
theorem emptySliceB (w : World) : OwnB (w.alloc (.cells #[] 4)) w.heap.size (w.heap.size + 1) (.slice (some ⟨w.heap.size, 0, none⟩) 0 0) [] :=
  ⟨⟨World.ownsRow_lit w #[] 0 (Nat.le_refl _) (by simp [maxLen]) (by simp), fun k e => by simp [Value.ownBlock] at e; omega, by simp⟩, by simp⟩
/-- 'append' of Bools that lie in memory to a slice of the call's own. -/
theorem wpList_appB {w : World} {ops : Array Oper} {rest : List Oper} {o : Oper} {a : Act} {Q : Exit → Act → World → Prop} (hgd : o.guard = none) (s x : Operand)
    (ho : o.op = .call { callee := .builtin .append, args := #[s, x], argTypes := #[40, 40] })
    {lo hi : Nat} (v : Value) (xs : List Bool) (hs : a.eval s = v) (hv : OwnB w lo hi v xs) (ys : List Bool) (ad : Addr) (c : Nat) (hx : a.eval x = .slice (some ad) ys.length c)
    (h0 : 0 < ys.length) (hc : ∀ j, j < ys.length → w.cell? (ad.add j) = some (.bool (ys.getD j false))) (hl : xs.length + ys.length ≤ 1099511627776) (hlo : lo ≤ w.heap.size)
    (h : ∀ v' w', OwnB w' lo w'.heap.size v' (xs ++ ys) → Same lo hi w w' → w.heap.size ≤ w'.heap.size → (v'.ownBlock = v.ownBlock ∨ v'.ownBlock = some w.heap.size) → wpList Try.prog ops Q rest (a.put o.dst v') w') :
    wpList Try.prog ops Q (o :: rest) a w := by
  refine wpList_plain hgd fun K hK => ?_
  obtain ⟨i0, hi0, hz0, hz1, hz2⟩ := info_parts info_bool
  have hmL : xs.length + ys.length ≤ maxLen := by unfold maxLen; omega
  have hn : ∀ j u, (ys.map (Value.bool))[j]? = some u → w.cell? (ad.add j) = some u := by
    intro j u hu
    obtain ⟨hj, rfl⟩ := List.getElem?_eq_some_iff.1 hu
    simp only [List.length_map] at hj
    rw [hc j hj]; simp [hj]
  have h1 := bools_oneCell ys
  have hlen : (ys.map (Value.bool)).length = ys.length * 1 := by simp
  have hrow := hv.own.row
  obtain ⟨v', w', hrun, h2, h3, h4⟩ := run_append_own (P := Try.prog) w lo 40 o.type 4 i0 (.bool false) 1 1 Try.underlying40 hi0 hz0 hz1 hz2 rfl (by decide) v xs.length _ hrow ad ys.length c _ hlen hn h1 hmL (by omega) hlo
  have hblk := append_block lo 40 o.type 4 i0 (.bool false) 1 1 Try.underlying40 hi0 hz0 hz1 hz2 rfl (by decide) v xs.length _ hrow ad ys.length c _ hlen hn h1 hmL (by omega) h0 hrun
  unfold Oper.wp
  simp only [execOp, ho, resolve, invoke, builtin, Sem.run_bind, Sem.run_pure, Result.andThen_ok, List.map_toArray, List.map_cons, List.map_nil, hs, hx, hrun]
  have hsz := hv.own.hsz
  have hsame : Same lo hi w w' := ⟨h3.os, h3.tape, h3.output, h3.size, fun k hk hn' => h3.block k hk (fun e => hn' ⟨hv.ge k e.symm, hv.own.blk k e.symm⟩)⟩
  refine hK _ _ (h v' w' ⟨⟨?_, fun k e => (h2.lt k e).2, Nat.le_refl _⟩, by rw [List.length_append]; exact hl⟩ hsame h3.size hblk)
  rw [List.length_append, List.map_append]; exact h2

/-- .. of one Bool, that lies alone in a new block. -/
theorem wpList_app1B {w : World} {ops : Array Oper} {rest : List Oper} {o : Oper} {a : Act} {Q : Exit → Act → World → Prop} (hgd : o.guard = none) (s x : Operand)
    (ho : o.op = .call { callee := .builtin .append, args := #[s, x], argTypes := #[40, 40] })
    {lo hi : Nat} (v : Value) (xs : List Bool) (hs : a.eval s = v) (y : Bool) (e : TypeId) (hv : OwnB w lo hi v xs) (hx : a.eval x = .slice (some ⟨w.heap.size, 0, none⟩) 1 1)
    (hl : xs.length + 1 ≤ 1099511627776) (hlo : lo ≤ w.heap.size)
    (h : ∀ v' w', OwnB w' lo w'.heap.size v' (xs ++ [y]) → Same lo hi w w' → w.heap.size + 1 ≤ w'.heap.size → (v'.ownBlock = v.ownBlock ∨ v'.ownBlock = some (w.heap.size + 1)) → wpList Try.prog ops Q rest (a.put o.dst v') w') :
    wpList Try.prog ops Q (o :: rest) a (w.alloc (.cells #[.bool y] e)) := by
  refine wpList_appB hgd s x ho v xs hs (hv.alloc _) [y] ⟨w.heap.size, 0, none⟩ 1 hx (by simp) ?_ (by simpa using hl) (by simp; omega) ?_
  · intro j hj
    have hj0 : j = 0 := by simp at hj; exact hj
    subst hj0
    rw [add_zero_plain]
    exact cell_new1 _ _ _
  · intro v' w' h1 h2 h3 h4
    simp only [World.size_alloc] at h3 h4
    exact h v' w' h1 (((Same.refl lo hi w).alloc _).trans h2) h3 h4
end Go.Proofs.Ytcpbgjnijhcpkaa
