/-
  Laws on append at a step of a region that draws its order: integers behind a slice of integers of the call's own.
-/
import Derived.Test.YtkankfdpodofjaaApp
import Derived.Test.YtkankfdpodofjaaConcat
import Derived.Deep.RegionHeld3
namespace Go.Proofs.Ytkankfdpodofjaa
open Go.RowKit
set_option linter.unusedVariables false
set_option maxRecDepth 100000

/-- 'append' of integers that lie somewhere (maybe none) to a slice of the call's own, at the operation. -/
theorem wp_appIs {w : World} {o : Oper} {a : Act} {K : Act → World → Prop} {Q : Exit → Act → World → Prop} (s x : Operand)
    (ho : o.op = .call { callee := .builtin .append, args := #[s, x], argTypes := #[25, 25] })
    {lo hi l h : Nat} (v : Value) (xs : List Int) (hs : a.eval s = v) (hv : OwnI w lo hi v xs) (u : Value) (ys : List Int) (hx : a.eval x = u) (hy : Ints w l h u ys)
    (hl : xs.length + ys.length ≤ 1099511627776) (hlo : lo ≤ w.heap.size)
    (hK : ∀ v' w', OwnI w' lo w'.heap.size v' (xs ++ ys) → Same lo hi w w' → w.heap.size ≤ w'.heap.size → (v'.ownBlock = v.ownBlock ∨ v'.ownBlock = some w.heap.size) → K (a.put o.dst v') w') :
    o.wp Try.prog a w K Q := by
  obtain ⟨ua, uc, rfl, hc1, hc2, hd⟩ := hy.out
  by_cases h0 : 0 < ys.length
  · rcases hd with hd | ⟨b, off, rfl, hb1, hb2, hb3, hcell⟩
    · rw [hd] at h0; simp at h0
    obtain ⟨i0, hi0, hz0, hz1, hz2⟩ := info_parts info_i64
    have hmL : xs.length + ys.length ≤ maxLen := by unfold maxLen; omega
    have hn : ∀ j z, (ys.map (Value.int .i64))[j]? = some z → w.cell? ((⟨b, off, none⟩ : Addr).add j) = some z := by
      intro j z hz
      obtain ⟨hj, rfl⟩ := List.getElem?_eq_some_iff.1 hz
      simp only [List.length_map] at hj
      rw [add_plain', hcell j hj]; simp [hj]
    have h1 := ints_oneCell .i64 ys
    have hlen : (ys.map (Value.int .i64)).length = ys.length * 1 := by simp
    have hrow := hv.own.row
    obtain ⟨v', w', hrun, h2, h3, h4⟩ := run_append_own (P := Try.prog) w lo 25 o.type 2 i0 (.int .i64 0) 1 8 Try.underlying25 hi0 hz0 hz1 hz2 rfl (by decide) v xs.length _ hrow ⟨b, off, none⟩ ys.length uc _ hlen hn h1 hmL (by omega) hlo
    have hblk := append_block lo 25 o.type 2 i0 (.int .i64 0) 1 8 Try.underlying25 hi0 hz0 hz1 hz2 rfl (by decide) v xs.length _ hrow ⟨b, off, none⟩ ys.length uc _ hlen hn h1 hmL (by omega) h0 hrun
    unfold Oper.wp
    simp only [execOp, ho, resolve, invoke, builtin, Sem.run_bind, Sem.run_pure, Result.andThen_ok, List.map_toArray, List.map_cons, List.map_nil, hs, hx, hrun]
    have hsz := hv.own.hsz
    have hsame : Same lo hi w w' := ⟨h3.os, h3.tape, h3.output, h3.size, fun k hk hn' => h3.block k hk (fun e => hn' ⟨hv.ge k e.symm, hv.own.blk k e.symm⟩)⟩
    refine hK v' w' ⟨⟨?_, fun k e => (h2.lt k e).2, Nat.le_refl _⟩, ?_, by rw [List.length_append]; exact hl⟩ hsame h3.size hblk
    · rw [List.length_append, List.map_append]; exact h2
    · intro y hy'
      rcases List.mem_append.1 hy' with hy' | hy'
      · exact hv.rng y hy'
      · exact hy.rng y hy'
  · have e : ys = [] := List.eq_nil_of_length_eq_zero (by omega)
    subst e
    obtain ⟨ga, gc, rfl, g1, g2, _⟩ := hv.rd.out
    have hrun := run_append_empty w ga xs.length gc g1 ua uc
    unfold Oper.wp
    simp only [execOp, ho, resolve, invoke, builtin, Sem.run_bind, Sem.run_pure, Result.andThen_ok, List.map_toArray, List.map_cons, List.map_nil, hs, hx, List.length_nil, hrun]
    exact hK _ w (by rw [List.append_nil]; exact hv.mono (Nat.le_refl _) hv.own.hsz (Nat.le_refl _)) (Same.refl _ _ _) (Nat.le_refl _) (.inl rfl)
theorem wpList_appIs {w : World} {ops : Array Oper} {rest : List Oper} {o : Oper} {a : Act} {Q : Exit → Act → World → Prop} (hgd : o.guard = none) (s x : Operand)
    (ho : o.op = .call { callee := .builtin .append, args := #[s, x], argTypes := #[25, 25] })
    {lo hi l h : Nat} (v : Value) (xs : List Int) (hs : a.eval s = v) (hv : OwnI w lo hi v xs) (u : Value) (ys : List Int) (hx : a.eval x = u) (hy : Ints w l h u ys)
    (hl : xs.length + ys.length ≤ 1099511627776) (hlo : lo ≤ w.heap.size)
    (hK : ∀ v' w', OwnI w' lo w'.heap.size v' (xs ++ ys) → Same lo hi w w' → w.heap.size ≤ w'.heap.size → (v'.ownBlock = v.ownBlock ∨ v'.ownBlock = some w.heap.size) → wpList Try.prog ops Q rest (a.put o.dst v') w') :
    wpList Try.prog ops Q (o :: rest) a w :=
  wpList_plain hgd fun K hK' => wp_appIs s x ho v xs hs hv u ys hx hy hl hlo fun v' w' h1 h2 h3 h4 => hK' _ _ (hK v' w' h1 h2 h3 h4)
theorem step_appIs {w : World} {ops : Array Oper} {o : Oper} {a : Act} {K : Act → World → Prop} {Q : Exit → Act → World → Prop} {E : Prop} (hgd : o.guard = none) (s x : Operand)
    (ho : o.op = .call { callee := .builtin .append, args := #[s, x], argTypes := #[25, 25] })
    {lo hi l h : Nat} (v : Value) (xs : List Int) (hs : a.eval s = v) (hv : OwnI w lo hi v xs) (u : Value) (ys : List Int) (hx : a.eval x = u) (hy : Ints w l h u ys)
    (hl : xs.length + ys.length ≤ 1099511627776) (hlo : lo ≤ w.heap.size)
    (hK : ∀ v' w', OwnI w' lo w'.heap.size v' (xs ++ ys) → Same lo hi w w' → w.heap.size ≤ w'.heap.size → (v'.ownBlock = v.ownBlock ∨ v'.ownBlock = some w.heap.size) → K (a.put o.dst v') w') :
    if Region.wanted o (yielded ops a.tmps) = true then Oper.wp Try.prog o a w K Q else E := by
  have hw : Region.wanted o (yielded ops a.tmps) = true := by simp [Region.wanted, hgd]
  rw [if_pos hw]
  exact wp_appIs s x ho v xs hs hv u ys hx hy hl hlo hK
end Go.Proofs.Ytkankfdpodofjaa
