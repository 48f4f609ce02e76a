/-
  Laws on append for slices of integers that the call itself made, and contracts of copyInts and its like.
-/
import Derived.Test.YtkankfdpodofjaaNum
namespace Go.Proofs.Ytkankfdpodofjaa
open Go.RowKit
set_option linter.unusedVariables false
set_option maxRecDepth 100000

theorem OwnI.alloc {w : World} {lo hi : Nat} {v : Value} {zs : List Int} (h : OwnI w lo hi v zs) (o : Obj) : OwnI (w.alloc o) lo hi v zs :=
  h.keep (by simp) fun k _ _ hk => Below.heap_alloc _ _ _ hk
theorem OwnI.ge {w : World} {lo hi : Nat} {v : Value} {zs : List Int} (h : OwnI w lo hi v zs) : ∀ k, v.ownBlock = some k → lo ≤ k := fun k e => (h.own.row.lt k e).1
theorem cell_new1 (w : World) (v : Value) (e : TypeId) : (w.alloc (.cells #[v] e)).cell? ⟨w.heap.size, 0, none⟩ = some v := by
  rw [World.cell?_alloc_at _ _ _ _ rfl]; rfl

theorem add_zero_plain (b off : Nat) : (⟨b, off, none⟩ : Addr).add 0 = ⟨b, off, none⟩ := by unfold Addr.add; simp
/-- append of m > 0 elements: the value's block is the old one or the next new one. -/
theorem append_block {w : World} (base : Nat) (t ty e : TypeId) (i : TypeInfo) (z : Value) (size bytes : Nat) (ht : Try.prog.underlying t = some (.slice e)) (hi : Try.prog.info? e = some i) (hz : i.zero = some z)
    (hsize : i.size = size) (hby : i.bytes = bytes) (hzs : z.cells.size = size) (hsz : 0 < size)
    (v : Value) (n : Nat) (xs : List Value) (hown : w.ownsRow base e size v n xs)
    (a : Addr) (m c : Nat) (news : List Value) (hl : news.length = m * size) (hnews : ∀ j u, news[j]? = some u → w.cell? (a.add j) = some u) (h1 : ∀ u ∈ news, u.oneCell' = true)
    (h63 : n + m ≤ maxLen) (hbytes : (n + m) * bytes ≤ 140737488355328) (hm : 0 < m) {v' : Value} {w' : World}
    (hr : (Builtin.append_ #[t, t] ty #[v, .slice (some a) m c]).run Try.prog w = .ok v' w') : v'.ownBlock = v.ownBlock ∨ v'.ownBlock = some w.heap.size := by
  subst hsize
  subst hby
  have hsmall : n + m ≤ 9223372036854775807 := by simp only [maxLen] at h63; omega
  rcases hown.2 with ⟨rfl, rfl⟩ | ⟨g, cap, cur, rfl, hbg, hg, hnc, hcm, hcs, htake⟩
  · have h := run_append_nil (P := Try.prog) w t ty e i z ht hi hz a m c news hl hnews (by omega) (by omega) (by have hb := hbytes; simp only [Nat.zero_add] at hb; omega)
    rw [h] at hr
    injection hr with e1 e2
    subst e1
    exact .inr rfl
  · by_cases hroom : n + m ≤ cap
    · have hfit : n * i.size + news.length ≤ cur.size := by rw [hl, hcs, ← Nat.add_mul]; exact Nat.mul_le_mul_right _ hroom
      have h := run_append_room (P := Try.prog) w t ty e i ht hi g n cap cur hg a m c news hl hnews h1 hroom hfit
      rw [h] at hr
      injection hr with e1 e2
      subst e1
      exact .inl rfl
    · have holds : ∀ j u, xs[j]? = some u → w.cell? ((⟨g, 0, none⟩ : Addr).add j) = some u := hown.cells (g := g) rfl
      have h := run_append_grow (P := Try.prog) w t ty e i z ht hi hz ⟨g, 0, none⟩ n cap xs hown.1 holds a m c news hl hnews (by omega) (by omega) (growslice_fits (by omega) hbytes)
      rw [h] at hr
      injection hr with e1 e2
      subst e1
      exact .inr rfl

/-- 'append' of integers that lie in memory to a slice of the call's own. -/
theorem wpList_appI {w : World} {ops : Array Oper} {rest : List Oper} {o : Oper} {a : Act} {Q : Exit → Act → World → Prop} (hgd : o.guard = none) (s x : Operand)
    (ho : o.op = .call { callee := .builtin .append, args := #[s, x], argTypes := #[25, 25] })
    {lo hi : Nat} (v : Value) (xs : List Int) (hs : a.eval s = v) (hv : OwnI w lo hi v xs) (ys : List Int) (ad : Addr) (c : Nat) (hx : a.eval x = .slice (some ad) ys.length c)
    (h0 : 0 < ys.length) (hr : ∀ y ∈ ys, I64 y) (hc : ∀ j, j < ys.length → w.cell? (ad.add j) = some (.int .i64 (ys.getD j 0))) (hl : xs.length + ys.length ≤ 1099511627776) (hlo : lo ≤ w.heap.size)
    (h : ∀ v' w', OwnI w' lo w'.heap.size v' (xs ++ ys) → Same lo hi w w' → w.heap.size ≤ w'.heap.size → (v'.ownBlock = v.ownBlock ∨ v'.ownBlock = some w.heap.size) → wpList Try.prog ops Q rest (a.put o.dst v') w') :
    wpList Try.prog ops Q (o :: rest) a w := by
  refine wpList_plain hgd fun K hK => ?_
  obtain ⟨i0, hi0, hz0, hz1, hz2⟩ := info_parts info_i64
  have hmL : xs.length + ys.length ≤ maxLen := by unfold maxLen; omega
  have hn : ∀ j u, (ys.map (Value.int .i64))[j]? = some u → w.cell? (ad.add j) = some u := by
    intro j u hu
    obtain ⟨hj, rfl⟩ := List.getElem?_eq_some_iff.1 hu
    simp only [List.length_map] at hj
    rw [hc j hj]; simp [hj]
  have h1 := ints_oneCell .i64 ys
  have hlen : (ys.map (Value.int .i64)).length = ys.length * 1 := by simp
  have hrow := hv.own.row
  obtain ⟨v', w', hrun, h2, h3, h4⟩ := run_append_own (P := Try.prog) w lo 25 o.type 2 i0 (.int .i64 0) 1 8 Try.underlying25 hi0 hz0 hz1 hz2 rfl (by decide) v xs.length _ hrow ad ys.length c _ hlen hn h1 hmL (by omega) hlo
  have hblk := append_block lo 25 o.type 2 i0 (.int .i64 0) 1 8 Try.underlying25 hi0 hz0 hz1 hz2 rfl (by decide) v xs.length _ hrow ad ys.length c _ hlen hn h1 hmL (by omega) h0 hrun
  unfold Oper.wp
  simp only [execOp, ho, resolve, invoke, builtin, Sem.run_bind, Sem.run_pure, Result.andThen_ok, List.map_toArray, List.map_cons, List.map_nil, hs, hx, hrun]
  have hsz := hv.own.hsz
  have hsame : Same lo hi w w' := ⟨h3.os, h3.tape, h3.output, h3.size, fun k hk hn' => h3.block k hk (fun e => hn' ⟨hv.ge k e.symm, hv.own.blk k e.symm⟩)⟩
  refine hK _ _ (h v' w' ⟨⟨?_, fun k e => (h2.lt k e).2, Nat.le_refl _⟩, ?_, by rw [List.length_append]; exact hl⟩ hsame h3.size hblk)
  · rw [List.length_append, List.map_append]; exact h2
  · intro y hy
    rcases List.mem_append.1 hy with hy | hy
    · exact hv.rng y hy
    · exact hr y hy

/-- .. of one integer, that lies alone in a new block. -/
theorem wpList_app1 {w : World} {ops : Array Oper} {rest : List Oper} {o : Oper} {a : Act} {Q : Exit → Act → World → Prop} (hgd : o.guard = none) (s x : Operand)
    (ho : o.op = .call { callee := .builtin .append, args := #[s, x], argTypes := #[25, 25] })
    {lo hi : Nat} (v : Value) (xs : List Int) (hs : a.eval s = v) (y : Int) (e : TypeId) (hv : OwnI w lo hi v xs) (hx : a.eval x = .slice (some ⟨w.heap.size, 0, none⟩) 1 1)
    (hy : I64 y) (hl : xs.length + 1 ≤ 1099511627776) (hlo : lo ≤ w.heap.size)
    (h : ∀ v' w', OwnI w' lo w'.heap.size v' (xs ++ [y]) → Same lo hi w w' → w.heap.size + 1 ≤ w'.heap.size → (v'.ownBlock = v.ownBlock ∨ v'.ownBlock = some (w.heap.size + 1)) → wpList Try.prog ops Q rest (a.put o.dst v') w') :
    wpList Try.prog ops Q (o :: rest) a (w.alloc (.cells #[.int .i64 y] e)) := by
  refine wpList_appI hgd s x ho v xs hs (hv.alloc _) [y] ⟨w.heap.size, 0, none⟩ 1 hx (by simp) (by simpa using hy) ?_ (by simpa using hl) (by simp; omega) ?_
  · intro j hj
    have hj0 : j = 0 := by simp at hj; exact hj
    subst hj0
    rw [add_zero_plain]
    exact cell_new1 _ _ _
  · intro v' w' h1 h2 h3 h4
    simp only [World.size_alloc] at h3 h4
    exact h v' w' h1 (((Same.refl lo hi w).alloc _).trans h2) h3 h4
theorem emptySlice (w : World) : OwnI (w.alloc (.cells #[] 2)) w.heap.size (w.heap.size + 1) (.slice (some ⟨w.heap.size, 0, none⟩) 0 0) [] :=
  ⟨⟨World.ownsRow_lit w #[] 0 (Nat.le_refl _) (by simp [maxLen]) (by simp), fun k e => by simp [Value.ownBlock] at e; omega, by simp⟩, by simp, by simp⟩
end Go.Proofs.Ytkankfdpodofjaa
