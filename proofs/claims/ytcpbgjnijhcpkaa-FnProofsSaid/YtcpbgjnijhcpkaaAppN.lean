/-
  Slices of ints (type int) of the call's own: readings and laws on append.
-/
import Derived.Test.YtcpbgjnijhcpkaaApp
namespace Go.Proofs.Ytcpbgjnijhcpkaa
open Go.RowKit
set_option linter.unusedVariables false
set_option maxRecDepth 100000

theorem info_int : (Try.prog.info? 3).map (fun i => (i.zero, i.size, i.bytes)) = some (some (.int .i64 0), 1, 8) := by kernel_rfl
structure OwnN (w : World) (lo hi : Nat) (v : Value) (zs : List Int) : Prop where
  own : Own w lo hi 3 1 v zs.length (zs.map (Value.int .i64))
  rng : ∀ n ∈ zs, I64 n
  len : zs.length ≤ 1099511627776
section
variable {w w' : World} {lo hi : Nat} {v : Value} {zs : List Int}
theorem OwnN.nil (w : World) (lo hi : Nat) (h : hi ≤ w.heap.size) : OwnN w lo hi (.slice none 0 0) [] := ⟨Own.nil _ _ _ _ _ h, by simp, by simp⟩
theorem OwnN.rd (h : OwnN w lo hi v zs) : Ints w lo hi v zs := ⟨h.own.sl.congr fun i hi => by simp [List.getD, List.getElem?_eq_getElem (show i < zs.length by omega)], h.rng⟩
theorem OwnN.mono {lo' hi' : Nat} (h : OwnN w lo hi v zs) (hl : lo' ≤ lo) (hh : hi ≤ hi') (hw : hi' ≤ w.heap.size) : OwnN w lo' hi' v zs := ⟨h.own.mono hl hh hw, h.rng, h.len⟩
theorem OwnN.keep (h : OwnN w lo hi v zs) (hs : w.heap.size ≤ w'.heap.size) (hb : ∀ k, lo ≤ k → k < hi → k < w.heap.size → w'.heap[k]? = w.heap[k]?) : OwnN w' lo hi v zs := ⟨h.own.keep hs hb, h.rng, h.len⟩
theorem OwnN.below {B : Nat} (h : OwnN w lo hi v zs) (hb : Below B w w') (hB : hi ≤ B) : OwnN w' lo hi v zs := ⟨h.own.below hb hB, h.rng, h.len⟩
theorem OwnN.same {l h' : Nat} (h : OwnN w lo hi v zs) (hb : Same l h' w w') (hB : hi ≤ l ∨ h' ≤ lo) : OwnN w' lo hi v zs := ⟨h.own.same hb hB, h.rng, h.len⟩
theorem OwnN.drew (h : OwnN w lo hi v zs) (hd : Drew w w') : OwnN w' lo hi v zs := ⟨h.own.drew hd, h.rng, h.len⟩
theorem OwnN.drewN (h : OwnN w lo hi v zs) (n : Nat) : OwnN (w.drewN n) lo hi v zs := h.drew (Drew.one w n)
end

/-- a row of n elements in block g -/
structure RowN (w : World) (lo g n cap : Nat) (zs : List Int) : Prop where
  row : Row w lo 3 1 g n cap (zs.map (Value.int .i64))
section
variable {w w' : World} {lo g n cap : Nat} {zs : List Int}
theorem RowN.length (h : RowN w lo g n cap zs) : zs.length = n := by simpa using h.row.length
theorem RowN.cell (h : RowN w lo g n cap zs) {k : Nat} (hk : k < n) : w.cell? ⟨g, k, none⟩ = some (.int .i64 (zs.getD k 0)) := by
  rw [h.row.cellAt (by omega)]; have := h.length; simp [this, hk]
theorem RowN.frozen (h : RowN w lo g n cap zs) (k : Nat) : w.frozen? ⟨g, k, none⟩ = false := h.row.frozen k
theorem RowN.stored (h : RowN w lo g n cap zs) (k : Nat) (x : Int) : RowN (w.setCell ⟨g, k, none⟩ (.int .i64 x)) lo g n cap (zs.set k x) := ⟨by rw [List.map_set]; exact h.row.stored k _⟩
theorem RowN.ge (h : RowN w lo g n cap zs) : lo ≤ g := h.row.ge
theorem RowN.lt (h : RowN w lo g n cap zs) : g < w.heap.size := h.row.lt
theorem RowN.keep (h : RowN w lo g n cap zs) (hb : w'.heap[g]? = w.heap[g]?) : RowN w' lo g n cap zs := ⟨h.row.keep hb⟩
theorem RowN.below {B : Nat} (h : RowN w lo g n cap zs) (hb : Below B w w') (hB : g < B) : RowN w' lo g n cap zs := ⟨h.row.below hb hB⟩
theorem RowN.drew (h : RowN w lo g n cap zs) (hd : Drew w w') : RowN w' lo g n cap zs := ⟨h.row.drew hd⟩
theorem RowN.drewN (h : RowN w lo g n cap zs) (k : Nat) : RowN (w.drewN k) lo g n cap zs := h.keep rfl
theorem RowN.alloc (h : RowN w lo g n cap zs) (o : Obj) : RowN (w.alloc o) lo g n cap zs := ⟨h.row.alloc o⟩
theorem RowN.other (h : RowN w lo g n cap zs) {p : Addr} (hp : g ≠ p.block) (u : Value) : RowN (w.setCell p u) lo g n cap zs := ⟨h.row.other hp u⟩
theorem RowN.made (h : w.ownsRow lo 3 1 (.slice (some ⟨g, 0, none⟩) n n) n (madeCells #[Value.int .i64 0] n).toList) : RowN w lo g n n (List.replicate n 0) :=
  ⟨⟨by rw [List.map_replicate, ← toList_madeCells_one]; exact h⟩⟩
theorem RowN.own {hi : Nat} (h : RowN w lo g n cap zs) (hr : ∀ n ∈ zs, I64 n) (hn : n ≤ 1099511627776) (hg : g < hi) (hh : hi ≤ w.heap.size) : OwnN w lo hi (.slice (some ⟨g, 0, none⟩) n cap) zs :=
  ⟨by rw [h.length]; exact h.row.own hg hh, hr, by rw [h.length]; exact hn⟩
theorem RowN.rd {hi : Nat} (h : RowN w lo g n cap zs) (hr : ∀ n ∈ zs, I64 n) (hg : g < hi) (hh : hi ≤ w.heap.size) : Ints w lo hi (.slice (some ⟨g, 0, none⟩) n cap) zs :=
  ⟨(by rw [h.length]; exact h.row.own hg hh : Own w lo hi 3 1 (.slice (some ⟨g, 0, none⟩) n cap) zs.length _).sl.congr fun i hi => by simp [List.getD, List.getElem?_eq_getElem (show i < zs.length by omega)], hr⟩
theorem OwnN.rowOf {v : Value} {hi : Nat} (h : OwnN w lo hi v zs) : (v = .slice none 0 0 ∧ zs = []) ∨ ∃ g cap, v = .slice (some ⟨g, 0, none⟩) zs.length cap ∧ g < hi ∧ zs.length ≤ cap ∧ cap ≤ 9223372036854775807 ∧ RowN w lo g zs.length cap zs := by
  rcases h.own.rowOf with ⟨h1, h2⟩ | ⟨g, cap, h1, h2, h3, h4, h5⟩
  · exact .inl ⟨h1, List.eq_nil_of_length_eq_zero h2⟩
  · exact .inr ⟨g, cap, h1, h2, h3, h4, ⟨h5⟩⟩
end
theorem OwnN.alloc {w : World} {lo hi : Nat} {v : Value} {zs : List Int} (h : OwnN w lo hi v zs) (o : Obj) : OwnN (w.alloc o) lo hi v zs :=
  h.keep (by simp) fun k _ _ hk => Below.heap_alloc _ _ _ hk
theorem OwnN.ge {w : World} {lo hi : Nat} {v : Value} {zs : List Int} (h : OwnN w lo hi v zs) : ∀ k, v.ownBlock = some k → lo ≤ k := fun k e => (h.own.row.lt k e).1
/-- 'append' of integers that lie in memory to a slice of the call's own. -/
theorem wpList_appN {w : World} {ops : Array Oper} {rest : List Oper} {o : Oper} {a : Act} {Q : Exit → Act → World → Prop} (hgd : o.guard = none) (s x : Operand)
    (ho : o.op = .call { callee := .builtin .append, args := #[s, x], argTypes := #[69, 69] })
    {lo hi : Nat} (v : Value) (xs : List Int) (hs : a.eval s = v) (hv : OwnN w lo hi v xs) (ys : List Int) (ad : Addr) (c : Nat) (hx : a.eval x = .slice (some ad) ys.length c)
    (h0 : 0 < ys.length) (hr : ∀ y ∈ ys, I64 y) (hc : ∀ j, j < ys.length → w.cell? (ad.add j) = some (.int .i64 (ys.getD j 0))) (hl : xs.length + ys.length ≤ 1099511627776) (hlo : lo ≤ w.heap.size)
    (h : ∀ v' w', OwnN w' lo w'.heap.size v' (xs ++ ys) → Same lo hi w w' → w.heap.size ≤ w'.heap.size → (v'.ownBlock = v.ownBlock ∨ v'.ownBlock = some w.heap.size) → wpList Try.prog ops Q rest (a.put o.dst v') w') :
    wpList Try.prog ops Q (o :: rest) a w := by
  refine wpList_plain hgd fun K hK => ?_
  obtain ⟨i0, hi0, hz0, hz1, hz2⟩ := info_parts info_int
  have hmL : xs.length + ys.length ≤ maxLen := by unfold maxLen; omega
  have hn : ∀ j u, (ys.map (Value.int .i64))[j]? = some u → w.cell? (ad.add j) = some u := by
    intro j u hu
    obtain ⟨hj, rfl⟩ := List.getElem?_eq_some_iff.1 hu
    simp only [List.length_map] at hj
    rw [hc j hj]; simp [hj]
  have h1 := ints_oneCell .i64 ys
  have hlen : (ys.map (Value.int .i64)).length = ys.length * 1 := by simp
  have hrow := hv.own.row
  obtain ⟨v', w', hrun, h2, h3, h4⟩ := run_append_own (P := Try.prog) w lo 69 o.type 3 i0 (.int .i64 0) 1 8 Try.underlying69 hi0 hz0 hz1 hz2 rfl (by decide) v xs.length _ hrow ad ys.length c _ hlen hn h1 hmL (by omega) hlo
  have hblk := append_block lo 69 o.type 3 i0 (.int .i64 0) 1 8 Try.underlying69 hi0 hz0 hz1 hz2 rfl (by decide) v xs.length _ hrow ad ys.length c _ hlen hn h1 hmL (by omega) h0 hrun
  unfold Oper.wp
  simp only [execOp, ho, resolve, invoke, builtin, Sem.run_bind, Sem.run_pure, Result.andThen_ok, List.map_toArray, List.map_cons, List.map_nil, hs, hx, hrun]
  have hsz := hv.own.hsz
  have hsame : Same lo hi w w' := ⟨h3.os, h3.tape, h3.output, h3.size, fun k hk hn' => h3.block k hk (fun e => hn' ⟨hv.ge k e.symm, hv.own.blk k e.symm⟩)⟩
  refine hK _ _ (h v' w' ⟨⟨?_, fun k e => (h2.lt k e).2, Nat.le_refl _⟩, ?_, by rw [List.length_append]; exact hl⟩ hsame h3.size hblk)
  · rw [List.length_append, List.map_append]; exact h2
  · intro y hy
    rcases List.mem_append.1 hy with hy | hy
    · exact hv.rng y hy
    · exact hr y hy

/-- .. of one integer, that lies alone in a new block. -/
theorem wpList_app1N {w : World} {ops : Array Oper} {rest : List Oper} {o : Oper} {a : Act} {Q : Exit → Act → World → Prop} (hgd : o.guard = none) (s x : Operand)
    (ho : o.op = .call { callee := .builtin .append, args := #[s, x], argTypes := #[69, 69] })
    {lo hi : Nat} (v : Value) (xs : List Int) (hs : a.eval s = v) (y : Int) (e : TypeId) (hv : OwnN w lo hi v xs) (hx : a.eval x = .slice (some ⟨w.heap.size, 0, none⟩) 1 1)
    (hy : I64 y) (hl : xs.length + 1 ≤ 1099511627776) (hlo : lo ≤ w.heap.size)
    (h : ∀ v' w', OwnN w' lo w'.heap.size v' (xs ++ [y]) → Same lo hi w w' → w.heap.size + 1 ≤ w'.heap.size → (v'.ownBlock = v.ownBlock ∨ v'.ownBlock = some (w.heap.size + 1)) → wpList Try.prog ops Q rest (a.put o.dst v') w') :
    wpList Try.prog ops Q (o :: rest) a (w.alloc (.cells #[.int .i64 y] e)) := by
  refine wpList_appN hgd s x ho v xs hs (hv.alloc _) [y] ⟨w.heap.size, 0, none⟩ 1 hx (by simp) (by simpa using hy) ?_ (by simpa using hl) (by simp; omega) ?_
  · intro j hj
    have hj0 : j = 0 := by simp at hj; exact hj
    subst hj0
    rw [add_zero_plain]
    exact cell_new1 _ _ _
  · intro v' w' h1 h2 h3 h4
    simp only [World.size_alloc] at h3 h4
    exact h v' w' h1 (((Same.refl lo hi w).alloc _).trans h2) h3 h4
theorem emptySliceN (w : World) : OwnN (w.alloc (.cells #[] 3)) w.heap.size (w.heap.size + 1) (.slice (some ⟨w.heap.size, 0, none⟩) 0 0) [] :=
  ⟨⟨World.ownsRow_lit w #[] 0 (Nat.le_refl _) (by simp [maxLen]) (by simp), fun k e => by simp [Value.ownBlock] at e; omega, by simp⟩, by simp, by simp⟩
end Go.Proofs.Ytcpbgjnijhcpkaa
