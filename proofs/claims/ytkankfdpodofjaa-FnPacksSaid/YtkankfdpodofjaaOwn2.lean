/-
  Slices of the call's own that grow side by side.
-/
import Derived.Test.YtkankfdpodofjaaApp
namespace Go.Proofs.Ytkankfdpodofjaa
open Go.RowKit
set_option linter.unusedVariables false
set_option maxRecDepth 100000

theorem OwnI.narrow2 {w : World} {lo hi : Nat} {v : Value} {zs : List Int} (h : OwnI w lo hi v zs) :
    ∃ p q, OwnI w p q v zs ∧ ((v.ownBlock = none ∧ p = 0 ∧ q = 0) ∨ (v.ownBlock = some p ∧ q = p + 1 ∧ lo ≤ p ∧ p < hi)) := by
  rcases h.rowOf with ⟨rfl, rfl⟩ | ⟨g, cap, rfl, h1, h2, h3, h4⟩
  · exact ⟨0, 0, OwnI.nil _ _ _ (Nat.zero_le _), .inl ⟨rfl, rfl, rfl⟩⟩
  · have h5 := h4.lt
    refine ⟨g, g + 1, ⟨⟨⟨h.own.row.1, ?_⟩, fun k e => by simp [Value.ownBlock] at e; omega, by omega⟩, h.rng, h.len⟩, .inr ⟨rfl, rfl, h4.ge, h1⟩⟩
    rcases h.own.row.2 with h0 | ⟨g', cap', cur, e, h6, r⟩
    · exact .inl h0
    · refine .inr ⟨g', cap', cur, e, ?_, r⟩
      simp at e; omega
theorem OwnI.widen2 {w : World} {p q lo hi : Nat} {v : Value} {zs : List Int} (h : OwnI w p q v zs) (hh : hi ≤ w.heap.size) (hb : ∀ k, v.ownBlock = some k → lo ≤ k ∧ k < hi) : OwnI w lo hi v zs := by
  refine ⟨⟨⟨h.own.row.1, ?_⟩, fun k e => (hb k e).2, hh⟩, h.rng, h.len⟩
  rcases h.own.row.2 with h0 | ⟨g, cap, cur, e, h6, r⟩
  · exact .inl h0
  · exact .inr ⟨g, cap, cur, e, (hb g (by rw [e]; rfl)).1, r⟩
theorem OwnI.stay2 {w w' : World} {lo hi : Nat} {v : Value} {zs : List Int} (h : OwnI w lo hi v zs) (hs : w.heap.size ≤ w'.heap.size) (hb : ∀ k, v.ownBlock = some k → w'.heap[k]? = w.heap[k]?) : OwnI w' lo hi v zs := by
  refine ⟨⟨⟨h.own.row.1, ?_⟩, h.own.blk, by have := h.own.hsz; omega⟩, h.rng, h.len⟩
  rcases h.own.row.2 with h0 | ⟨g, cap, cur, e, h6, h7, r⟩
  · exact .inl h0
  · exact .inr ⟨g, cap, cur, e, h6, by rw [hb g (by rw [e]; rfl)]; exact h7, r⟩
/-- a slice of the call's own beside one that has grown -/
theorem OwnI.beside {w w' : World} {lo hi : Nat} {v : Value} {zs : List Int} (h : OwnI w lo hi v zs) (hs : w.heap.size ≤ w'.heap.size) (hh : hi ≤ w'.heap.size) {u : Value} (hk : ∀ k, k < w.heap.size → u.ownBlock ≠ some k → w'.heap[k]? = w.heap[k]?) (ha : ∀ p, v.ownBlock = some p → u.ownBlock ≠ some p) : OwnI w' lo w'.heap.size v zs :=
  (h.stay2 hs fun k hk' => hk k (by have := h.own.blk k hk'; have := h.own.hsz; omega) (ha k hk')).mono (Nat.le_refl _) hh (Nat.le_refl _)
/-- .. of one integer, that lies alone in a new block; what other slices of the call's own hold stays -/
theorem wpList_app1K {w : World} {ops : Array Oper} {rest : List Oper} {o : Oper} {a : Act} {Q : Exit → Act → World → Prop} (hgd : o.guard = none) (s x : Operand)
    (ho : o.op = .call { callee := .builtin .append, args := #[s, x], argTypes := #[25, 25] })
    {lo hi : Nat} (v : Value) (xs : List Int) (hs : a.eval s = v) (y : Int) (e : TypeId) (hv : OwnI w lo hi v xs) (hx : a.eval x = .slice (some ⟨w.heap.size, 0, none⟩) 1 1)
    (hy : I64 y) (hl : xs.length + 1 ≤ 1099511627776) (hlo : lo ≤ w.heap.size)
    (h : ∀ v' w', OwnI w' lo w'.heap.size v' (xs ++ [y]) → (∀ k, k < w.heap.size → v.ownBlock ≠ some k → w'.heap[k]? = w.heap[k]?) → Same lo hi w w' → w.heap.size + 1 ≤ w'.heap.size → (v'.ownBlock = v.ownBlock ∨ v'.ownBlock = some (w.heap.size + 1)) → wpList Try.prog ops Q rest (a.put o.dst v') w') :
    wpList Try.prog ops Q (o :: rest) a (w.alloc (.cells #[.int .i64 y] e)) := by
  obtain ⟨p, q, hn, hpq⟩ := hv.narrow2
  have hz := hv.own.hsz
  have hn2 := hn.own.hsz
  refine wpList_app1 hgd s x ho v xs hs y e hn hx hy hl (by rcases hpq with ⟨_, rfl, _⟩ | ⟨_, rfl, h1, h2⟩ <;> omega) ?_
  intro v' w' h1 h2 h3 h4
  have hkeep : ∀ k, k < w.heap.size → v.ownBlock ≠ some k → w'.heap[k]? = w.heap[k]? := by
    intro k hk hne
    refine h2.block k hk fun hx' => ?_
    rcases hpq with ⟨_, rfl, rfl⟩ | ⟨e1, rfl, _, _⟩
    · omega
    · exact hne (by rw [e1]; congr 1; omega)
  refine h v' w' (h1.widen2 (Nat.le_refl _) fun k hk => ⟨?_, (h1.own.row.lt k hk).2⟩) hkeep ?_ h3 h4
  · rcases h4 with h4 | h4
    · rw [h4] at hk; exact (hv.own.row.lt k hk).1
    · rw [h4] at hk; cases hk; omega
  · rcases hpq with ⟨_, rfl, rfl⟩ | ⟨e1, rfl, g1, g2⟩
    · exact ⟨h2.os, h2.tape, h2.output, h2.size, fun k hk _ => h2.block k hk (by omega)⟩
    · exact h2.mono g1 (by omega)
end Go.Proofs.Ytkankfdpodofjaa
