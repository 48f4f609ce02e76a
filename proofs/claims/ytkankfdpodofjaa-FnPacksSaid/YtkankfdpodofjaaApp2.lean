/-
  Appends of two integers to a slice of the call's own, that keep the other own slices; a slice literal of one; no statement of the program is proved here.
-/
import Derived.Test.YtkankfdpodofjaaOwn2
namespace Go.Proofs.Ytkankfdpodofjaa
open Go.RowKit
set_option linter.unusedVariables false
set_option maxRecDepth 100000

theorem OwnI.shape2 {w : World} {lo hi : Nat} {v : Value} {zs : List Int} (h : OwnI w lo hi v zs) : ∃ a cap, v = .slice a zs.length cap := by
  obtain ⟨a, cap, e, _⟩ := h.rd.out
  exact ⟨a, cap, e⟩
def lenV : Value → Nat
  | .slice _ n _ => n
  | _ => 0
theorem oneSliceW (w : World) (x : Int) (hx : I64 x) : OwnI (w.alloc (.cells #[.int .i64 x] 2)) w.heap.size (w.heap.size + 1) (.slice (some ⟨w.heap.size, 0, none⟩) 1 1) [x] :=
  ⟨⟨World.ownsRow_lit w #[.int .i64 x] 1 (Nat.le_refl _) (by simp [maxLen]) (by simp), fun k e => by simp [Value.ownBlock] at e; omega, by simp⟩, by simpa using hx, by simp⟩
theorem cell_new_at (w : World) (cs : Array Value) (e : TypeId) (j : Nat) (hj : j < cs.size) : (w.alloc (.cells cs e)).cell? ⟨w.heap.size, j, none⟩ = some cs[j] := by
  rw [World.cell?_alloc_at _ _ _ _ rfl]
  simp [hj]
theorem wpList_app2 {w : World} {ops : Array Oper} {rest : List Oper} {o : Oper} {a : Act} {Q : Exit → Act → World → Prop} (hgd : o.guard = none) (s x : Operand)
    (ho : o.op = .call { callee := .builtin .append, args := #[s, x], argTypes := #[25, 25] })
    {lo hi : Nat} (v : Value) (xs : List Int) (hs : a.eval s = v) (y z : Int) (e : TypeId) (hv : OwnI w lo hi v xs) (hx : a.eval x = .slice (some ⟨w.heap.size, 0, none⟩) 2 2)
    (hy : I64 y) (hz : I64 z) (hl : xs.length + 2 ≤ 1099511627776) (hlo : lo ≤ w.heap.size)
    (h : ∀ v' w', OwnI w' lo w'.heap.size v' (xs ++ [y, z]) → Same lo hi w w' → w.heap.size + 1 ≤ w'.heap.size → (v'.ownBlock = v.ownBlock ∨ v'.ownBlock = some (w.heap.size + 1)) → wpList Try.prog ops Q rest (a.put o.dst v') w') :
    wpList Try.prog ops Q (o :: rest) a (w.alloc (.cells #[.int .i64 y, .int .i64 z] e)) := by
  refine wpList_appI hgd s x ho v xs hs (hv.alloc _) [y, z] ⟨w.heap.size, 0, none⟩ 2 hx (by simp) (by intro q hq; simp at hq; rcases hq with rfl | rfl <;> assumption) ?_ (by simpa using hl) (by simp; omega) ?_
  · intro j hj
    have hj0 : j = 0 ∨ j = 1 := by simp at hj; omega
    rcases hj0 with rfl | rfl
    · rw [add_zero_plain]
      exact cell_new_at w #[.int .i64 y, .int .i64 z] e 0 (by simp)
    · have : (⟨w.heap.size, 0, none⟩ : Addr).add 1 = ⟨w.heap.size, 1, none⟩ := by unfold Addr.add; simp
      rw [this]
      exact cell_new_at w #[.int .i64 y, .int .i64 z] e 1 (by simp)
  · intro v' w' h1 h2 h3 h4
    simp only [World.size_alloc] at h3 h4
    exact h v' w' h1 (((Same.refl lo hi w).alloc _).trans h2) h3 h4
theorem wpList_app2K {w : World} {ops : Array Oper} {rest : List Oper} {o : Oper} {a : Act} {Q : Exit → Act → World → Prop} (hgd : o.guard = none) (s x : Operand)
    (ho : o.op = .call { callee := .builtin .append, args := #[s, x], argTypes := #[25, 25] })
    {lo hi : Nat} (v : Value) (xs : List Int) (hs : a.eval s = v) (y z : Int) (e : TypeId) (hv : OwnI w lo hi v xs) (hx : a.eval x = .slice (some ⟨w.heap.size, 0, none⟩) 2 2)
    (hy : I64 y) (hz' : I64 z) (hl : xs.length + 2 ≤ 1099511627776) (hlo : lo ≤ w.heap.size)
    (h : ∀ v' w', OwnI w' lo w'.heap.size v' (xs ++ [y, z]) → (∀ k, k < w.heap.size → v.ownBlock ≠ some k → w'.heap[k]? = w.heap[k]?) → Same lo hi w w' → w.heap.size + 1 ≤ w'.heap.size → (v'.ownBlock = v.ownBlock ∨ v'.ownBlock = some (w.heap.size + 1)) → wpList Try.prog ops Q rest (a.put o.dst v') w') :
    wpList Try.prog ops Q (o :: rest) a (w.alloc (.cells #[.int .i64 y, .int .i64 z] e)) := by
  obtain ⟨p, q, hn, hpq⟩ := hv.narrow2
  have hz := hv.own.hsz
  have hn2 := hn.own.hsz
  refine wpList_app2 hgd s x ho v xs hs y z e hn hx hy hz' hl (by rcases hpq with ⟨_, rfl, _⟩ | ⟨_, rfl, h1, h2⟩ <;> omega) ?_
  intro v' w' h1 h2 h3 h4
  have hkeep : ∀ k, k < w.heap.size → v.ownBlock ≠ some k → w'.heap[k]? = w.heap[k]? := by
    intro k hk hne
    refine h2.block k hk fun hx' => ?_
    rcases hpq with ⟨_, rfl, rfl⟩ | ⟨e1, rfl, _, _⟩
    · omega
    · exact hne (by rw [e1]; congr 1; omega)
  refine h v' w' (h1.widen2 (Nat.le_refl _) fun k hk => ⟨?_, (h1.own.row.lt k hk).2⟩) hkeep ?_ h3 h4
  · rcases h4 with h4 | h4
    · rw [h4] at hk; exact (hv.own.row.lt k hk).1
    · rw [h4] at hk; cases hk; omega
  · rcases hpq with ⟨_, rfl, rfl⟩ | ⟨e1, rfl, g1, g2⟩
    · exact ⟨h2.os, h2.tape, h2.output, h2.size, fun k hk _ => h2.block k hk (by omega)⟩
    · exact h2.mono g1 (by omega)
/-- two own slices stay apart when one has grown -/
theorem apart_grow {w : World} {v v' u : Value} {B : Nat} (ha : ∀ p, u.ownBlock = some p → v.ownBlock ≠ some p) (hu : ∀ p, u.ownBlock = some p → p < B) (h : v'.ownBlock = v.ownBlock ∨ v'.ownBlock = some (B + 1)) : ∀ p, u.ownBlock = some p → v'.ownBlock ≠ some p := by
  intro p hp e
  rcases h with h | h
  · exact ha p hp (h ▸ e)
  · rw [h] at e; cases e; have := hu _ hp; omega
end Go.Proofs.Ytkankfdpodofjaa
