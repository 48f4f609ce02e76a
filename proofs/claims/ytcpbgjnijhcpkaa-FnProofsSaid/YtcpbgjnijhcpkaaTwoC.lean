/-
  A block of two cells that may be written, that holds a form of the call's own.
-/
import Derived.Test.YtcpbgjnijhcpkaaForm
import Derived.Test.YtcpbgjnijhcpkaaApp
namespace Go.Proofs.Ytcpbgjnijhcpkaa
open Go.RowKit
set_option linter.unusedVariables false
set_option maxRecDepth 100000

structure TwoC (w : World) (q : Nat) (t : TypeId) (x y : Value) : Prop where
  b : w.heap[q]? = some (.cells #[x, y] t (0, 0))
section
variable {w w' : World} {q : Nat} {t : TypeId} {x y : Value}
theorem TwoC.lt (h : TwoC w q t x y) : q < w.heap.size := lt_of_block h.b
theorem TwoC.c0 (h : TwoC w q t x y) : w.cell? ⟨q, 0, none⟩ = some x := by simp [World.cell?, h.b]
theorem TwoC.c1 (h : TwoC w q t x y) : w.cell? ⟨q, 1, none⟩ = some y := by simp [World.cell?, h.b]
theorem TwoC.f0 (h : TwoC w q t x y) : w.frozen? ⟨q, 0, none⟩ = false := by simp [World.frozen?, h.b]
theorem TwoC.f1 (h : TwoC w q t x y) : w.frozen? ⟨q, 1, none⟩ = false := by simp [World.frozen?, h.b]
theorem TwoC.keep (h : TwoC w q t x y) (hb : w'.heap[q]? = w.heap[q]?) : TwoC w' q t x y := ⟨by rw [hb]; exact h.b⟩
theorem TwoC.below {B : Nat} (h : TwoC w q t x y) (hb : Below B w w') (hB : q < B) : TwoC w' q t x y := h.keep (hb.block q hB)
theorem TwoC.drew (h : TwoC w q t x y) (hd : Drew w w') : TwoC w' q t x y := h.keep (by rw [hd.heap])
theorem TwoC.same {l r : Nat} (h : TwoC w q t x y) (hs : Same l r w w') (hB : q < l ∨ r ≤ q) : TwoC w' q t x y := h.keep (hs.block q h.lt (by omega))
theorem TwoC.alloc (h : TwoC w q t x y) (o : Obj) : TwoC (w.alloc o) q t x y := h.keep (Below.heap_alloc _ _ _ h.lt)
theorem TwoC.set0 (h : TwoC w q t x y) (u : Value) : TwoC (w.setCell ⟨q, 0, none⟩ u) q t u y := by
  have hlt := h.lt
  have h' : w.heap[q] = .cells #[x, y] t (0, 0) := by simpa [Array.getElem?_eq_getElem hlt] using h.b
  refine ⟨?_⟩
  show (w.heap.modify q _)[q]? = _
  rw [Array.getElem?_eq_getElem (by simpa using hlt), Array.getElem_modify_self, h']
  rfl
theorem TwoC.set1 (h : TwoC w q t x y) (u : Value) : TwoC (w.setCell ⟨q, 1, none⟩ u) q t x u := by
  have hlt := h.lt
  have h' : w.heap[q] = .cells #[x, y] t (0, 0) := by simpa [Array.getElem?_eq_getElem hlt] using h.b
  refine ⟨?_⟩
  show (w.heap.modify q _)[q]? = _
  rw [Array.getElem?_eq_getElem (by simpa using hlt), Array.getElem_modify_self, h']
  rfl
theorem TwoC.new (w : World) (t : TypeId) (x y : Value) : TwoC (w.alloc (.cells #[x, y] t)) w.heap.size t x y := ⟨heap_alloc_new w _⟩
end
theorem TwoC.box {w : World} {q : Nat} {t : TypeId} {L : Int} {u : Value} (h : TwoC w q t (.int .i64 L) u) : BoxF w q L u := ⟨h.c0, h.c1, h.lt⟩
theorem set1_same (w : World) (q o : Nat) (u : Value) : Same q (q + 1) w (w.setCell ⟨q, o, none⟩ u) := (Same.refl q (q + 1) w).setCell (p := ⟨q, o, none⟩) (Nat.le_refl _) (Nat.lt_succ_self _) u
theorem OwnII.shape {w : World} {lo hi : Nat} {v : Value} {zss : List (List Int)} (h : OwnII w lo hi v zss) : ∃ a cap, v = .slice a zss.length cap := by
  obtain ⟨a, cap, V, e, _⟩ := h.rd.out; exact ⟨a, cap, e⟩
theorem OwnII.shape1 {w : World} {lo hi : Nat} {v : Value} {zss : List (List Int)} {z : List Int} (h : OwnII w lo hi v (zss ++ [z])) : ∃ a cap, v = .slice a (zss.length + 1) cap := by
  obtain ⟨a, cap, e⟩ := h.shape; exact ⟨a, cap, by rw [e, List.length_append]; rfl⟩
theorem OwnI.shape1 {w : World} {lo hi : Nat} {v : Value} {zs : List Int} {z : Int} (h : OwnI w lo hi v (zs ++ [z])) : ∃ a cap, v = .slice a (zs.length + 1) cap := by
  obtain ⟨a, cap, e, _⟩ := h.rd.out; exact ⟨a, cap, by rw [e, List.length_append]; rfl⟩
theorem OwnI.shape {w : World} {lo hi : Nat} {v : Value} {zs : List Int} (h : OwnI w lo hi v zs) : ∃ a cap, v = .slice a zs.length cap := by
  obtain ⟨a, cap, e, _⟩ := h.rd.out; exact ⟨a, cap, e⟩
theorem OwnII.alloc {w : World} {lo hi : Nat} {v : Value} {zss : List (List Int)} (h : OwnII w lo hi v zss) (o : Obj) : OwnII (w.alloc o) lo hi v zss := by
  obtain ⟨vs, h1, h2, h3, h4, h5⟩ := h.ex
  have hk : ∀ k, lo ≤ k → k < hi → k < w.heap.size → (w.alloc o).heap[k]? = w.heap[k]? := fun k _ _ hk => Below.heap_alloc _ _ _ hk
  exact ⟨⟨vs, h1, h2.keep (by simp) hk, fun i hi => (h3 i hi).keep (by simp) hk, h4, h5⟩, h.len⟩
/-- what the law asks of the results where there is none -/
theorem noForm (w : World) (hi : Nat) (h : hi ≤ w.heap.size) (lo : Nat) : OwnF w lo hi (.agg #[.int .i64 0, .slice none 0 0]) ⟨0, []⟩ := ⟨⟨_, rfl, OwnII.nil _ _ _ h⟩, by constructor <;> decide⟩
end Go.Proofs.Ytcpbgjnijhcpkaa
