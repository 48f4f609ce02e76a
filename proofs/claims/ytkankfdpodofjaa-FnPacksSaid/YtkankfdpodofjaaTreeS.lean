/-
  The least tree of cities and the bound: the reference's contracts.
-/
import Derived.Test.YtkankfdpodofjaaBoundI
import Derived.Test.YtkankfdpodofjaaStepI
import Derived.Test.YtkankfdpodofjaaBool
import Derived.Deep.RegionLaw
namespace Go.Proofs.Ytkankfdpodofjaa
open Go.RowKit
set_option linter.unusedVariables false
set_option maxRecDepth 100000

def bst (n : Nat) (a b : Int) : Int := if a < 0 then -1 else a * n + b
theorem bst_nat (n i k : Nat) : bst n (i : Int) (k : Int) = ((i * n + k : Nat) : Int) := by
  rw [bst, if_neg (by omega)]; simp
theorem bst_div {n i k : Nat} (hk : k < n) : (((i * n + k : Nat) : Int).tdiv n = i) ∧ (((i * n + k : Nat) : Int).tmod n = k) := by
  have h1 : (i * n + k) / n = i := by rw [Nat.add_comm, Nat.add_mul_div_right _ _ (by omega), Nat.div_eq_of_lt hk, Nat.zero_add]
  have h2 : (i * n + k) % n = k := by rw [Nat.add_comm, Nat.add_mul_mod_self_right, Nat.mod_eq_of_lt hk]
  exact ⟨by rw [Int.tdiv_eq_ediv_of_nonneg (by omega), ← Int.natCast_ediv, h1], by rw [Int.tmod_eq_emod_of_nonneg (by omega), ← Int.natCast_emod, h2]⟩
theorem alloc_belowT (w : World) (o : Obj) : Below w.heap.size w (w.alloc o) := (Below.refl _ _).alloc (Nat.le_refl _) o
theorem ints_new2 (w : World) (x y : Int) (e : TypeId) (hx : I64 x) (hy : I64 y) : Ints (w.alloc (.cells #[.int .i64 x, .int .i64 y] e)).drew w.heap.size (w.heap.size + 1) (.slice (some ⟨w.heap.size, 0, none⟩) 2 2) [x, y] := by
  refine Ints.drew ⟨⟨some ⟨w.heap.size, 0, none⟩, 2, rfl, by simp, by omega, .inr ⟨w.heap.size, 0, rfl, Nat.le_refl _, by omega, by simp, fun i hi => ?_⟩⟩, by simp; exact ⟨hx, hy⟩⟩ ⟨1, rfl⟩
  have : i = 0 ∨ i = 1 := by simp at hi; omega
  rcases this with rfl | rfl
  · exact cell_new_at w #[.int .i64 x, .int .i64 y] e 0 (by simp)
  · exact cell_new_at w #[.int .i64 x, .int .i64 y] e 1 (by simp)
theorem RowB.same {w w' : World} {lo g n cap l h : Nat} {zs : List Bool} (hr : RowB w lo g n cap zs) (hs : Same l h w w') (hg : g < l) : RowB w' lo g n cap zs := hr.keep (hs.block g hr.lt (by omega))
theorem setB_getD (L : List Bool) (m : Nat) (x : Bool) (hm : m < L.length) (q : Nat) : (L.set m x).getD q false = if m = q then x else L.getD q false := by
  simp only [List.getD, List.getElem?_set]
  split
  · rename_i e; rfl
  · rfl
theorem hasI_snoc (S : List Int) (x y : Int) : hasI (S ++ [x]) y = (hasI S y || (x == y)) := by
  rw [Bool.eq_iff_iff, hasI_iff, Bool.or_eq_true, hasI_iff, List.mem_append, List.mem_singleton, beq_iff_eq]
  exact ⟨fun h => h.imp id Eq.symm, fun h => h.imp id Eq.symm⟩
theorem OwnI.setOther2 {w : World} {lo hi : Nat} {v : Value} {zs : List Int} (h : OwnI w lo hi v zs) (p : Addr) (u : Value) (hne : ∀ k, v.ownBlock = some k → k ≠ p.block) : OwnI (w.setCell p u) lo (w.setCell p u).heap.size v zs := by
  have hz : (w.setCell p u).heap.size = w.heap.size := by simp [World.setCell]
  refine (h.stay2 (by omega) fun k hk => Below.heap_setCell _ _ _ _ (hne k hk)).mono (Nat.le_refl _) ?_ (Nat.le_refl _)
  rw [hz]; exact h.own.hsz
end Go.Proofs.Ytkankfdpodofjaa
