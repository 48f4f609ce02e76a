/-
  How slices of slices of integers read in memory, and contracts of the functions of the laws that copy, compare, measure and mark them.
-/
import Derived.Test.YtkankfdpodofjaaMarkI
namespace Go.Proofs.Ytkankfdpodofjaa
open Go.RowKit
set_option linter.unusedVariables false
set_option maxRecDepth 100000

structure Intss (w : World) (lo hi : Nat) (v : Value) (zss : List (List Int)) : Prop where
  ex : ∃ V : Nat → Value, Sl w lo hi 1 zss.length v V ∧ ∀ i (h : i < zss.length), Ints w lo hi (V i) zss[i]
section
variable {w w' : World} {lo hi : Nat} {v : Value} {zss : List (List Int)}
theorem Intss.out (h : Intss w lo hi v zss) : ∃ a cap, ∃ V : Nat → Value, v = .slice a zss.length cap ∧ zss.length ≤ cap ∧ cap ≤ 9223372036854775807 ∧ (∀ i (h : i < zss.length), Ints w lo hi (V i) zss[i]) ∧
    (zss = [] ∨ ∃ b off, a = some ⟨b, off, none⟩ ∧ lo ≤ b ∧ b < hi ∧ hi ≤ w.heap.size ∧ ∀ i, i < zss.length → w.cell? ⟨b, off + i, none⟩ = some (V i)) := by
  obtain ⟨V, hs, hV⟩ := h.ex
  obtain ⟨a, cap, e, h1, h2, h3⟩ := hs.out
  refine ⟨a, cap, V, e, h1, h2, hV, ?_⟩
  rcases h3 with h3 | ⟨b, off, r1, r2, r3, r4, r5⟩
  · exact .inl (List.eq_nil_of_length_eq_zero h3)
  · exact .inr ⟨b, off, r1, r2, r3, r4, fun i hi => r5 i (by omega)⟩
theorem Intss.len (h : Intss w lo hi v zss) : zss.length ≤ 9223372036854775807 := by obtain ⟨V, hs, _⟩ := h.ex; exact hs.len
theorem Intss.below {B : Nat} (h : Intss w lo hi v zss) (hb : Below B w w') (hB : hi ≤ B) : Intss w' lo hi v zss := by
  obtain ⟨V, hs, hV⟩ := h.ex; exact ⟨V, hs.below hb hB, fun i hi => (hV i hi).below hb hB⟩
theorem Intss.same {l h' : Nat} (h : Intss w lo hi v zss) (hb : Same l h' w w') (hB : hi ≤ l ∨ h' ≤ lo) : Intss w' lo hi v zss := by
  obtain ⟨V, hs, hV⟩ := h.ex; exact ⟨V, hs.same hb hB, fun i hi => (hV i hi).same hb hB⟩
theorem Intss.drew (h : Intss w lo hi v zss) (hd : Drew w w') : Intss w' lo hi v zss := by
  obtain ⟨V, hs, hV⟩ := h.ex; exact ⟨V, hs.drew hd, fun i hi => (hV i hi).drew hd⟩
theorem Intss.mono {lo' hi' : Nat} (h : Intss w lo hi v zss) (hl : lo' ≤ lo) (hh : hi ≤ hi') (hw : hi' ≤ w.heap.size) : Intss w lo' hi' v zss := by
  obtain ⟨V, hs, hV⟩ := h.ex; exact ⟨V, hs.mono hl hh hw, fun i hi => (hV i hi).mono hl hh hw⟩
theorem Intss.nil (w : World) (lo hi : Nat) : Intss w lo hi (.slice none 0 0) [] := ⟨fun _ => undef, Sl.nil _ _ _ _ _, fun i h => by simp at h⟩
end
theorem len_le_sum (zss : List (List Int)) (i : Nat) (hi : i < zss.length) : zss[i].length ≤ (zss.map List.length).sum := by
  induction zss generalizing i with
  | nil => simp at hi
  | cons a r ih =>
    rw [List.map_cons, List.sum_cons]
    cases i with
    | zero => simp
    | succ i => have := ih i (by simpa using hi); rw [List.getElem_cons_succ]; omega
/-- so many rows and numbers that no count wraps -/
def SmallII (zss : List (List Int)) : Prop := zss.length ≤ 1048576 ∧ (zss.map List.length).sum ≤ 1048576
theorem SmallII.row {zss : List (List Int)} (h : SmallII zss) {i : Nat} (hi : i < zss.length) : zss[i].length ≤ 1048576 := by
  have h1 := len_le_sum zss i hi
  have := h.2; omega

/-! ### in memory of the call's own: no two rows share a block -/
structure OwnII (w : World) (lo hi : Nat) (v : Value) (zss : List (List Int)) : Prop where
  ex : ∃ vs : List Value, vs.length = zss.length ∧ Own w lo hi 25 1 v zss.length vs ∧
    (∀ i (h : i < zss.length), OwnI w lo hi (vs.getD i undef) zss[i]) ∧
    (∀ i j, i < j → j < zss.length → ∀ p, (vs.getD i undef).ownBlock = some p → (vs.getD j undef).ownBlock ≠ some p) ∧
    (∀ i, i < zss.length → ∀ p, (vs.getD i undef).ownBlock = some p → v.ownBlock ≠ some p)
  len : (zss.map List.length).sum ≤ 1099511627776
section
variable {w w' : World} {lo hi : Nat} {v : Value} {zss : List (List Int)}
theorem OwnII.rd (h : OwnII w lo hi v zss) : Intss w lo hi v zss := by
  obtain ⟨vs, h1, h2, h3, _, _⟩ := h.ex
  exact ⟨fun i => vs.getD i undef, h2.sl, fun i hi => (h3 i hi).rd⟩
theorem OwnII.below {B : Nat} (h : OwnII w lo hi v zss) (hb : Below B w w') (hB : hi ≤ B) : OwnII w' lo hi v zss := by
  obtain ⟨vs, h1, h2, h3, h4, h5⟩ := h.ex; exact ⟨⟨vs, h1, h2.below hb hB, fun i hi => (h3 i hi).below hb hB, h4, h5⟩, h.len⟩
theorem OwnII.same {l h' : Nat} (h : OwnII w lo hi v zss) (hb : Same l h' w w') (hB : hi ≤ l ∨ h' ≤ lo) : OwnII w' lo hi v zss := by
  obtain ⟨vs, h1, h2, h3, h4, h5⟩ := h.ex; exact ⟨⟨vs, h1, h2.same hb hB, fun i hi => (h3 i hi).same hb hB, h4, h5⟩, h.len⟩
theorem OwnII.drew (h : OwnII w lo hi v zss) (hd : Drew w w') : OwnII w' lo hi v zss := by
  obtain ⟨vs, h1, h2, h3, h4, h5⟩ := h.ex; exact ⟨⟨vs, h1, h2.drew hd, fun i hi => (h3 i hi).drew hd, h4, h5⟩, h.len⟩
theorem OwnII.mono {lo' hi' : Nat} (h : OwnII w lo hi v zss) (hl : lo' ≤ lo) (hh : hi ≤ hi') (hw : hi' ≤ w.heap.size) : OwnII w lo' hi' v zss := by
  obtain ⟨vs, h1, h2, h3, h4, h5⟩ := h.ex; exact ⟨⟨vs, h1, h2.mono hl hh hw, fun i hi => (h3 i hi).mono hl hh hw, h4, h5⟩, h.len⟩
theorem OwnII.nil (w : World) (lo hi : Nat) (h : hi ≤ w.heap.size) : OwnII w lo hi (.slice none 0 0) [] :=
  ⟨⟨[], rfl, Own.nil _ _ _ _ _ h, fun i h => by simp at h, fun i j _ h => by simp at h, fun i h => by simp at h⟩, by simp⟩
end
theorem OwnI.narrow {w : World} {lo hi : Nat} {v : Value} {zs : List Int} (h : OwnI w lo hi v zs) :
    ∃ p q, OwnI w p q v zs ∧ ((v.ownBlock = none ∧ p = 0 ∧ q = 0) ∨ (v.ownBlock = some p ∧ q = p + 1 ∧ lo ≤ p ∧ p < hi)) := by
  rcases h.rowOf with ⟨rfl, rfl⟩ | ⟨g, cap, rfl, h1, h2, h3, h4⟩
  · exact ⟨0, 0, OwnI.nil _ _ _ (Nat.zero_le _), .inl ⟨rfl, rfl, rfl⟩⟩
  · have h5 := h4.lt
    refine ⟨g, g + 1, ⟨⟨⟨h.own.row.1, ?_⟩, fun k e => by simp [Value.ownBlock] at e; omega, by omega⟩, h.rng, h.len⟩, .inr ⟨rfl, rfl, h4.ge, h1⟩⟩
    rcases h.own.row.2 with h0 | ⟨g', cap', cur, e, h6, r⟩
    · exact .inl h0
    · refine .inr ⟨g', cap', cur, e, ?_, r⟩
      simp at e; omega
theorem OwnI.widen {w : World} {p q lo hi : Nat} {v : Value} {zs : List Int} (h : OwnI w p q v zs) (hh : hi ≤ w.heap.size) (hb : ∀ k, v.ownBlock = some k → lo ≤ k ∧ k < hi) : OwnI w lo hi v zs := by
  refine ⟨⟨⟨h.own.row.1, ?_⟩, fun k e => (hb k e).2, hh⟩, h.rng, h.len⟩
  rcases h.own.row.2 with h0 | ⟨g, cap, cur, e, h6, r⟩
  · exact .inl h0
  · exact .inr ⟨g, cap, cur, e, (hb g (by rw [e]; rfl)).1, r⟩
/-- an owned slice of integers stays where its own block stays -/
theorem OwnI.stay {w w' : World} {lo hi : Nat} {v : Value} {zs : List Int} (h : OwnI w lo hi v zs) (hs : w.heap.size ≤ w'.heap.size) (hb : ∀ k, v.ownBlock = some k → w'.heap[k]? = w.heap[k]?) : OwnI w' lo hi v zs := by
  refine ⟨⟨⟨h.own.row.1, ?_⟩, h.own.blk, by have := h.own.hsz; omega⟩, h.rng, h.len⟩
  rcases h.own.row.2 with h0 | ⟨g, cap, cur, e, h6, h7, r⟩
  · exact .inl h0
  · exact .inr ⟨g, cap, cur, e, h6, by rw [hb g (by rw [e]; rfl)]; exact h7, r⟩
theorem OwnI.setOther {w : World} {lo hi : Nat} {v : Value} {zs : List Int} (h : OwnI w lo hi v zs) (p : Addr) (u : Value) (hne : ∀ k, v.ownBlock = some k → k ≠ p.block) : OwnI (w.setCell p u) lo (w.setCell p u).heap.size v zs := by
  have hsz : (w.setCell p u).heap.size = w.heap.size := by simp [World.setCell]
  rw [hsz]
  exact (h.stay (by omega) fun k hk => Below.heap_setCell _ _ _ _ (hne k hk)).mono (Nat.le_refl _) h.own.hsz (by omega)
theorem Own.stay {w w' : World} {lo hi : Nat} {e : TypeId} {sz n : Nat} {v : Value} {cs : List Value} (h : Own w lo hi e sz v n cs) (hs : w.heap.size ≤ w'.heap.size) (hb : ∀ k, v.ownBlock = some k → w'.heap[k]? = w.heap[k]?) : Own w' lo hi e sz v n cs := by
  refine ⟨⟨h.row.1, ?_⟩, h.blk, by have := h.hsz; omega⟩
  rcases h.row.2 with h0 | ⟨g, cap, cur, e, h6, h7, r⟩
  · exact .inl h0
  · exact .inr ⟨g, cap, cur, e, h6, by rw [hb g (by rw [e]; rfl)]; exact h7, r⟩

theorem info_ints : (Try.prog.info? 25).map (fun i => (i.zero, i.size, i.bytes)) = some (some (.slice none 0 0), 1, 24) := by kernel_rfl
def marksII (k : Int) : List (List Int) → List (List Int)
  | [] => []
  | x :: r => marksI k x.length :: marksII (k + (x.length : Int)) r
def offs (xs : List (List Int)) (i : Nat) : Nat := ((xs.take i).map List.length).sum
theorem marksII_len (k : Int) (xs : List (List Int)) : (marksII k xs).length = xs.length := by
  induction xs generalizing k with
  | nil => rfl
  | cons a r ih => simp [marksII, ih]
theorem marksII_get (k : Int) (xs : List (List Int)) (i : Nat) (h : i < xs.length) : (marksII k xs)[i]'(by rw [marksII_len]; exact h) = marksI (k + (offs xs i : Int)) xs[i].length := by
  induction xs generalizing k i with
  | nil => simp at h
  | cons a r ih =>
    cases i with
    | zero => simp [marksII, offs]
    | succ i =>
      simp only [marksII, List.getElem_cons_succ]
      rw [ih _ _ (by simpa using h)]
      congr 1
      simp [offs]; omega
theorem marksII_sum (k : Int) (xs : List (List Int)) : ((marksII k xs).map List.length).sum = (xs.map List.length).sum := by
  induction xs generalizing k with
  | nil => rfl
  | cons a r ih => simp [marksII, ih, marksI_len]
theorem offs_succ (xs : List (List Int)) (i : Nat) (h : i < xs.length) : offs xs (i + 1) = offs xs i + xs[i].length := by
  unfold offs; rw [List.take_succ_eq_append_getElem h, List.map_append, List.sum_append]; simp
theorem offs_all (xs : List (List Int)) : offs xs xs.length = (xs.map List.length).sum := by unfold offs; rw [List.take_length]
theorem offs_le (xs : List (List Int)) (i : Nat) : offs xs i ≤ (xs.map List.length).sum := by
  unfold offs
  have : (xs.map List.length).sum = ((xs.take i).map List.length).sum + ((xs.drop i).map List.length).sum := by
    rw [← List.sum_append, ← List.map_append, List.take_append_drop]
  omega
end Go.Proofs.Ytkankfdpodofjaa
