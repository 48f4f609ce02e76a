/-
  How slices of bools read in memory.
-/
import Derived.Test.YtkankfdpodofjaaBase
namespace Go.Proofs.Ytkankfdpodofjaa
open Go.RowKit
set_option linter.unusedVariables false
set_option maxRecDepth 100000

/-! ### bool -/
structure Bools (w : World) (lo hi : Nat) (v : Value) (zs : List Bool) : Prop where
  sl : Sl w lo hi 1 zs.length v (fun i => .bool (zs.getD i false))
section
variable {w w' : World} {lo hi : Nat} {v : Value} {zs : List Bool}
theorem Bools.out (h : Bools w lo hi v zs) : ∃ a cap, v = .slice a zs.length cap ∧ zs.length ≤ cap ∧ cap ≤ 9223372036854775807 ∧
    (zs = [] ∨ ∃ b off, a = some ⟨b, off, none⟩ ∧ lo ≤ b ∧ b < hi ∧ hi ≤ w.heap.size ∧ ∀ i, i < zs.length → w.cell? ⟨b, off + i, none⟩ = some (.bool (zs.getD i false))) := by
  obtain ⟨a, cap, e, h1, h2, h3⟩ := h.sl.out
  refine ⟨a, cap, e, h1, h2, ?_⟩
  rcases h3 with h3 | ⟨b, off, r1, r2, r3, r4, r5⟩
  · exact .inl (List.eq_nil_of_length_eq_zero h3)
  · exact .inr ⟨b, off, r1, r2, r3, r4, fun i hi => r5 i (by omega)⟩
theorem Bools.len (h : Bools w lo hi v zs) : zs.length ≤ 9223372036854775807 := h.sl.len
theorem Bools.mono {lo' hi' : Nat} (h : Bools w lo hi v zs) (hl : lo' ≤ lo) (hh : hi ≤ hi') (hw : hi' ≤ w.heap.size) : Bools w lo' hi' v zs := ⟨h.sl.mono hl hh hw⟩
theorem Bools.keep (h : Bools w lo hi v zs) (hs : w.heap.size ≤ w'.heap.size) (hb : ∀ k, lo ≤ k → k < hi → k < w.heap.size → w'.heap[k]? = w.heap[k]?) : Bools w' lo hi v zs := ⟨h.sl.keep hs hb⟩
theorem Bools.below {B : Nat} (h : Bools w lo hi v zs) (hb : Below B w w') (hB : hi ≤ B) : Bools w' lo hi v zs := ⟨h.sl.below hb hB⟩
theorem Bools.same {l h' : Nat} (h : Bools w lo hi v zs) (hb : Same l h' w w') (hB : hi ≤ l ∨ h' ≤ lo) : Bools w' lo hi v zs := ⟨h.sl.same hb hB⟩
theorem Bools.drew (h : Bools w lo hi v zs) (hd : Drew w w') : Bools w' lo hi v zs := ⟨h.sl.drew hd⟩
theorem Bools.drewN (h : Bools w lo hi v zs) (n : Nat) : Bools (w.drewN n) lo hi v zs := h.drew (Drew.one w n)
theorem Bools.nil (w : World) (lo hi : Nat) : Bools w lo hi (.slice none 0 0) [] := ⟨Sl.nil _ _ _ _ _⟩
theorem Bools.take {a : Option Addr} {n cap : Nat} (h : Bools w lo hi (.slice a n cap) zs) {k : Nat} (hk : k ≤ zs.length) : Bools w lo hi (.slice a k cap) (zs.take k) := by
  obtain ⟨a', cap', e, h1, h2, h3⟩ := h.out
  simp only [Value.slice.injEq] at e
  obtain ⟨rfl, rfl, rfl⟩ := e
  have e : (zs.take k).length = k := by rw [List.length_take]; omega
  refine ⟨⟨a, cap, by rw [e], by omega, h2, ?_⟩⟩
  rw [e]
  rcases h3 with rfl | ⟨b, off, r1, r2, r3, r4, r5⟩
  · exact .inl (by simpa using hk)
  · refine .inr ⟨b, off, r1, r2, r3, r4, fun i hi => ?_⟩
    rw [r5 i (by omega)]
    simp [List.getD, show i < k by omega]
end

structure OwnB (w : World) (lo hi : Nat) (v : Value) (zs : List Bool) : Prop where
  own : Own w lo hi 4 1 v zs.length (zs.map Value.bool)
  len : zs.length ≤ 1099511627776
section
variable {w w' : World} {lo hi : Nat} {v : Value} {zs : List Bool}
theorem OwnB.nil (w : World) (lo hi : Nat) (h : hi ≤ w.heap.size) : OwnB w lo hi (.slice none 0 0) [] := ⟨Own.nil _ _ _ _ _ h, by simp⟩
theorem OwnB.rd (h : OwnB w lo hi v zs) : Bools w lo hi v zs := ⟨h.own.sl.congr fun i hi => by simp [List.getD, List.getElem?_eq_getElem (show i < zs.length by omega)]⟩
theorem OwnB.mono {lo' hi' : Nat} (h : OwnB w lo hi v zs) (hl : lo' ≤ lo) (hh : hi ≤ hi') (hw : hi' ≤ w.heap.size) : OwnB w lo' hi' v zs := ⟨h.own.mono hl hh hw, h.len⟩
theorem OwnB.keep (h : OwnB w lo hi v zs) (hs : w.heap.size ≤ w'.heap.size) (hb : ∀ k, lo ≤ k → k < hi → k < w.heap.size → w'.heap[k]? = w.heap[k]?) : OwnB w' lo hi v zs := ⟨h.own.keep hs hb, h.len⟩
theorem OwnB.below {B : Nat} (h : OwnB w lo hi v zs) (hb : Below B w w') (hB : hi ≤ B) : OwnB w' lo hi v zs := ⟨h.own.below hb hB, h.len⟩
theorem OwnB.same {l h' : Nat} (h : OwnB w lo hi v zs) (hb : Same l h' w w') (hB : hi ≤ l ∨ h' ≤ lo) : OwnB w' lo hi v zs := ⟨h.own.same hb hB, h.len⟩
theorem OwnB.drew (h : OwnB w lo hi v zs) (hd : Drew w w') : OwnB w' lo hi v zs := ⟨h.own.drew hd, h.len⟩
theorem OwnB.drewN (h : OwnB w lo hi v zs) (n : Nat) : OwnB (w.drewN n) lo hi v zs := h.drew (Drew.one w n)
end

/-- a row of n elements in block g -/
structure RowB (w : World) (lo g n cap : Nat) (zs : List Bool) : Prop where
  row : Row w lo 4 1 g n cap (zs.map Value.bool)
section
variable {w w' : World} {lo g n cap : Nat} {zs : List Bool}
theorem RowB.length (h : RowB w lo g n cap zs) : zs.length = n := by simpa using h.row.length
theorem RowB.cell (h : RowB w lo g n cap zs) {k : Nat} (hk : k < n) : w.cell? ⟨g, k, none⟩ = some (.bool (zs.getD k false)) := by
  rw [h.row.cellAt (by omega)]; have := h.length; simp [this, hk]
theorem RowB.frozen (h : RowB w lo g n cap zs) (k : Nat) : w.frozen? ⟨g, k, none⟩ = false := h.row.frozen k
theorem RowB.stored (h : RowB w lo g n cap zs) (k : Nat) (x : Bool) : RowB (w.setCell ⟨g, k, none⟩ (.bool x)) lo g n cap (zs.set k x) := ⟨by rw [List.map_set]; exact h.row.stored k _⟩
theorem RowB.ge (h : RowB w lo g n cap zs) : lo ≤ g := h.row.ge
theorem RowB.lt (h : RowB w lo g n cap zs) : g < w.heap.size := h.row.lt
theorem RowB.keep (h : RowB w lo g n cap zs) (hb : w'.heap[g]? = w.heap[g]?) : RowB w' lo g n cap zs := ⟨h.row.keep hb⟩
theorem RowB.below {B : Nat} (h : RowB w lo g n cap zs) (hb : Below B w w') (hB : g < B) : RowB w' lo g n cap zs := ⟨h.row.below hb hB⟩
theorem RowB.drew (h : RowB w lo g n cap zs) (hd : Drew w w') : RowB w' lo g n cap zs := ⟨h.row.drew hd⟩
theorem RowB.drewN (h : RowB w lo g n cap zs) (k : Nat) : RowB (w.drewN k) lo g n cap zs := h.keep rfl
theorem RowB.alloc (h : RowB w lo g n cap zs) (o : Obj) : RowB (w.alloc o) lo g n cap zs := ⟨h.row.alloc o⟩
theorem RowB.other (h : RowB w lo g n cap zs) {p : Addr} (hp : g ≠ p.block) (u : Value) : RowB (w.setCell p u) lo g n cap zs := ⟨h.row.other hp u⟩
theorem RowB.made (h : w.ownsRow lo 4 1 (.slice (some ⟨g, 0, none⟩) n n) n (madeCells #[Value.bool false] n).toList) : RowB w lo g n n (List.replicate n false) :=
  ⟨⟨by rw [List.map_replicate, ← toList_madeCells_one]; exact h⟩⟩
theorem RowB.own {hi : Nat} (h : RowB w lo g n cap zs) (hn : n ≤ 1099511627776) (hg : g < hi) (hh : hi ≤ w.heap.size) : OwnB w lo hi (.slice (some ⟨g, 0, none⟩) n cap) zs :=
  ⟨by rw [h.length]; exact h.row.own hg hh, by rw [h.length]; exact hn⟩
theorem RowB.rd {hi : Nat} (h : RowB w lo g n cap zs) (hg : g < hi) (hh : hi ≤ w.heap.size) : Bools w lo hi (.slice (some ⟨g, 0, none⟩) n cap) zs :=
  ⟨(by rw [h.length]; exact h.row.own hg hh : Own w lo hi 4 1 (.slice (some ⟨g, 0, none⟩) n cap) zs.length _).sl.congr fun i hi => by simp [List.getD, List.getElem?_eq_getElem (show i < zs.length by omega)]⟩
theorem OwnB.rowOf {v : Value} {hi : Nat} (h : OwnB w lo hi v zs) : (v = .slice none 0 0 ∧ zs = []) ∨ ∃ g cap, v = .slice (some ⟨g, 0, none⟩) zs.length cap ∧ g < hi ∧ zs.length ≤ cap ∧ cap ≤ 9223372036854775807 ∧ RowB w lo g zs.length cap zs := by
  rcases h.own.rowOf with ⟨h1, h2⟩ | ⟨g, cap, h1, h2, h3, h4, h5⟩
  · exact .inl ⟨h1, List.eq_nil_of_length_eq_zero h2⟩
  · exact .inr ⟨g, cap, h1, h2, h3, h4, ⟨h5⟩⟩
end
end Go.Proofs.Ytkankfdpodofjaa
