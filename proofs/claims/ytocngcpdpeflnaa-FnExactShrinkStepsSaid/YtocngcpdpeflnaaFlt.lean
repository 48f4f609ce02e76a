/-
  How slices of float32 read in memory: an element is its bits.
-/
import Derived.Test.YtocngcpdpeflnaaBase
namespace Go.Proofs.Ytocngcpdpeflnaa
open Go.RowKit
set_option linter.unusedVariables false
set_option maxRecDepth 100000
theorem info_f32 : (Try.prog.info? 23).map (fun i => (i.zero, i.size, i.bytes)) = some (some (.float .f32 0), 1, 4) := by kernel_rfl

/-! ### float32 -/
structure Flts (w : World) (lo hi : Nat) (v : Value) (zs : List Nat) : Prop where
  sl : Sl w lo hi 1 zs.length v (fun i => .float .f32 (zs.getD i 0))
section
variable {w w' : World} {lo hi : Nat} {v : Value} {zs : List Nat}
theorem Flts.out (h : Flts w lo hi v zs) : ∃ a cap, v = .slice a zs.length cap ∧ zs.length ≤ cap ∧ cap ≤ 9223372036854775807 ∧
    (zs = [] ∨ ∃ b off, a = some ⟨b, off, none⟩ ∧ lo ≤ b ∧ b < hi ∧ hi ≤ w.heap.size ∧ ∀ i, i < zs.length → w.cell? ⟨b, off + i, none⟩ = some (.float .f32 (zs.getD i 0))) := by
  obtain ⟨a, cap, e, h1, h2, h3⟩ := h.sl.out
  refine ⟨a, cap, e, h1, h2, ?_⟩
  rcases h3 with h3 | ⟨b, off, r1, r2, r3, r4, r5⟩
  · exact .inl (List.eq_nil_of_length_eq_zero h3)
  · exact .inr ⟨b, off, r1, r2, r3, r4, fun i hi => r5 i (by omega)⟩
theorem Flts.len (h : Flts w lo hi v zs) : zs.length ≤ 9223372036854775807 := h.sl.len
theorem Flts.mono {lo' hi' : Nat} (h : Flts w lo hi v zs) (hl : lo' ≤ lo) (hh : hi ≤ hi') (hw : hi' ≤ w.heap.size) : Flts w lo' hi' v zs := ⟨h.sl.mono hl hh hw⟩
theorem Flts.keep (h : Flts w lo hi v zs) (hs : w.heap.size ≤ w'.heap.size) (hb : ∀ k, lo ≤ k → k < hi → k < w.heap.size → w'.heap[k]? = w.heap[k]?) : Flts w' lo hi v zs := ⟨h.sl.keep hs hb⟩
theorem Flts.below {B : Nat} (h : Flts w lo hi v zs) (hb : Below B w w') (hB : hi ≤ B) : Flts w' lo hi v zs := ⟨h.sl.below hb hB⟩
theorem Flts.same {l h' : Nat} (h : Flts w lo hi v zs) (hb : Same l h' w w') (hB : hi ≤ l ∨ h' ≤ lo) : Flts w' lo hi v zs := ⟨h.sl.same hb hB⟩
theorem Flts.drew (h : Flts w lo hi v zs) (hd : Drew w w') : Flts w' lo hi v zs := ⟨h.sl.drew hd⟩
theorem Flts.drewN (h : Flts w lo hi v zs) (n : Nat) : Flts (w.drewN n) lo hi v zs := h.drew (Drew.one w n)
theorem Flts.nil (w : World) (lo hi : Nat) : Flts w lo hi (.slice none 0 0) [] := ⟨Sl.nil _ _ _ _ _⟩
theorem Flts.take {a : Option Addr} {n cap : Nat} (h : Flts w lo hi (.slice a n cap) zs) {k : Nat} (hk : k ≤ zs.length) : Flts w lo hi (.slice a k cap) (zs.take k) := by
  obtain ⟨a', cap', e, h1, h2, h3⟩ := h.out
  simp only [Value.slice.injEq] at e
  obtain ⟨rfl, rfl, rfl⟩ := e
  have e : (zs.take k).length = k := by rw [List.length_take]; omega
  refine ⟨⟨a, cap, by rw [e], by omega, h2, ?_⟩⟩
  rw [e]
  rcases h3 with rfl | ⟨b, off, r1, r2, r3, r4, r5⟩
  · exact .inl (by simpa using hk)
  · refine .inr ⟨b, off, r1, r2, r3, r4, fun i hi => ?_⟩
    rw [r5 i (by omega)]
    simp [List.getD, show i < k by omega]
end

structure OwnFL (w : World) (lo hi : Nat) (v : Value) (zs : List Nat) : Prop where
  own : Own w lo hi 23 1 v zs.length (zs.map (Value.float .f32))
  len : zs.length ≤ 1099511627776
section
variable {w w' : World} {lo hi : Nat} {v : Value} {zs : List Nat}
theorem OwnFL.nil (w : World) (lo hi : Nat) (h : hi ≤ w.heap.size) : OwnFL w lo hi (.slice none 0 0) [] := ⟨Own.nil _ _ _ _ _ h, by simp⟩
theorem OwnFL.rd (h : OwnFL w lo hi v zs) : Flts w lo hi v zs := ⟨h.own.sl.congr fun i hi => by simp [List.getD, List.getElem?_eq_getElem (show i < zs.length by omega)]⟩
theorem OwnFL.mono {lo' hi' : Nat} (h : OwnFL w lo hi v zs) (hl : lo' ≤ lo) (hh : hi ≤ hi') (hw : hi' ≤ w.heap.size) : OwnFL w lo' hi' v zs := ⟨h.own.mono hl hh hw, h.len⟩
theorem OwnFL.keep (h : OwnFL w lo hi v zs) (hs : w.heap.size ≤ w'.heap.size) (hb : ∀ k, lo ≤ k → k < hi → k < w.heap.size → w'.heap[k]? = w.heap[k]?) : OwnFL w' lo hi v zs := ⟨h.own.keep hs hb, h.len⟩
theorem OwnFL.below {B : Nat} (h : OwnFL w lo hi v zs) (hb : Below B w w') (hB : hi ≤ B) : OwnFL w' lo hi v zs := ⟨h.own.below hb hB, h.len⟩
theorem OwnFL.same {l h' : Nat} (h : OwnFL w lo hi v zs) (hb : Same l h' w w') (hB : hi ≤ l ∨ h' ≤ lo) : OwnFL w' lo hi v zs := ⟨h.own.same hb hB, h.len⟩
theorem OwnFL.drew (h : OwnFL w lo hi v zs) (hd : Drew w w') : OwnFL w' lo hi v zs := ⟨h.own.drew hd, h.len⟩
theorem OwnFL.drewN (h : OwnFL w lo hi v zs) (n : Nat) : OwnFL (w.drewN n) lo hi v zs := h.drew (Drew.one w n)
end

/-- a row of n elements in block g -/
structure RowFL (w : World) (lo g n cap : Nat) (zs : List Nat) : Prop where
  row : Row w lo 23 1 g n cap (zs.map (Value.float .f32))
section
variable {w w' : World} {lo g n cap : Nat} {zs : List Nat}
theorem RowFL.length (h : RowFL w lo g n cap zs) : zs.length = n := by simpa using h.row.length
theorem RowFL.cell (h : RowFL w lo g n cap zs) {k : Nat} (hk : k < n) : w.cell? ⟨g, k, none⟩ = some (.float .f32 (zs.getD k 0)) := by
  rw [h.row.cellAt (by omega)]; have := h.length; simp [this, hk]
theorem RowFL.frozen (h : RowFL w lo g n cap zs) (k : Nat) : w.frozen? ⟨g, k, none⟩ = false := h.row.frozen k
theorem RowFL.stored (h : RowFL w lo g n cap zs) (k : Nat) (x : Nat) : RowFL (w.setCell ⟨g, k, none⟩ (.float .f32 x)) lo g n cap (zs.set k x) := ⟨by rw [List.map_set]; exact h.row.stored k _⟩
theorem RowFL.ge (h : RowFL w lo g n cap zs) : lo ≤ g := h.row.ge
theorem RowFL.lt (h : RowFL w lo g n cap zs) : g < w.heap.size := h.row.lt
theorem RowFL.keep (h : RowFL w lo g n cap zs) (hb : w'.heap[g]? = w.heap[g]?) : RowFL w' lo g n cap zs := ⟨h.row.keep hb⟩
theorem RowFL.below {B : Nat} (h : RowFL w lo g n cap zs) (hb : Below B w w') (hB : g < B) : RowFL w' lo g n cap zs := ⟨h.row.below hb hB⟩
theorem RowFL.drew (h : RowFL w lo g n cap zs) (hd : Drew w w') : RowFL w' lo g n cap zs := ⟨h.row.drew hd⟩
theorem RowFL.drewN (h : RowFL w lo g n cap zs) (k : Nat) : RowFL (w.drewN k) lo g n cap zs := h.keep rfl
theorem RowFL.alloc (h : RowFL w lo g n cap zs) (o : Obj) : RowFL (w.alloc o) lo g n cap zs := ⟨h.row.alloc o⟩
theorem RowFL.other (h : RowFL w lo g n cap zs) {p : Addr} (hp : g ≠ p.block) (u : Value) : RowFL (w.setCell p u) lo g n cap zs := ⟨h.row.other hp u⟩
theorem RowFL.made (h : w.ownsRow lo 23 1 (.slice (some ⟨g, 0, none⟩) n n) n (madeCells #[Value.float .f32 0] n).toList) : RowFL w lo g n n (List.replicate n 0) :=
  ⟨⟨by rw [List.map_replicate, ← toList_madeCells_one]; exact h⟩⟩
theorem RowFL.own {hi : Nat} (h : RowFL w lo g n cap zs) (hn : n ≤ 1099511627776) (hg : g < hi) (hh : hi ≤ w.heap.size) : OwnFL w lo hi (.slice (some ⟨g, 0, none⟩) n cap) zs :=
  ⟨by rw [h.length]; exact h.row.own hg hh, by rw [h.length]; exact hn⟩
theorem RowFL.rd {hi : Nat} (h : RowFL w lo g n cap zs) (hg : g < hi) (hh : hi ≤ w.heap.size) : Flts w lo hi (.slice (some ⟨g, 0, none⟩) n cap) zs :=
  ⟨(by rw [h.length]; exact h.row.own hg hh : Own w lo hi 23 1 (.slice (some ⟨g, 0, none⟩) n cap) zs.length _).sl.congr fun i hi => by simp [List.getD, List.getElem?_eq_getElem (show i < zs.length by omega)]⟩
theorem OwnFL.rowOf {v : Value} {hi : Nat} (h : OwnFL w lo hi v zs) : (v = .slice none 0 0 ∧ zs = []) ∨ ∃ g cap, v = .slice (some ⟨g, 0, none⟩) zs.length cap ∧ g < hi ∧ zs.length ≤ cap ∧ cap ≤ 9223372036854775807 ∧ RowFL w lo g zs.length cap zs := by
  rcases h.own.rowOf with ⟨h1, h2⟩ | ⟨g, cap, h1, h2, h3, h4, h5⟩
  · exact .inl ⟨h1, List.eq_nil_of_length_eq_zero h2⟩
  · exact .inr ⟨g, cap, h1, h2, h3, h4, ⟨h5⟩⟩
end
end Go.Proofs.Ytocngcpdpeflnaa
