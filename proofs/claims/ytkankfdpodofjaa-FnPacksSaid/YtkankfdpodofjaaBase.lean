/-
  Plain words on how Go values read in memory, and small lemmas on them; no statement of the program is proved here.
-/
import Derived.Test.YtkankfdpodofjaaRows
import Derived.WalkKit
import Derived.WalkLawsBesides
import Derived.Deep.QuietTactic
import Derived.BigQuiet
import Derived.Lib.Hide
namespace Go.Proofs.Ytkankfdpodofjaa
open Go.RowKit
set_option linter.unusedVariables false
set_option maxRecDepth 100000

theorem info_i64 : (Try.prog.info? 2).map (fun i => (i.zero, i.size, i.bytes)) = some (some (.int .i64 0), 1, 8) := by kernel_rfl
theorem info_bool : (Try.prog.info? 4).map (fun i => (i.zero, i.size, i.bytes)) = some (some (.bool false), 1, 1) := by kernel_rfl

/-! ### Endings -/
theorem ret_bool {a b : Bool} (h : a = b) : Ending.returned (.bool a) = Ending.returned (.bool b) := by rw [h]
theorem ret_int {a b : Int} (h : a = b) : Ending.returned (.int .i64 a) = Ending.returned (.int .i64 b) := by rw [h]
theorem ret_ib {a b : Int} {x y : Bool} (h : a = b) (g : x = y) : Ending.returned (.tuple #[.int .i64 a, .bool x]) = Ending.returned (.tuple #[.int .i64 b, .bool y]) := by rw [h, g]
theorem ret_bb {a b : Bool} {x y : Bool} (h : a = b) (g : x = y) : Ending.returned (.tuple #[.bool a, .bool x]) = Ending.returned (.tuple #[.bool b, .bool y]) := by rw [h, g]

theorem ret_p {p : Int × Bool} {a : Int} {x : Bool} (h : p = (a, x)) : Ending.returned (.tuple #[.int .i64 a, .bool x]) = Ending.returned (.tuple #[.int .i64 p.1, .bool p.2]) := by rw [h]
theorem ret_pb {p : Bool × Bool} {a : Bool} {x : Bool} (h : p = (a, x)) : Ending.returned (.tuple #[.bool a, .bool x]) = Ending.returned (.tuple #[.bool p.1, .bool p.2]) := by rw [h]

/-! ### Integers of 64 bits -/
def I64 (n : Int) : Prop := -9223372036854775808 ≤ n ∧ n ≤ 9223372036854775807
def inB (lo hi n : Int) : Bool := decide (lo ≤ n) && decide (n ≤ hi)
theorem inB_iff {lo hi n : Int} : inB lo hi n = true ↔ lo ≤ n ∧ n ≤ hi := by simp [inB]
theorem inB_true {lo hi n : Int} (h : inB lo hi n = true) : lo ≤ n ∧ n ≤ hi := inB_iff.1 h
theorem inB_false {lo hi n : Int} (h : inB lo hi n = false) : ¬ (lo ≤ n ∧ n ≤ hi) := by rw [← inB_iff, h]; simp

/-! ### Worlds -/
/-- Only blocks in [lo, hi), and new ones, may have turned. -/
structure Same (lo hi : Nat) (w w' : World) : Prop where
  os : w'.os = w.os
  tape : w'.tape = w.tape
  output : w'.output = w.output
  size : w.heap.size ≤ w'.heap.size
  block : ∀ k, k < w.heap.size → ¬ (lo ≤ k ∧ k < hi) → w'.heap[k]? = w.heap[k]?
theorem Same.below {lo hi B : Nat} {w w' : World} (h : Same lo hi w w') (hB : B ≤ lo) (hw : B ≤ w.heap.size) : Below B w w' :=
  ⟨h.os, h.tape, h.output, h.size, fun k hk => h.block k (by omega) (by omega)⟩
theorem Same.refl (lo hi : Nat) (w : World) : Same lo hi w w := ⟨rfl, rfl, rfl, Nat.le_refl _, fun _ _ _ => rfl⟩
theorem Same.trans {lo hi : Nat} {a b c : World} (h : Same lo hi a b) (k : Same lo hi b c) : Same lo hi a c :=
  ⟨k.os.trans h.os, k.tape.trans h.tape, k.output.trans h.output, Nat.le_trans h.size k.size, fun i hi hn => (k.block i (Nat.lt_of_lt_of_le hi h.size) hn).trans (h.block i hi hn)⟩
theorem Same.mono {lo hi lo' hi' : Nat} {a b : World} (h : Same lo hi a b) (h1 : lo' ≤ lo) (h2 : hi ≤ hi') : Same lo' hi' a b :=
  ⟨h.os, h.tape, h.output, h.size, fun i hi hn => h.block i hi (by omega)⟩
theorem Same.setCell {lo hi : Nat} {a w : World} (h : Same lo hi a w) {p : Addr} (h1 : lo ≤ p.block) (h2 : p.block < hi) (u : Value) : Same lo hi a (w.setCell p u) :=
  h.trans ⟨rfl, rfl, rfl, by simp [World.setCell], fun k hk hn => Below.heap_setCell _ _ _ _ (by omega)⟩
theorem Same.alloc {lo hi : Nat} {a w : World} (h : Same lo hi a w) (o : Obj) : Same lo hi a (w.alloc o) :=
  h.trans ⟨rfl, rfl, rfl, by simp, fun k hk hn => Below.heap_alloc _ _ _ hk⟩
theorem Same.drewN {lo hi : Nat} {a w : World} (h : Same lo hi a w) (n : Nat) : Same lo hi a (w.drewN n) := ⟨h.os, h.tape, h.output, h.size, h.block⟩
theorem Same.of_below {lo hi B : Nat} {w w' : World} (h : Below B w w') (hB : w.heap.size ≤ B) : Same lo hi w w' := ⟨h.os, h.tape, h.output, h.size, fun k hk hn => h.block k (by omega)⟩

theorem cell_of_heap {w w' : World} {b o : Nat} (h : w'.heap[b]? = w.heap[b]?) : w'.cell? ⟨b, o, none⟩ = w.cell? ⟨b, o, none⟩ := World.cell?_of_block (a := ⟨b, o, none⟩) h
theorem frozen_of_heap {w w' : World} {b o : Nat} (h : w'.heap[b]? = w.heap[b]?) : w'.frozen? ⟨b, o, none⟩ = w.frozen? ⟨b, o, none⟩ := World.frozen?_of_block (a := ⟨b, o, none⟩) h
/-- b is a after some draws: nothing that can be read has turned. -/
def Drew (a b : World) : Prop := ∃ n, b = a.drewN n
theorem Drew.refl (a : World) : Drew a a := ⟨0, rfl⟩
theorem Drew.one (a : World) (n : Nat) : Drew a (a.drewN n) := ⟨n, rfl⟩
theorem Drew.step {a b : World} (h : Drew a b) (n : Nat) : Drew a (b.drewN n) := by obtain ⟨m, rfl⟩ := h; exact ⟨m + n, World.drewN_drewN ..⟩
theorem Drew.trans {a b c : World} (h : Drew a b) (k : Drew b c) : Drew a c := by obtain ⟨m, rfl⟩ := k; exact h.step m
theorem Drew.heap {a b : World} (h : Drew a b) : b.heap = a.heap := by obtain ⟨n, rfl⟩ := h; rfl
theorem Drew.cell {a b : World} (h : Drew a b) : ∀ p, b.cell? p = a.cell? p := by obtain ⟨n, rfl⟩ := h; exact fun _ => rfl
theorem Drew.frozen {a b : World} (h : Drew a b) : ∀ p, b.frozen? p = a.frozen? p := by obtain ⟨n, rfl⟩ := h; exact fun _ => rfl
theorem Drew.below {a b : World} (h : Drew a b) (B : Nat) : Below B a b := by obtain ⟨m, rfl⟩ := h; exact below_drewN (Below.refl _ _) m

/-! ### Slices that are read: the value v has n elements of sz cells each; cell i holds c i; its block lies in [lo, hi) -/
structure Sl (w : World) (lo hi sz n : Nat) (v : Value) (c : Nat → Value) : Prop where
  out : ∃ a cap, v = .slice a n cap ∧ n ≤ cap ∧ cap ≤ 9223372036854775807 ∧
    (n = 0 ∨ ∃ b off, a = some ⟨b, off, none⟩ ∧ lo ≤ b ∧ b < hi ∧ hi ≤ w.heap.size ∧ ∀ i, i < n * sz → w.cell? ⟨b, off + i, none⟩ = some (c i))
section
variable {w w' : World} {lo hi sz n : Nat} {v : Value} {c : Nat → Value}
theorem Sl.mono {lo' hi' : Nat} (h : Sl w lo hi sz n v c) (hl : lo' ≤ lo) (hh : hi ≤ hi') (hw : hi' ≤ w.heap.size) : Sl w lo' hi' sz n v c := by
  obtain ⟨a, cap, e, h1, h2, h5⟩ := h.out
  refine ⟨a, cap, e, h1, h2, ?_⟩
  rcases h5 with h5 | ⟨b, off, r1, r2, r3, r4, r5⟩
  · exact .inl h5
  · exact .inr ⟨b, off, r1, by omega, by omega, hw, r5⟩
theorem Sl.keep (h : Sl w lo hi sz n v c) (hs : w.heap.size ≤ w'.heap.size) (hb : ∀ k, lo ≤ k → k < hi → k < w.heap.size → w'.heap[k]? = w.heap[k]?) : Sl w' lo hi sz n v c := by
  obtain ⟨a, cap, e, h1, h2, h5⟩ := h.out
  refine ⟨a, cap, e, h1, h2, ?_⟩
  rcases h5 with h5 | ⟨b, off, r1, r2, r3, r4, r5⟩
  · exact .inl h5
  · exact .inr ⟨b, off, r1, r2, r3, by omega, fun i hi => by rw [cell_of_heap (hb b r2 r3 (by omega))]; exact r5 i hi⟩
theorem Sl.below {B : Nat} (h : Sl w lo hi sz n v c) (hb : Below B w w') (hB : hi ≤ B) : Sl w' lo hi sz n v c := h.keep hb.size fun k _ hk _ => hb.block k (by omega)
theorem Sl.same {l h' : Nat} (h : Sl w lo hi sz n v c) (hb : Same l h' w w') (hB : hi ≤ l ∨ h' ≤ lo) : Sl w' lo hi sz n v c := h.keep hb.size fun k _ _ hk => hb.block k hk (by omega)
theorem Sl.drew (h : Sl w lo hi sz n v c) (hd : Drew w w') : Sl w' lo hi sz n v c := h.keep (by rw [hd.heap]; exact Nat.le_refl _) fun _ _ _ _ => by rw [hd.heap]
theorem Sl.len (h : Sl w lo hi sz n v c) : n ≤ 9223372036854775807 := by obtain ⟨_, _, _, _, _, _⟩ := h.out; omega
theorem Sl.congr {c' : Nat → Value} (h : Sl w lo hi sz n v c) (hc : ∀ i, i < n * sz → c i = c' i) : Sl w lo hi sz n v c' := by
  obtain ⟨a, cap, e, h1, h2, h5⟩ := h.out
  refine ⟨a, cap, e, h1, h2, ?_⟩
  rcases h5 with h5 | ⟨b, off, r1, r2, r3, r4, r5⟩
  · exact .inl h5
  · exact .inr ⟨b, off, r1, r2, r3, r4, fun i hi => by rw [r5 i hi, hc i hi]⟩
theorem Sl.nil (w : World) (lo hi sz : Nat) (c : Nat → Value) : Sl w lo hi sz 0 (.slice none 0 0) c := ⟨none, 0, rfl, Nat.le_refl _, by omega, .inl rfl⟩
end

/-! ### Slices in memory of the call's own -/
structure Own (w : World) (lo hi : Nat) (e : TypeId) (sz : Nat) (v : Value) (n : Nat) (cs : List Value) : Prop where
  row : w.ownsRow lo e sz v n cs
  blk : ∀ k, v.ownBlock = some k → k < hi
  hsz : hi ≤ w.heap.size
section
variable {w w' : World} {lo hi : Nat} {e : TypeId} {sz n : Nat} {v : Value} {cs : List Value}
theorem Own.nil (w : World) (lo hi : Nat) (e : TypeId) (sz : Nat) (h : hi ≤ w.heap.size) : Own w lo hi e sz (.slice none 0 0) 0 [] := ⟨World.ownsRow_nil _ _ _ _, by simp [Value.ownBlock], h⟩
theorem Own.sl (h : Own w lo hi e sz v n cs) : Sl w lo hi sz n v (fun i => cs.getD i undef) := by
  obtain ⟨hr, hb, hs⟩ := h
  rcases hr.2 with ⟨rfl, rfl⟩ | ⟨g, cap, cur, rfl, h1, h2, h3, h4, h5, h6⟩
  · exact Sl.nil _ _ _ _ _
  · refine ⟨some ⟨g, 0, none⟩, cap, rfl, h3, by simpa [maxLen] using h4, .inr ⟨g, 0, rfl, h1, hb g rfl, hs, fun i hi => ?_⟩⟩
    have hl := hr.1
    rw [Nat.zero_add, hr.cellAt i hi]
    simp [hl, hi]
theorem Own.keep (h : Own w lo hi e sz v n cs) (hs : w.heap.size ≤ w'.heap.size) (hb : ∀ k, lo ≤ k → k < hi → k < w.heap.size → w'.heap[k]? = w.heap[k]?) : Own w' lo hi e sz v n cs := by
  obtain ⟨hr, hk, hz⟩ := h
  refine ⟨⟨hr.1, ?_⟩, hk, by omega⟩
  rcases hr.2 with h0 | ⟨g, cap, cur, rfl, h1, h2, h3, h4, h5, h6⟩
  · exact .inl h0
  · exact .inr ⟨g, cap, cur, rfl, h1, by rw [hb g h1 (hk g rfl) (by have := hk g rfl; omega)]; exact h2, h3, h4, h5, h6⟩
theorem Own.below {B : Nat} (h : Own w lo hi e sz v n cs) (hb : Below B w w') (hB : hi ≤ B) : Own w' lo hi e sz v n cs := h.keep hb.size fun k _ hk _ => hb.block k (by omega)
theorem Own.same {l h' : Nat} (h : Own w lo hi e sz v n cs) (hb : Same l h' w w') (hB : hi ≤ l ∨ h' ≤ lo) : Own w' lo hi e sz v n cs := h.keep hb.size fun k _ _ hk => hb.block k hk (by omega)
theorem Own.drew (h : Own w lo hi e sz v n cs) (hd : Drew w w') : Own w' lo hi e sz v n cs := h.keep (by rw [hd.heap]; exact Nat.le_refl _) fun _ _ _ _ => by rw [hd.heap]
theorem Own.mono {lo' hi' : Nat} (h : Own w lo hi e sz v n cs) (hl : lo' ≤ lo) (hh : hi ≤ hi') (hw : hi' ≤ w.heap.size) : Own w lo' hi' e sz v n cs := by
  obtain ⟨hr, hk, hz⟩ := h
  refine ⟨⟨hr.1, ?_⟩, fun k e => Nat.lt_of_lt_of_le (hk k e) hh, hw⟩
  rcases hr.2 with h0 | ⟨g, cap, cur, rfl, h1, r⟩
  · exact .inl h0
  · exact .inr ⟨g, cap, cur, rfl, by omega, r⟩
end

/-! ### A row of the call's own in block g, n elements long: its cells are cs -/
structure Row (w : World) (lo : Nat) (e : TypeId) (sz g n cap : Nat) (cs : List Value) : Prop where
  row : w.ownsRow lo e sz (.slice (some ⟨g, 0, none⟩) n cap) n cs
section
variable {w w' : World} {lo : Nat} {e : TypeId} {sz g n cap : Nat} {cs : List Value}
theorem Row.length (h : Row w lo e sz g n cap cs) : cs.length = n * sz := h.row.1
theorem Row.cellAt (h : Row w lo e sz g n cap cs) {k : Nat} (hk : k < n * sz) : w.cell? ⟨g, k, none⟩ = some (cs.getD k undef) := by
  rw [h.row.cellAt k hk]; have := h.length; simp [this, hk]
theorem Row.frozen (h : Row w lo e sz g n cap cs) (k : Nat) : w.frozen? ⟨g, k, none⟩ = false := h.row.frozenAt k
theorem Row.stored (h : Row w lo e sz g n cap cs) (k : Nat) (u : Value) : Row (w.setCell ⟨g, k, none⟩ u) lo e sz g n cap (cs.set k u) := ⟨(h.row.stored k u).1⟩
theorem Row.ge (h : Row w lo e sz g n cap cs) : lo ≤ g := (h.row.lt g rfl).1
theorem Row.lt (h : Row w lo e sz g n cap cs) : g < w.heap.size := (h.row.lt g rfl).2
theorem Row.keep (h : Row w lo e sz g n cap cs) (hb : w'.heap[g]? = w.heap[g]?) : Row w' lo e sz g n cap cs := by
  refine ⟨h.row.1, ?_⟩
  rcases h.row.2 with h0 | ⟨g', cap', cur, e, h1, h2, r⟩
  · exact .inl h0
  · obtain ⟨rfl, rfl⟩ : g' = g ∧ cap' = cap := by simp at e; exact ⟨e.1.symm, e.2.symm⟩
    exact .inr ⟨g', cap', cur, rfl, h1, by rw [hb]; exact h2, r⟩
theorem Row.below {B : Nat} (h : Row w lo e sz g n cap cs) (hb : Below B w w') (hB : g < B) : Row w' lo e sz g n cap cs := h.keep (hb.block g hB)
theorem Row.alloc (h : Row w lo e sz g n cap cs) (o : Obj) : Row (w.alloc o) lo e sz g n cap cs := h.keep (Below.heap_alloc _ _ _ h.lt)
theorem Row.drew (h : Row w lo e sz g n cap cs) (hd : Drew w w') : Row w' lo e sz g n cap cs := h.keep (by rw [hd.heap])
theorem Row.drewN (h : Row w lo e sz g n cap cs) (k : Nat) : Row (w.drewN k) lo e sz g n cap cs := h.keep rfl
theorem Row.other (h : Row w lo e sz g n cap cs) {p : Addr} (hp : g ≠ p.block) (u : Value) : Row (w.setCell p u) lo e sz g n cap cs := h.keep (Below.heap_setCell _ _ _ _ hp)
theorem Row.own {hi : Nat} (h : Row w lo e sz g n cap cs) (hg : g < hi) (hh : hi ≤ w.heap.size) : Own w lo hi e sz (.slice (some ⟨g, 0, none⟩) n cap) n cs :=
  ⟨h.row, fun k e => by simp [Value.ownBlock] at e; omega, hh⟩
theorem Own.rowOf {v : Value} {hi : Nat} (h : Own w lo hi e sz v n cs) : (v = .slice none 0 0 ∧ n = 0) ∨ ∃ g cap, v = .slice (some ⟨g, 0, none⟩) n cap ∧ g < hi ∧ n ≤ cap ∧ cap ≤ 9223372036854775807 ∧ Row w lo e sz g n cap cs := by
  obtain ⟨hr, hb, hs⟩ := h
  rcases hr.2 with ⟨rfl, rfl⟩ | ⟨g, cap, cur, rfl, h1, h2, h3, h4, h5, h6⟩
  · exact .inl ⟨rfl, rfl⟩
  · exact .inr ⟨g, cap, rfl, hb g rfl, h3, by simpa [maxLen] using h4, ⟨hr⟩⟩
end


/-! ### int64 -/
structure Ints (w : World) (lo hi : Nat) (v : Value) (zs : List Int) : Prop where
  sl : Sl w lo hi 1 zs.length v (fun i => .int .i64 (zs.getD i 0))
  rng : ∀ n ∈ zs, I64 n
section
variable {w w' : World} {lo hi : Nat} {v : Value} {zs : List Int}
theorem Ints.out (h : Ints w lo hi v zs) : ∃ a cap, v = .slice a zs.length cap ∧ zs.length ≤ cap ∧ cap ≤ 9223372036854775807 ∧
    (zs = [] ∨ ∃ b off, a = some ⟨b, off, none⟩ ∧ lo ≤ b ∧ b < hi ∧ hi ≤ w.heap.size ∧ ∀ i, i < zs.length → w.cell? ⟨b, off + i, none⟩ = some (.int .i64 (zs.getD i 0))) := by
  obtain ⟨a, cap, e, h1, h2, h3⟩ := h.sl.out
  refine ⟨a, cap, e, h1, h2, ?_⟩
  rcases h3 with h3 | ⟨b, off, r1, r2, r3, r4, r5⟩
  · exact .inl (List.eq_nil_of_length_eq_zero h3)
  · exact .inr ⟨b, off, r1, r2, r3, r4, fun i hi => r5 i (by omega)⟩
theorem Ints.len (h : Ints w lo hi v zs) : zs.length ≤ 9223372036854775807 := h.sl.len
theorem Ints.mono {lo' hi' : Nat} (h : Ints w lo hi v zs) (hl : lo' ≤ lo) (hh : hi ≤ hi') (hw : hi' ≤ w.heap.size) : Ints w lo' hi' v zs := ⟨h.sl.mono hl hh hw, h.rng⟩
theorem Ints.keep (h : Ints w lo hi v zs) (hs : w.heap.size ≤ w'.heap.size) (hb : ∀ k, lo ≤ k → k < hi → k < w.heap.size → w'.heap[k]? = w.heap[k]?) : Ints w' lo hi v zs := ⟨h.sl.keep hs hb, h.rng⟩
theorem Ints.below {B : Nat} (h : Ints w lo hi v zs) (hb : Below B w w') (hB : hi ≤ B) : Ints w' lo hi v zs := ⟨h.sl.below hb hB, h.rng⟩
theorem Ints.same {l h' : Nat} (h : Ints w lo hi v zs) (hb : Same l h' w w') (hB : hi ≤ l ∨ h' ≤ lo) : Ints w' lo hi v zs := ⟨h.sl.same hb hB, h.rng⟩
theorem Ints.drew (h : Ints w lo hi v zs) (hd : Drew w w') : Ints w' lo hi v zs := ⟨h.sl.drew hd, h.rng⟩
theorem Ints.drewN (h : Ints w lo hi v zs) (n : Nat) : Ints (w.drewN n) lo hi v zs := h.drew (Drew.one w n)
theorem Ints.nil (w : World) (lo hi : Nat) : Ints w lo hi (.slice none 0 0) [] := ⟨Sl.nil _ _ _ _ _, by simp⟩
theorem Ints.take {a : Option Addr} {n cap : Nat} (h : Ints w lo hi (.slice a n cap) zs) {k : Nat} (hk : k ≤ zs.length) : Ints w lo hi (.slice a k cap) (zs.take k) := by
  obtain ⟨a', cap', e, h1, h2, h3⟩ := h.out
  simp only [Value.slice.injEq] at e
  obtain ⟨rfl, rfl, rfl⟩ := e
  have e : (zs.take k).length = k := by rw [List.length_take]; omega
  refine ⟨⟨a, cap, by rw [e], by omega, h2, ?_⟩, fun n hn => h.rng n (List.mem_of_mem_take hn)⟩
  rw [e]
  rcases h3 with rfl | ⟨b, off, r1, r2, r3, r4, r5⟩
  · exact .inl (by simpa using hk)
  · refine .inr ⟨b, off, r1, r2, r3, r4, fun i hi => ?_⟩
    rw [r5 i (by omega)]
    simp [List.getD, show i < k by omega]
end

structure OwnI (w : World) (lo hi : Nat) (v : Value) (zs : List Int) : Prop where
  own : Own w lo hi 2 1 v zs.length (zs.map (Value.int .i64))
  rng : ∀ n ∈ zs, I64 n
  len : zs.length ≤ 1099511627776
section
variable {w w' : World} {lo hi : Nat} {v : Value} {zs : List Int}
theorem OwnI.nil (w : World) (lo hi : Nat) (h : hi ≤ w.heap.size) : OwnI w lo hi (.slice none 0 0) [] := ⟨Own.nil _ _ _ _ _ h, by simp, by simp⟩
theorem OwnI.rd (h : OwnI w lo hi v zs) : Ints w lo hi v zs := ⟨h.own.sl.congr fun i hi => by simp [List.getD, List.getElem?_eq_getElem (show i < zs.length by omega)], h.rng⟩
theorem OwnI.mono {lo' hi' : Nat} (h : OwnI w lo hi v zs) (hl : lo' ≤ lo) (hh : hi ≤ hi') (hw : hi' ≤ w.heap.size) : OwnI w lo' hi' v zs := ⟨h.own.mono hl hh hw, h.rng, h.len⟩
theorem OwnI.keep (h : OwnI w lo hi v zs) (hs : w.heap.size ≤ w'.heap.size) (hb : ∀ k, lo ≤ k → k < hi → k < w.heap.size → w'.heap[k]? = w.heap[k]?) : OwnI w' lo hi v zs := ⟨h.own.keep hs hb, h.rng, h.len⟩
theorem OwnI.below {B : Nat} (h : OwnI w lo hi v zs) (hb : Below B w w') (hB : hi ≤ B) : OwnI w' lo hi v zs := ⟨h.own.below hb hB, h.rng, h.len⟩
theorem OwnI.same {l h' : Nat} (h : OwnI w lo hi v zs) (hb : Same l h' w w') (hB : hi ≤ l ∨ h' ≤ lo) : OwnI w' lo hi v zs := ⟨h.own.same hb hB, h.rng, h.len⟩
theorem OwnI.drew (h : OwnI w lo hi v zs) (hd : Drew w w') : OwnI w' lo hi v zs := ⟨h.own.drew hd, h.rng, h.len⟩
theorem OwnI.drewN (h : OwnI w lo hi v zs) (n : Nat) : OwnI (w.drewN n) lo hi v zs := h.drew (Drew.one w n)
end

/-- a row of n elements in block g -/
structure RowI (w : World) (lo g n cap : Nat) (zs : List Int) : Prop where
  row : Row w lo 2 1 g n cap (zs.map (Value.int .i64))
section
variable {w w' : World} {lo g n cap : Nat} {zs : List Int}
theorem RowI.length (h : RowI w lo g n cap zs) : zs.length = n := by simpa using h.row.length
theorem RowI.cell (h : RowI w lo g n cap zs) {k : Nat} (hk : k < n) : w.cell? ⟨g, k, none⟩ = some (.int .i64 (zs.getD k 0)) := by
  rw [h.row.cellAt (by omega)]; have := h.length; simp [this, hk]
theorem RowI.frozen (h : RowI w lo g n cap zs) (k : Nat) : w.frozen? ⟨g, k, none⟩ = false := h.row.frozen k
theorem RowI.stored (h : RowI w lo g n cap zs) (k : Nat) (x : Int) : RowI (w.setCell ⟨g, k, none⟩ (.int .i64 x)) lo g n cap (zs.set k x) := ⟨by rw [List.map_set]; exact h.row.stored k _⟩
theorem RowI.ge (h : RowI w lo g n cap zs) : lo ≤ g := h.row.ge
theorem RowI.lt (h : RowI w lo g n cap zs) : g < w.heap.size := h.row.lt
theorem RowI.keep (h : RowI w lo g n cap zs) (hb : w'.heap[g]? = w.heap[g]?) : RowI w' lo g n cap zs := ⟨h.row.keep hb⟩
theorem RowI.below {B : Nat} (h : RowI w lo g n cap zs) (hb : Below B w w') (hB : g < B) : RowI w' lo g n cap zs := ⟨h.row.below hb hB⟩
theorem RowI.drew (h : RowI w lo g n cap zs) (hd : Drew w w') : RowI w' lo g n cap zs := ⟨h.row.drew hd⟩
theorem RowI.drewN (h : RowI w lo g n cap zs) (k : Nat) : RowI (w.drewN k) lo g n cap zs := h.keep rfl
theorem RowI.alloc (h : RowI w lo g n cap zs) (o : Obj) : RowI (w.alloc o) lo g n cap zs := ⟨h.row.alloc o⟩
theorem RowI.other (h : RowI w lo g n cap zs) {p : Addr} (hp : g ≠ p.block) (u : Value) : RowI (w.setCell p u) lo g n cap zs := ⟨h.row.other hp u⟩
theorem RowI.made (h : w.ownsRow lo 2 1 (.slice (some ⟨g, 0, none⟩) n n) n (madeCells #[Value.int .i64 0] n).toList) : RowI w lo g n n (List.replicate n 0) :=
  ⟨⟨by rw [List.map_replicate, ← toList_madeCells_one]; exact h⟩⟩
theorem RowI.own {hi : Nat} (h : RowI w lo g n cap zs) (hr : ∀ n ∈ zs, I64 n) (hn : n ≤ 1099511627776) (hg : g < hi) (hh : hi ≤ w.heap.size) : OwnI w lo hi (.slice (some ⟨g, 0, none⟩) n cap) zs :=
  ⟨by rw [h.length]; exact h.row.own hg hh, hr, by rw [h.length]; exact hn⟩
theorem RowI.rd {hi : Nat} (h : RowI w lo g n cap zs) (hr : ∀ n ∈ zs, I64 n) (hg : g < hi) (hh : hi ≤ w.heap.size) : Ints w lo hi (.slice (some ⟨g, 0, none⟩) n cap) zs :=
  ⟨(by rw [h.length]; exact h.row.own hg hh : Own w lo hi 2 1 (.slice (some ⟨g, 0, none⟩) n cap) zs.length _).sl.congr fun i hi => by simp [List.getD, List.getElem?_eq_getElem (show i < zs.length by omega)], hr⟩
theorem OwnI.rowOf {v : Value} {hi : Nat} (h : OwnI w lo hi v zs) : (v = .slice none 0 0 ∧ zs = []) ∨ ∃ g cap, v = .slice (some ⟨g, 0, none⟩) zs.length cap ∧ g < hi ∧ zs.length ≤ cap ∧ cap ≤ 9223372036854775807 ∧ RowI w lo g zs.length cap zs := by
  rcases h.own.rowOf with ⟨h1, h2⟩ | ⟨g, cap, h1, h2, h3, h4, h5⟩
  · exact .inl ⟨h1, List.eq_nil_of_length_eq_zero h2⟩
  · exact .inr ⟨g, cap, h1, h2, h3, h4, ⟨h5⟩⟩
end
/-- A callee that leaves the world alone (or draws), met inside a region that draws its order. -/
theorem quiet_same {P : Program} {f : FuncId} {args : Array Value} {w : World} {n : Nat} {v : Value}
    (h : Calls P f args (w.drewN n) fun e w' => e = .returned v ∧ w.drewN n = w') : Calls P f args (w.drewN n) fun e w'' => e = .returned v ∧ ∃ m, w'' = w.drewN m :=
  h.mono fun _ _ ⟨he, hm⟩ => ⟨he, n, hm.symm⟩
theorem quiet_drew {P : Program} {f : FuncId} {args : Array Value} {w : World} {n : Nat} {v : Value}
    (h : Calls P f args (w.drewN n) fun e w' => e = .returned v ∧ Drew (w.drewN n) w') : Calls P f args (w.drewN n) fun e w'' => e = .returned v ∧ ∃ m, w'' = w.drewN m :=
  h.mono fun _ _ ⟨he, hm⟩ => ⟨he, (Drew.one w n).trans hm⟩

/-! ### Lists -/
def hasI : List Int → Int → Bool
  | [], _ => false
  | x :: r, n => (x == n) || hasI r n
theorem hasI_iff (zs : List Int) (n : Int) : hasI zs n = true ↔ n ∈ zs := by
  induction zs with
  | nil => simp [hasI]
  | cons a r ih => simp only [hasI, Bool.or_eq_true, ih, beq_iff_eq, List.mem_cons]; constructor <;> (rintro (h | h); exact .inl h.symm; exact .inr h)
theorem hasI_false (zs : List Int) (n : Int) : hasI zs n = false ↔ n ∉ zs := by rw [← hasI_iff]; simp
theorem replicate_getD {α : Type} (n j : Nat) (d : α) : (List.replicate n d).getD j d = d := by
  rw [List.getD_eq_getElem?_getD, List.getElem?_replicate]; split <;> rfl
theorem ite_max (a b : Int) : (if a < b then b else a) = max a b := by split <;> omega
def maxL : List Int → Int
  | [] => 0
  | x :: r => r.foldl max x
theorem foldl_max_lt (r : List Int) (x y : Int) : r.foldl max x < y ↔ x < y ∧ ∀ z ∈ r, z < y := by
  induction r generalizing x with
  | nil => simp
  | cons a r ih => rw [List.foldl_cons, ih]; simp only [List.mem_cons, forall_eq_or_imp]; constructor <;> (intro ⟨h1, h2⟩; refine ⟨?_, ?_⟩ <;> (try exact ⟨by omega, h2.2⟩) <;> (try exact ⟨by omega, h2⟩) <;> (try omega) <;> exact h2.2)
theorem maxL_lt (zs : List Int) (h : zs ≠ []) (y : Int) : maxL zs < y ↔ ∀ z ∈ zs, z < y := by
  cases zs with
  | nil => exact absurd rfl h
  | cons a r => unfold maxL; rw [foldl_max_lt]; simp

theorem drop_cons {α : Type} (zs : List α) (k : Nat) (h : k < zs.length) : zs.drop k = zs[k] :: zs.drop (k + 1) := List.drop_eq_getElem_cons h
theorem drop_len {α : Type} (zs : List α) (k : Nat) (h : zs.length ≤ k) : zs.drop k = [] := List.drop_eq_nil_of_le h
end Go.Proofs.Ytkankfdpodofjaa
