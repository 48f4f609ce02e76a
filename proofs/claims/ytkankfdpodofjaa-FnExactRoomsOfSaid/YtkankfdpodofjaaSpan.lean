/-
  How slices of Spans read in memory, and contracts of the functions of the laws that copy, compare, measure and mark them.
-/
import Derived.Test.YtkankfdpodofjaaNum
import Derived.StillTailTactics
namespace Go.Proofs.Ytkankfdpodofjaa
open Go.RowKit
set_option linter.unusedVariables false
set_option maxRecDepth 100000

structure SpanD where
  x0 : Int
  x1 : Int
  x2 : Int
deriving DecidableEq
def SpanD.at (s : SpanD) : Nat → Int
  | 0 => s.x0
  | 1 => s.x1
  | _ => s.x2
def SpanD.ok (s : SpanD) : Prop := I64 s.x0 ∧ I64 s.x1 ∧ I64 s.x2
def SpanD.agg (s : SpanD) : Value := .agg #[.int .i64 s.x0, .int .i64 s.x1, .int .i64 s.x2]
def SpanD.cells (s : SpanD) : List Value := [.int .i64 s.x0, .int .i64 s.x1, .int .i64 s.x2]
def SpanD.zero : SpanD := ⟨0, 0, 0⟩
instance : Inhabited SpanD := ⟨SpanD.zero⟩
def spanCell (ss : List SpanD) (i : Nat) : Value := .int .i64 ((ss.getD (i / 3) .zero).at (i % 3))
theorem info_span : (Try.prog.info? 83).map (fun i => (i.zero, i.size, i.bytes)) = some (some (.agg #[.int .i64 0, .int .i64 0, .int .i64 0]), 3, 24) := by kernel_rfl
structure Spans (w : World) (lo hi : Nat) (v : Value) (ss : List SpanD) : Prop where
  sl : Sl w lo hi 3 ss.length v (spanCell ss)
  rng : ∀ s ∈ ss, s.ok
section
variable {w w' : World} {lo hi : Nat} {v : Value} {ss : List SpanD}
theorem spanCells (ss : List SpanD) (b off : Nat) (w : World) (h : ∀ i, i < ss.length * 3 → w.cell? ⟨b, off + i, none⟩ = some (spanCell ss i)) (i : Nat) (hi : i < ss.length) :
    w.cell? ⟨b, off + i * 3, none⟩ = some (.int .i64 ss[i].x0) ∧ w.cell? ⟨b, off + i * 3 + 1, none⟩ = some (.int .i64 ss[i].x1) ∧ w.cell? ⟨b, off + i * 3 + 2, none⟩ = some (.int .i64 ss[i].x2) := by
  have e0 := h (i * 3) (by omega)
  have e1 := h (i * 3 + 1) (by omega)
  have e2 := h (i * 3 + 2) (by omega)
  simp only [spanCell, show i * 3 / 3 = i by omega, show i * 3 % 3 = 0 by omega, show (i * 3 + 1) / 3 = i by omega, show (i * 3 + 1) % 3 = 1 by omega, show (i * 3 + 2) / 3 = i by omega, show (i * 3 + 2) % 3 = 2 by omega, SpanD.at, ← Nat.add_assoc, List.getD_eq_getElem?_getD, List.getElem?_eq_getElem hi, Option.getD_some] at e0 e1 e2
  exact ⟨e0, e1, e2⟩
theorem Spans.out (h : Spans w lo hi v ss) : ∃ a cap, v = .slice a ss.length cap ∧ ss.length ≤ cap ∧ cap ≤ 9223372036854775807 ∧
    (ss = [] ∨ ∃ b off, a = some ⟨b, off, none⟩ ∧ lo ≤ b ∧ b < hi ∧ hi ≤ w.heap.size ∧ ∀ i (hi : i < ss.length), w.cell? ⟨b, off + i * 3, none⟩ = some (.int .i64 ss[i].x0) ∧ w.cell? ⟨b, off + i * 3 + 1, none⟩ = some (.int .i64 ss[i].x1) ∧ w.cell? ⟨b, off + i * 3 + 2, none⟩ = some (.int .i64 ss[i].x2)) := by
  obtain ⟨a, cap, e, h1, h2, h3⟩ := h.sl.out
  refine ⟨a, cap, e, h1, h2, ?_⟩
  rcases h3 with h3 | ⟨b, off, r1, r2, r3, r4, r5⟩
  · exact .inl (List.eq_nil_of_length_eq_zero h3)
  · exact .inr ⟨b, off, r1, r2, r3, r4, spanCells ss b off w r5⟩
theorem Spans.below {B : Nat} (h : Spans w lo hi v ss) (hb : Below B w w') (hB : hi ≤ B) : Spans w' lo hi v ss := ⟨h.sl.below hb hB, h.rng⟩
theorem Spans.same {l h' : Nat} (h : Spans w lo hi v ss) (hb : Same l h' w w') (hB : hi ≤ l ∨ h' ≤ lo) : Spans w' lo hi v ss := ⟨h.sl.same hb hB, h.rng⟩
theorem Spans.drew (h : Spans w lo hi v ss) (hd : Drew w w') : Spans w' lo hi v ss := ⟨h.sl.drew hd, h.rng⟩
theorem Spans.mono {lo' hi' : Nat} (h : Spans w lo hi v ss) (hl : lo' ≤ lo) (hh : hi ≤ hi') (hw : hi' ≤ w.heap.size) : Spans w lo' hi' v ss := ⟨h.sl.mono hl hh hw, h.rng⟩
theorem Spans.len (h : Spans w lo hi v ss) : ss.length ≤ 9223372036854775807 := h.sl.len
theorem Spans.nil (w : World) (lo hi : Nat) : Spans w lo hi (.slice none 0 0) [] := ⟨Sl.nil _ _ _ _ _, by simp⟩
end

/-- in memory of the call's own -/
structure OwnSpans (w : World) (lo hi : Nat) (v : Value) (ss : List SpanD) : Prop where
  own : Own w lo hi 83 3 v ss.length (ss.flatMap SpanD.cells)
  rng : ∀ s ∈ ss, s.ok
section
variable {w w' : World} {lo hi : Nat} {v : Value} {ss : List SpanD}
theorem span_flat_len (ss : List SpanD) : (ss.flatMap SpanD.cells).length = ss.length * 3 := by
  induction ss with
  | nil => rfl
  | cons s r ih => rw [List.flatMap_cons, List.length_append, ih, List.length_cons]; simp [SpanD.cells]; omega
theorem span_flat (ss : List SpanD) (i : Nat) (hi : i < ss.length * 3) : (ss.flatMap SpanD.cells).getD i undef = spanCell ss i := by
  induction ss generalizing i with
  | nil => simp at hi
  | cons s r ih =>
    rw [List.flatMap_cons]
    by_cases h : i < 3
    · match i, h with
      | 0, _ => rfl
      | 1, _ => rfl
      | 2, _ => rfl
    · have e : i = (i - 3) + 3 := by omega
      rw [List.length_cons] at hi
      rw [List.getD_eq_getElem?_getD, List.getElem?_append_right (by simp [SpanD.cells]; omega), ← List.getD_eq_getElem?_getD]
      have hc : s.cells.length = 3 := rfl
      rw [hc, ih (i - 3) (by omega)]
      unfold spanCell
      rw [show (s :: r).getD (i / 3) .zero = r.getD ((i - 3) / 3) .zero by rw [show i / 3 = (i - 3) / 3 + 1 by omega]; rfl, show (i - 3) % 3 = i % 3 by omega]
theorem OwnSpans.rd (h : OwnSpans w lo hi v ss) : Spans w lo hi v ss := ⟨h.own.sl.congr fun i hi => span_flat ss i hi, h.rng⟩
theorem OwnSpans.below {B : Nat} (h : OwnSpans w lo hi v ss) (hb : Below B w w') (hB : hi ≤ B) : OwnSpans w' lo hi v ss := ⟨h.own.below hb hB, h.rng⟩
theorem OwnSpans.same {l h' : Nat} (h : OwnSpans w lo hi v ss) (hb : Same l h' w w') (hB : hi ≤ l ∨ h' ≤ lo) : OwnSpans w' lo hi v ss := ⟨h.own.same hb hB, h.rng⟩
theorem OwnSpans.drew (h : OwnSpans w lo hi v ss) (hd : Drew w w') : OwnSpans w' lo hi v ss := ⟨h.own.drew hd, h.rng⟩
end

/-- a row of n of them, in block g -/
structure RowSpans (w : World) (lo g n cap : Nat) (L : List SpanD) : Prop where
  row : Row w lo 83 3 g n cap (L.flatMap SpanD.cells)
section
variable {w w' : World} {lo g n cap : Nat} {L : List SpanD}
theorem RowSpans.length (h : RowSpans w lo g n cap L) : L.length = n := by have := h.row.length; rw [span_flat_len] at this; omega
theorem RowSpans.cells (h : RowSpans w lo g n cap L) {k : Nat} (hk : k < n) : (∃ v, w.cell? ⟨g, k * 3, none⟩ = some (.int .i64 v)) ∧ (∃ v, w.cell? ⟨g, k * 3 + 1, none⟩ = some (.int .i64 v)) ∧ (∃ v, w.cell? ⟨g, k * 3 + 2, none⟩ = some (.int .i64 v)) := by
  have hl := h.length
  have e : ∀ j, j < 3 → w.cell? ⟨g, k * 3 + j, none⟩ = some (spanCell L (k * 3 + j)) := fun j hj => by
    rw [h.row.cellAt (by omega), span_flat L _ (by omega)]
  exact ⟨⟨_, e 0 (by omega)⟩, ⟨_, e 1 (by omega)⟩, ⟨_, e 2 (by omega)⟩⟩
theorem RowSpans.frozen (h : RowSpans w lo g n cap L) (k : Nat) : w.frozen? ⟨g, k, none⟩ = false := h.row.frozen k
theorem RowSpans.lt (h : RowSpans w lo g n cap L) : g < w.heap.size := h.row.lt
theorem RowSpans.keep (h : RowSpans w lo g n cap L) (hb : w'.heap[g]? = w.heap[g]?) : RowSpans w' lo g n cap L := ⟨h.row.keep hb⟩
theorem RowSpans.below {B : Nat} (h : RowSpans w lo g n cap L) (hb : Below B w w') (hB : g < B) : RowSpans w' lo g n cap L := ⟨h.row.below hb hB⟩
theorem span_set (L : List SpanD) (k : Nat) (s : SpanD) (hk : k < L.length) : (((L.flatMap SpanD.cells).set (k * 3) (.int .i64 s.x0)).set (k * 3 + 1) (.int .i64 s.x1)).set (k * 3 + 2) (.int .i64 s.x2) = (L.set k s).flatMap SpanD.cells := by
  induction L generalizing k with
  | nil => simp at hk
  | cons a L ih =>
    cases k with
    | zero => simp [SpanD.cells]
    | succ k =>
      have := ih k (by simpa using hk)
      simp only [List.set_cons_succ, List.flatMap_cons]
      rw [← this]
      have hc : a.cells = [.int .i64 a.x0, .int .i64 a.x1, .int .i64 a.x2] := rfl
      rw [hc]
      simp only [Nat.succ_mul, show k * 3 + 3 + 1 = k * 3 + 1 + 3 by omega, show k * 3 + 3 + 2 = k * 3 + 2 + 3 by omega, List.cons_append, List.nil_append, List.set_cons_succ]
theorem RowSpans.stored (h : RowSpans w lo g n cap L) {k : Nat} (hk : k < n) (s : SpanD) :
    RowSpans (((w.setCell ⟨g, k * 3, none⟩ (.int .i64 s.x0)).setCell ⟨g, k * 3 + 1, none⟩ (.int .i64 s.x1)).setCell ⟨g, k * 3 + 2, none⟩ (.int .i64 s.x2)) lo g n cap (L.set k s) := by
  refine ⟨?_⟩
  rw [← span_set L k s (by rw [h.length]; exact hk)]
  exact ((h.row.stored _ _).stored _ _).stored _ _
theorem RowSpans.made (h : w.ownsRow lo 83 3 (.slice (some ⟨g, 0, none⟩) n n) n (madeCells #[Value.int IntKind.i64 0, Value.int IntKind.i64 0, Value.int IntKind.i64 0] (n * 3)).toList) : RowSpans w lo g n n (List.replicate n .zero) := by
  refine ⟨⟨?_⟩⟩
  have e : (List.replicate n SpanD.zero).flatMap SpanD.cells = (madeCells #[Value.int IntKind.i64 0, Value.int IntKind.i64 0, Value.int IntKind.i64 0] (n * 3)).toList := by
    apply List.ext_getElem?
    intro i
    by_cases hi : i < n * 3
    · have h1 := span_flat (List.replicate n SpanD.zero) i (by simpa using hi)
      rw [List.getD_eq_getElem?_getD] at h1
      have hl := span_flat_len (List.replicate n SpanD.zero)
      rw [List.length_replicate] at hl
      rw [List.getElem?_eq_getElem (by omega)] at h1 ⊢
      simp only [Option.getD_some] at h1
      rw [h1]
      have hz : (SpanD.zero).at (i % 3) = 0 := by
        unfold SpanD.at SpanD.zero
        split <;> rfl
      have hg : (List.replicate n SpanD.zero).getD (i / 3) .zero = .zero := by
        rw [List.getD_eq_getElem?_getD, List.getElem?_replicate]; split <;> rfl
      simp only [spanCell, hg, hz]
      simp [madeCells, hi]
      match i % 3, Nat.mod_lt i (show 0 < 3 by omega) with
      | 0, _ => rfl
      | 1, _ => rfl
      | 2, _ => rfl
    · rw [List.getElem?_eq_none (by rw [span_flat_len]; simp; omega), List.getElem?_eq_none (by simp [size_madeCells]; omega)]
  rw [e]; exact h
theorem RowSpans.own {hi : Nat} (h : RowSpans w lo g n cap L) (hr : ∀ s ∈ L, s.ok) (hg : g < hi) (hh : hi ≤ w.heap.size) : OwnSpans w lo hi (.slice (some ⟨g, 0, none⟩) n cap) L :=
  ⟨by rw [h.length]; exact h.row.own hg hh, hr⟩
theorem OwnSpans.rowOf {v : Value} {hi : Nat} {zs : List SpanD} (h : OwnSpans w lo hi v zs) : (v = .slice none 0 0 ∧ zs = []) ∨ ∃ g cap, v = .slice (some ⟨g, 0, none⟩) zs.length cap ∧ g < hi ∧ zs.length ≤ cap ∧ cap ≤ 9223372036854775807 ∧ RowSpans w lo g zs.length cap zs := by
  rcases h.own.rowOf with ⟨h1, h2⟩ | ⟨g, cap, h1, h2, h3, h4, h5⟩
  · exact .inl ⟨h1, List.eq_nil_of_length_eq_zero h2⟩
  · exact .inr ⟨g, cap, h1, h2, h3, h4, ⟨h5⟩⟩
end
set_option maxHeartbeats 800000 in
set_option maxRecDepth 100000 in
theorem markSpanS_any {lo hi : Nat} (v : Value) (xs : List SpanD) (k : Int) (w : World) (hv : OwnSpans w lo hi v xs) (h0 : 0 ≤ k) (h1 : k + 3 * xs.length ≤ 17592186043904) :
    Calls Try.prog 30 #[v, .int .i64 k] w fun e w' => e = .returned (.int .i64 (k + 3 * xs.length)) ∧ True ∧ Same lo hi w w' := by
  have hh := hv.own.hsz
  rcases hv.rowOf with ⟨rfl, rfl⟩ | ⟨g, cap, rfl, hg, hc1, hc2, hrow⟩
  · have hl0 : ¬ ((0 : Int) < (([] : List SpanD).length : Int)) := by simp
    go_enter Try.func30, Try.ntmps30
    go_wp2_with fail
    refine wp_loop_rounds 1 ?_
    rw [rounds_succ]
    go_wp2
    go_ret
    exact ⟨ret_int (by simp), trivial, Same.refl _ _ _⟩
  · have hge := hrow.row.ge
    go_enter Try.func30, Try.ntmps30
    go_wp2_with fail
    go_loopw [1, 5] (fun q i wr => ∃ (j : Nat) (L : List SpanD), j ≤ xs.length ∧ i = .int .i64 j ∧ q = .int .i64 (k + 3 * (j : Int)) ∧ RowSpans wr lo g xs.length cap L ∧ Same lo hi w wr) (fun _ i _ => xs.length - (intOf i).toNat)
    case atStart => exact ⟨0, _, Nat.zero_le _, rfl, by simp, hrow, Same.refl _ _ _⟩
    case round =>
      obtain ⟨j, L, hj, rfl, rfl, hown, hs⟩ := hrel
      clear hrow
      by_cases hlt : j < xs.length
      · obtain ⟨⟨_, d0⟩, ⟨_, d1⟩, ⟨_, d2⟩⟩ := hown.cells hlt
        have f0 := hown.frozen (j * 3)
        have f1 := hown.frozen (j * 3 + 1)
        have f2 := hown.frozen (j * 3 + 2)
        go_wp2_with fail
        go_roundw
        case rel =>
          refine ⟨j + 1, _, by omega, by go_num, by first | go_num | (congr 1; omega), hown.stored hlt ⟨k + 3 * (j : Int), k + 3 * (j : Int) + 1, k + 3 * (j : Int) + 1 + 1⟩, ((hs.setCell hge hg _).setCell hge hg _).setCell hge hg _⟩
        case measure => simp [intOf]; omega
      · go_wp2
        go_ret
        obtain rfl : j = xs.length := by omega
        exact ⟨rfl, trivial, hs⟩
set_option maxHeartbeats 400000 in
set_option maxRecDepth 100000 in
theorem eqSpan_any (s t : SpanD) (w : World) :
    Calls Try.prog 75 #[s.agg, t.agg] w fun e w' => e = .returned (.bool (decide (s = t))) ∧ Below w.heap.size w w' := by
  obtain ⟨s0, s1, s2⟩ := s
  obtain ⟨t0, t1, t2⟩ := t
  unfold SpanD.agg
  go_enter Try.func75, Try.ntmps75
  go_wp2
  all_goals
    go_ret
    exact ⟨ret_bool (by simp_all), ((Below.refl _ _).alloc (Nat.le_refl _) _).alloc (by simp) _⟩
theorem toSpan_any (s : SpanD) (w : World) :
    Calls Try.prog 72 #[s.agg] w fun e w' => e = .returned s.agg ∧ Below w.heap.size w w' := by
  obtain ⟨s0, s1, s2⟩ := s
  unfold SpanD.agg
  go_enter Try.func72, Try.ntmps72
  go_wp2
  refine bodyPost_ret (v := .agg #[.int .i64 s0, .int .i64 s1, .int .i64 s2]) (by simp [results, Try.results72, go_sem]) rfl ⟨rfl, ?_⟩
  exact (((Below.refl _ _).alloc (Nat.le_refl _) _).alloc (by simp) _).alloc (by simp only [World.size_alloc]; omega) _
set_option maxHeartbeats 800000 in
set_option maxRecDepth 100000 in
theorem toSpanS_any {l h : Nat} (v : Value) (xs : List SpanD) (w : World) (hv : Spans w l h v xs) (hl : xs.length ≤ 1048576) (hh : h ≤ w.heap.size) :
    Calls Try.prog 26 #[v] w fun e w' => ∃ u, e = .returned u ∧ OwnSpans w' w.heap.size w'.heap.size u xs ∧ Below w.heap.size w w' := by
  obtain ⟨a, cap, rfl, hc1, hc2, hd⟩ := hv.out
  obtain ⟨i0, hi, hz0, hz1, hz2⟩ := info_parts info_span
  have hml : xs.length ≤ maxLen := by unfold maxLen; omega
  have HR := Lib.hid hv.rng
  go_enter Try.func26, Try.ntmps26
  go_wp2_with (refine wpList_make_full _ rfl _ _ 46 rfl w.heap.size 83 i0 (.agg #[.int .i64 0, .int .i64 0, .int .i64 0]) 3 Try.underlying46 hi hz0 hz1 .i64 .i64 _ _ xs.length rfl rfl rfl rfl ?c1 hml ?c2 ?_)
  case c1 => rw [hz2]; omega
  case c2 => exact Nat.le_refl _
  intro w1 hown hg
  have hrow := RowSpans.made hown
  have hb0 : Below w.heap.size w w1 := (Below.refl _ _).grown hg (Nat.le_refl _) (fun k hk => by cases hk)
  clear hown hg
  go_wp2_with fail
  go_loopw [4] (fun i wr => ∃ (k : Nat) (L : List SpanD), k ≤ xs.length ∧ i = .int .i64 k ∧ Hid (∀ j, j < k → L[j]? = xs[j]?) ∧ RowSpans wr w.heap.size w.heap.size xs.length xs.length L ∧ Below w.heap.size w wr) (fun i _ => xs.length - (intOf i).toNat)
  case atStart => exact ⟨0, _, Nat.zero_le _, rfl, fun j hj => by omega, hrow, hb0⟩
  case round =>
    obtain ⟨k, L, hk, rfl, HL, hown, hb⟩ := hrel
    clear hrow hb0
    by_cases hlt : k < xs.length
    · rcases hd with rfl | ⟨b, off, rfl, hb1, hb2, hb3, hcell⟩
      · simp at hlt
      obtain ⟨c0, c1, c2⟩ := hcell k hlt
      rw [← hb.cell (p := ⟨b, off + k * 3, none⟩) (show b < w.heap.size by omega)] at c0
      rw [← hb.cell (p := ⟨b, off + k * 3 + 1, none⟩) (show b < w.heap.size by omega)] at c1
      rw [← hb.cell (p := ⟨b, off + k * 3 + 2, none⟩) (show b < w.heap.size by omega)] at c2
      clear hcell
      go_wp2_with fail
      refine (toSpan_any xs[k] _).mono ?_
      rintro e w2 ⟨rfl, hb2'⟩
      have hown2 := hown.below hb2' hown.lt
      have hbb := hb.trans (hb2'.mono hb.size)
      obtain ⟨⟨_, d0⟩, ⟨_, d1⟩, ⟨_, d2⟩⟩ := hown2.cells hlt
      have f0 := hown2.frozen (k * 3)
      have f1 := hown2.frozen (k * 3 + 1)
      have f2 := hown2.frozen (k * 3 + 2)
      unfold SpanD.agg
      clear c0 c1 c2
      go_wp2_with fail
      go_roundw
      case rel =>
        refine ⟨k + 1, _, by omega, by go_num, ?_, hown2.stored hlt xs[k], ((hbb.setCell (Nat.le_refl _) _).setCell (Nat.le_refl _) _).setCell (Nat.le_refl _) _⟩
        intro j hj
        have hL := hown.length
        by_cases e : j = k
        · subst e; rw [List.getElem?_set_self (by omega)]; simp
        · rw [List.getElem?_set_ne (by omega)]; exact HL.out j (by omega)
      case measure => simp [intOf]; omega
    · go_wp2
      go_ret
      have hL := hown.length
      have e : L = xs := by
        apply List.ext_getElem?
        intro j
        by_cases hj : j < k
        · exact HL.out j hj
        · rw [List.getElem?_eq_none (by omega), List.getElem?_eq_none (by omega)]
      subst e
      exact ⟨_, rfl, hown.own HR.out hown.lt (Nat.le_refl _), hb⟩
set_option maxHeartbeats 800000 in
set_option maxRecDepth 100000 in
theorem eqSpanS_any {l h l' h' : Nat} (v u : Value) (xs ys : List SpanD) (w : World) (hv : Spans w l h v xs) (hu : Spans w l' h' u ys) (hh : h ≤ w.heap.size) (hh' : h' ≤ w.heap.size) :
    Calls Try.prog 29 #[v, u] w fun e w' => e = .returned (.bool (decide (xs = ys))) ∧ Below w.heap.size w w' := by
  obtain ⟨a, cap, rfl, hc1, hc2, hd⟩ := hv.out
  obtain ⟨a', cap', rfl, gc1, gc2, gd⟩ := hu.out
  by_cases hlen : xs.length = ys.length
  · have hne : ((xs.length : Int) != (ys.length : Int)) = false := by simp [hlen]
    have Hl := Lib.hid hlen
    clear hlen
    go_enter Try.func29, Try.ntmps29
    go_wp2_with fail
    go_loopw [5] (fun i wr => ∃ k : Nat, k ≤ xs.length ∧ i = .int .i64 k ∧ Hid (xs = ys ↔ xs.drop k = ys.drop k) ∧ Below w.heap.size w wr) (fun i _ => xs.length - (intOf i).toNat)
    case atStart => exact ⟨0, Nat.zero_le _, rfl, Lib.hid (by simp), Below.refl _ _⟩
    case round =>
      obtain ⟨k, hk, rfl, H, hb⟩ := hrel
      by_cases hlt : k < xs.length
      · have glt : k < ys.length := by rw [← Hl.out]; exact hlt
        have HD := Lib.hid (drop_cons xs k hlt)
        have GD := Lib.hid (drop_cons ys k glt)
        rcases hd with rfl | ⟨b, off, rfl, hb1, hb2, hb3, hcell⟩
        · simp at hlt
        rcases gd with rfl | ⟨b', off', rfl, gb1, gb2, gb3, gcell⟩
        · simp at glt
        obtain ⟨c0, c1, c2⟩ := hcell k hlt
        obtain ⟨d0, d1, d2⟩ := gcell k glt
        rw [← hb.cell (p := ⟨b, off + k * 3, none⟩) (show b < w.heap.size by omega)] at c0
        rw [← hb.cell (p := ⟨b, off + k * 3 + 1, none⟩) (show b < w.heap.size by omega)] at c1
        rw [← hb.cell (p := ⟨b, off + k * 3 + 2, none⟩) (show b < w.heap.size by omega)] at c2
        rw [← hb.cell (p := ⟨b', off' + k * 3, none⟩) (show b' < w.heap.size by omega)] at d0
        rw [← hb.cell (p := ⟨b', off' + k * 3 + 1, none⟩) (show b' < w.heap.size by omega)] at d1
        rw [← hb.cell (p := ⟨b', off' + k * 3 + 2, none⟩) (show b' < w.heap.size by omega)] at d2
        clear hcell gcell
        go_wp2_with fail
        go_still_tail 8, (by kernel_rfl)
        go_wp2_with fail
        refine (eqSpan_any xs[k] ys[k] _).mono ?_
        rintro e w2 ⟨rfl, hb2'⟩
        have hbb : Below w.heap.size w w2 := hb.trans ((Below.drew (Below.refl _ wr)).trans (hb2'.mono hb.size))
        clear c0 c1 c2 d0 d1 d2
        cases hq : decide (xs[k] = ys[k])
        · go_wp2
          go_ret
          exact ⟨ret_bool (decide_eq_false (by rw [H.out, HD.out, GD.out, List.cons.injEq]; simp at hq; simp [hq])).symm, hbb⟩
        · go_wp2
          go_roundw
          case rel => exact ⟨k + 1, by omega, by go_num, Lib.hid (by rw [H.out, HD.out, GD.out, List.cons.injEq]; simp at hq; simp [hq]), hbb⟩
          case measure => simp [intOf]; omega
      · go_wp2
        go_ret
        exact ⟨ret_bool (decide_eq_true (by rw [H.out, drop_len _ _ (by omega), drop_len _ _ (by rw [← Hl.out]; omega)])).symm, hb⟩
  · have hne : ((xs.length : Int) != (ys.length : Int)) = true := by simp; omega
    have hxy : xs ≠ ys := fun e => hlen (by rw [e])
    go_enter Try.func29, Try.ntmps29
    go_wp2
    go_ret
    exact ⟨ret_bool (by simp [hxy]), Below.refl _ _⟩
theorem szSpanS_any {l h : Nat} (v : Value) (ss : List SpanD) (left : Int) (w : World) (hv : Spans w l h v ss) (h1 : 0 ≤ left) (h2 : left ≤ 1048576) :
    Calls Try.prog 24 #[v, .int .i64 left] w fun e w' => ∃ n : Int, e = .returned (.int .i64 n) ∧ w = w' ∧ n ≤ left ∧ -1 ≤ n ∧ (0 ≤ n → ss.length ≤ 1048576) := by
  obtain ⟨a, cap, rfl, hc1, hc2, hd⟩ := hv.out
  have hl := hv.len
  by_cases hlt : left - ss.length < 0
  all_goals
    go_enter Try.func24, Try.ntmps24
    go_wp2
    go_ret
    exact ⟨_, rfl, rfl, by omega, by omega, by omega⟩
end Go.Proofs.Ytkankfdpodofjaa
