/-
  A row of rows: spec.l02Row and impl.Rows.row.
-/
import Derived.Test.YtocngcpdpeflnaaRowC
namespace Go.Proofs.Ytocngcpdpeflnaa
open Go.RowKit
set_option linter.unusedVariables false
set_option maxRecDepth 100000

theorem row_arith {i V n : Nat} (hi : i < n) : i * V + V ≤ V * n := by
  have : (i + 1) * V ≤ n * V := Nat.mul_le_mul_right _ hi
  rw [Nat.succ_mul] at this; rw [Nat.mul_comm V n]; exact this
set_option maxHeartbeats 800000 in
set_option maxRecDepth 100000 in
theorem l02Row_any {l h q : Nat} (r : RowsD) (V i : Nat) (a b c : Value) (w : World) (hq : QuadC w q 33 (.int .i64 r.vars) a b c) (ha : Flts w l h a r.numbers) (hV : r.vars = (V : Int)) (hV1 : 1 ≤ V) (hV8 : V ≤ 8) (hi : i < r.bounds.length) (hb8 : r.bounds.length ≤ 8) (hn : r.numbers.length = V * r.bounds.length) :
    Calls Try.prog 31 #[.pointer (some ⟨q, 0, none⟩), .int .i64 i] w fun e w' => ∃ u, e = .returned u ∧ Flts w l h u ((r.numbers.drop (i * V)).take V) ∧ Drew w w' := by
  have hr := row_arith (V := V) hi
  rw [← hn] at hr
  have hle : V * r.bounds.length ≤ 8 * 8 := Nat.mul_le_mul hV8 hb8
  obtain ⟨x, hx⟩ : ∃ x, x = i * V := ⟨_, rfl⟩
  have e1 : (i : Int) * (V : Int) = (x : Int) := by rw [hx]; simp
  have e2 : ((i : Int) + 1) * (V : Int) = (x : Int) + (V : Int) := by rw [Int.add_mul, e1]; omega
  rw [← hx] at hr ⊢
  clear hx
  obtain ⟨p, cap, rfl, hc1, hc2, hd⟩ := ha.out
  have hx64 : x + V ≤ 64 := by omega
  rcases hd with hd | ⟨bk, off, rfl, hb1, hb2, hb3, _⟩
  · rw [hd] at hr; simp at hr; omega
  have HP := Lib.hid (ha.part (q := x) (k := V) (c := cap - x) (by omega) hr (by omega) (by omega))
  have k0 := hq.c0
  rw [hV] at k0
  have k1 := hq.c1
  have w1 : IntKind.i64.wrap ((x : Int)) = (x : Int) := IntWalk.i64_in _ (by omega)
  have w2 : IntKind.i64.wrap ((x : Int) + (V : Int)) = (x : Int) + (V : Int) := IntWalk.i64_in _ (by omega)
  clear hn hle ha hq
  go_enter Try.func31, Try.ntmps31
  go_wp2_with fail
  go_quiet (fail)
  go_wp2
  go_ret
  refine ⟨_, rfl, ?_, Drew.one w _⟩
  show Flts w l h (.slice (some ⟨bk, off + x, none⟩) (x + V - x) (cap - x)) _
  rw [Nat.add_sub_cancel_left]
  exact HP.out
set_option maxHeartbeats 800000 in
set_option maxRecDepth 100000 in
theorem row_any {l h : Nat} (r : RowsD) (V i : Nat) (v : Value) (w : World) (hv : RowsR w l h v r) (hh : h ≤ w.heap.size) (hV : r.vars = (V : Int)) (hV1 : 1 ≤ V) (hV8 : V ≤ 8) (hi : i < r.bounds.length) (hb8 : r.bounds.length ≤ 8) (hn : r.numbers.length = V * r.bounds.length) :
    Calls Try.prog 35 #[v, .int .i64 i] w fun e w' => ∃ u, e = .returned u ∧ Flts w' l h u ((r.numbers.drop (i * V)).take V) ∧ Below w.heap.size w w' := by
  obtain ⟨a, b, c, rfl, ha0, _, _⟩ := hv.ex
  have hBW : Below w.heap.size w (w.alloc (.cells #[.int .i64 r.vars, a, b, c] 33)) := alloc_belowR _ _
  have ha := ha0.below hBW hh
  clear ha0 hv
  have hr := row_arith (V := V) hi
  rw [← hn] at hr
  have hle : V * r.bounds.length ≤ 8 * 8 := Nat.mul_le_mul hV8 hb8
  obtain ⟨x, hx⟩ : ∃ x, x = i * V := ⟨_, rfl⟩
  have e1 : (i : Int) * (V : Int) = (x : Int) := by rw [hx]; simp
  have e2 : ((i : Int) + 1) * (V : Int) = (x : Int) + (V : Int) := by rw [Int.add_mul, e1]; omega
  rw [← hx] at hr ⊢
  clear hx
  obtain ⟨p, cap, rfl, hc1, hc2, hd⟩ := ha.out
  have hx64 : x + V ≤ 64 := by omega
  rcases hd with hd | ⟨bk, off, rfl, hb1, hb2, hb3, _⟩
  · rw [hd] at hr; simp at hr; omega
  have HP := Lib.hid (ha.part (q := x) (k := V) (c := cap - x) (by omega) hr (by omega) (by omega))
  rw [hV] at hBW HP ⊢
  have w1 : IntKind.i64.wrap ((x : Int)) = (x : Int) := IntWalk.i64_in _ (by omega)
  have w2 : IntKind.i64.wrap ((x : Int) + (V : Int)) = (x : Int) + (V : Int) := IntWalk.i64_in _ (by omega)
  clear hn hle ha
  go_enter Try.func35, Try.ntmps35
  go_wp2_with fail
  go_wp2
  go_ret
  refine ⟨_, rfl, ?_, hBW⟩
  show Flts _ l h (.slice (some ⟨bk, off + x, none⟩) (x + V - x) (cap - x)) _
  rw [Nat.add_sub_cancel_left]
  exact HP.out
end Go.Proofs.Ytocngcpdpeflnaa
