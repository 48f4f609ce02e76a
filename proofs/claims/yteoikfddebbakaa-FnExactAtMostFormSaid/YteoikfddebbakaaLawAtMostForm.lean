/-
  The law FnExactAtMostForm returns true for all arguments, and writes nothing that was there.
  There are no conditions.
-/
import Derived.Test.YteoikfddebbakaaAtMostI
import Derived.Test.YteoikfddebbakaaOpen
import Derived.Test.YteoikfddebbakaaOpenF
namespace Go.Proofs.Yteoikfddebbakaa
open Go.ChangeShapes Go.WideShapes Go.ChangeAt Go.RowKit
set_option linter.unusedVariables false
set_option maxRecDepth 100000

set_option maxHeartbeats 2000000 in
set_option maxRecDepth 100000 in
theorem FnExactAtMostForm_walk (w : World) (a0 : Int) (k0 : I64 a0) (a1 : Int) (k1 : I64 a1) :
    Calls Try.prog 3 #[.int .i64 a0, .int .i64 a1] w fun e w' => e = .returned (.bool true) ∧ Below w.heap.size w w' := by
  have hB0 : Below w.heap.size w w := Below.refl _ _
  have hn0 : w.heap.size ≤ w.heap.size := Nat.le_refl _
  go_enter Try.func3, Try.ntmps3
  go_wp2_with fail
  refine (specAtMostForm_any w a0 a1 k0 k1).mono ?_
  rintro e w1 ⟨u1a, rfl, g1a, h1⟩
  obtain ⟨fm0, g1a, E0⟩ := g1a.name
  obtain ⟨rg1a, cg1a, rfl⟩ := g1a.shape
  have hn1 : w.heap.size ≤ w1.heap.size := h1.size
  have hB1 : Below w.heap.size w w1 := hB0.trans (h1.mono (by omega))
  go_wp2_with fail
  obtain ⟨w2, hw2⟩ : ∃ W, W = w1.alloc (.cells #[.int .i64 fm0.letters, .slice rg1a fm0.clauses.length cg1a] 24) := ⟨_, rfl⟩
  rw [← hw2]
  have h2 : Below w1.heap.size w1 w2 := by rw [hw2]; exact alloc_below _ _
  have hs2 : w2.heap.size = w1.heap.size + 1 := by rw [hw2]; simp
  have bx2 : BoxF w2 w1.heap.size (fm0.letters) (.slice rg1a fm0.clauses.length cg1a) := by rw [hw2]; exact BoxF.new _ _ _ _
  clear hw2
  have hn2 : w1.heap.size ≤ w2.heap.size := h2.size
  have hB2 : Below w.heap.size w w2 := hB1.trans (h2.mono (by omega))
  have f2_w0 := g1a.below h2 (by omega)
  refine (implAtMostForm_any w2 a0 a1 k0 k1).mono ?_
  rintro e w3 ⟨u3a, rfl, g3a, h3⟩
  rw [← E0.out] at g3a
  obtain ⟨rg3a, cg3a, rfl⟩ := g3a.shape
  have hn3 : w2.heap.size ≤ w3.heap.size := h3.size
  have hB3 : Below w.heap.size w w3 := hB2.trans (h3.mono (by omega))
  have f3_w0 := f2_w0.below h3 (by omega)
  have f3_box_w0 := bx2.below h3 bx2.lt
  have p0 : (w3.alloc (.cells #[.int .i64 fm0.letters, .slice rg3a fm0.clauses.length cg3a] 24)).cell? ⟨w1.heap.size, 0, none⟩ = some (.int .i64 fm0.letters) := by rw [World.cell?_alloc_past _ _ _ f3_box_w0.lt]; exact f3_box_w0.c0
  have p1 : (w3.alloc (.cells #[.int .i64 fm0.letters, .slice rg3a fm0.clauses.length cg3a] 24)).cell? ⟨w1.heap.size, 1, none⟩ = some (.slice rg1a fm0.clauses.length cg1a) := by rw [World.cell?_alloc_past _ _ _ f3_box_w0.lt]; exact f3_box_w0.c1
  have q0 := f3_box_w0.c0
  have q1 := f3_box_w0.c1
  go_wp2_with fail
  clear q0 q1
  clear p0 p1
  obtain ⟨w4, hw4⟩ : ∃ W, W = w3.alloc (.cells #[.int .i64 fm0.letters, .slice rg3a fm0.clauses.length cg3a] 24) := ⟨_, rfl⟩
  rw [← hw4]
  have h4 : Below w3.heap.size w3 w4 := by rw [hw4]; exact alloc_below _ _
  have hs4 : w4.heap.size = w3.heap.size + 1 := by rw [hw4]; simp
  have bx4 : BoxF w4 w3.heap.size (fm0.letters) (.slice rg3a fm0.clauses.length cg3a) := by rw [hw4]; exact BoxF.new _ _ _ _
  clear hw4
  have hn4 : w3.heap.size ≤ w4.heap.size := h4.size
  have hB4 : Below w.heap.size w w4 := hB3.trans (h4.mono (by omega))
  have f4_w0 := f3_w0.below h4 (by omega)
  have f4_box_w0 := f3_box_w0.below h4 f3_box_w0.lt
  have f4_g0 := g3a.below h4 (by omega)
  refine (eqForm_any _ _ _ _ _ f4_g0.rd f4_w0.rd (by omega) (by omega)).mono ?_
  rintro e w5 ⟨rfl, h5⟩
  have hn5 : w4.heap.size ≤ w5.heap.size := h5.size
  have hB5 : Below w.heap.size w w5 := hB4.trans (h5.mono (by omega))
  have f5_w0 := f4_w0.below h5 (by omega)
  have f5_box_w0 := f4_box_w0.below h5 f4_box_w0.lt
  have f5_g0 := f4_g0.below h5 (by omega)
  have f5_box_g0 := bx4.below h5 bx4.lt
  have q0 := f5_box_w0.c0
  have q1 := f5_box_w0.c1
  have q2 := f5_box_g0.c0
  have q3 := f5_box_g0.c1
  go_wp2_with fail
  clear q0 q1 q2 q3
  have ln6 := f5_g0.len
  refine (markForm_any _ _ _ _ f5_g0 (by omega) (by omega) (by have := f5_g0.len; omega)).mono ?_
  rintro e w6 ⟨rfl, g6, h6⟩
  have hn6 : w5.heap.size ≤ w6.heap.size := h6.size
  have hB6 : Below w.heap.size w w6 := hB5.trans (h6.below (by omega) (by omega))
  have f6_w0 := f5_w0.same h6 (.inl (by omega))
  have f6_box_w0 := f5_box_w0.same h6 (by omega)
  have f6_box_g0 := f5_box_g0.same h6 (by omega)
  have q0 := f6_box_w0.c0
  have q1 := f6_box_w0.c1
  have q2 := f6_box_g0.c0
  have q3 := f6_box_g0.c1
  go_wp2_with fail
  clear q0 q1 q2 q3
  refine (heldForm_any _ _ _ _ g6.rd (by omega) (by omega) (by omega)).mono ?_
  rintro e w7 ⟨rfl, h7⟩
  have hn7 : w6.heap.size ≤ w7.heap.size := h7.size
  have hB7 : Below w.heap.size w w7 := hB6.trans (h7.mono (by omega))
  have f7_w0 := f6_w0.below h7 (by omega)
  have f7_box_w0 := f6_box_w0.below h7 f6_box_w0.lt
  have f7_g0 := g6.below h7 (by omega)
  have f7_box_g0 := f6_box_g0.below h7 f6_box_g0.lt
  have q0 := f7_box_w0.c0
  have q1 := f7_box_w0.c1
  have q2 := f7_box_g0.c0
  have q3 := f7_box_g0.c1
  go_wp2_with fail
  clear q0 q1 q2 q3
  refine (implAtMostForm_any w7 a0 a1 k0 k1).mono ?_
  rintro e w8 ⟨u8a, rfl, g8a, h8⟩
  rw [← E0.out] at g8a
  obtain ⟨rg8a, cg8a, rfl⟩ := g8a.shape
  have hn8 : w7.heap.size ≤ w8.heap.size := h8.size
  have hB8 : Below w.heap.size w w8 := hB7.trans (h8.mono (by omega))
  have f8_w0 := f7_w0.below h8 (by omega)
  have f8_box_w0 := f7_box_w0.below h8 f7_box_w0.lt
  have f8_g0 := f7_g0.below h8 (by omega)
  have f8_box_g0 := f7_box_g0.below h8 f7_box_g0.lt
  have p0 : (w8.alloc (.cells #[.int .i64 fm0.letters, .slice rg8a fm0.clauses.length cg8a] 24)).cell? ⟨w1.heap.size, 0, none⟩ = some (.int .i64 fm0.letters) := by rw [World.cell?_alloc_past _ _ _ f8_box_w0.lt]; exact f8_box_w0.c0
  have p1 : (w8.alloc (.cells #[.int .i64 fm0.letters, .slice rg8a fm0.clauses.length cg8a] 24)).cell? ⟨w1.heap.size, 1, none⟩ = some (.slice rg1a fm0.clauses.length cg1a) := by rw [World.cell?_alloc_past _ _ _ f8_box_w0.lt]; exact f8_box_w0.c1
  have p2 : (w8.alloc (.cells #[.int .i64 fm0.letters, .slice rg8a fm0.clauses.length cg8a] 24)).cell? ⟨w3.heap.size, 0, none⟩ = some (.int .i64 fm0.letters) := by rw [World.cell?_alloc_past _ _ _ f8_box_g0.lt]; exact f8_box_g0.c0
  have p3 : (w8.alloc (.cells #[.int .i64 fm0.letters, .slice rg8a fm0.clauses.length cg8a] 24)).cell? ⟨w3.heap.size, 1, none⟩ = some (.slice rg3a fm0.clauses.length cg3a) := by rw [World.cell?_alloc_past _ _ _ f8_box_g0.lt]; exact f8_box_g0.c1
  have q0 := f8_box_w0.c0
  have q1 := f8_box_w0.c1
  have q2 := f8_box_g0.c0
  have q3 := f8_box_g0.c1
  go_wp2_with fail
  clear q0 q1 q2 q3
  clear p0 p1 p2 p3
  obtain ⟨w9, hw9⟩ : ∃ W, W = w8.alloc (.cells #[.int .i64 fm0.letters, .slice rg8a fm0.clauses.length cg8a] 24) := ⟨_, rfl⟩
  rw [← hw9]
  have h9 : Below w8.heap.size w8 w9 := by rw [hw9]; exact alloc_below _ _
  have hs9 : w9.heap.size = w8.heap.size + 1 := by rw [hw9]; simp
  have bx9 : BoxF w9 w8.heap.size (fm0.letters) (.slice rg8a fm0.clauses.length cg8a) := by rw [hw9]; exact BoxF.new _ _ _ _
  clear hw9
  have hn9 : w8.heap.size ≤ w9.heap.size := h9.size
  have hB9 : Below w.heap.size w w9 := hB8.trans (h9.mono (by omega))
  have f9_w0 := f8_w0.below h9 (by omega)
  have f9_box_w0 := f8_box_w0.below h9 f8_box_w0.lt
  have f9_g0 := f8_g0.below h9 (by omega)
  have f9_box_g0 := f8_box_g0.below h9 f8_box_g0.lt
  have f9_h0 := g8a.below h9 (by omega)
  refine (eqForm_any _ _ _ _ _ f9_h0.rd f9_w0.rd (by omega) (by omega)).mono ?_
  rintro e w10 ⟨rfl, h10⟩
  have hn10 : w9.heap.size ≤ w10.heap.size := h10.size
  have hB10 : Below w.heap.size w w10 := hB9.trans (h10.mono (by omega))
  have f10_w0 := f9_w0.below h10 (by omega)
  have f10_box_w0 := f9_box_w0.below h10 f9_box_w0.lt
  have f10_g0 := f9_g0.below h10 (by omega)
  have f10_box_g0 := f9_box_g0.below h10 f9_box_g0.lt
  have f10_h0 := f9_h0.below h10 (by omega)
  have f10_box_h0 := bx9.below h10 bx9.lt
  have q0 := f10_box_w0.c0
  have q1 := f10_box_w0.c1
  have q2 := f10_box_g0.c0
  have q3 := f10_box_g0.c1
  have q4 := f10_box_h0.c0
  have q5 := f10_box_h0.c1
  go_wp2_with fail
  clear q0 q1 q2 q3 q4 q5
  refine (heldForm_any _ _ _ _ f10_g0.rd (by omega) (by omega) (by omega)).mono ?_
  rintro e w11 ⟨rfl, h11⟩
  have hn11 : w10.heap.size ≤ w11.heap.size := h11.size
  have hB11 : Below w.heap.size w w11 := hB10.trans (h11.mono (by omega))
  go_wp2_with fail
  go_ret
  exact ⟨rfl, hB11⟩

set_option maxRecDepth 100000 in
theorem FnExactAtMostForm_lifted (os : Os) (started : os.Started) (H : Type) (enc : TypeId × Value → H) :
    ReturnsInHanded {} Try.checked os 3 .any (Rows.fnExactAtMostFormSpec.pre6 enc Try.prog Try.f3 Rows.fnExactAtMostFormRow.domain false) (Rows.fnExactAtMostFormSpec.post enc Try.prog Try.f3 false true false false) := by
  refine returnsInHanded_of_change (C := Try.checked) own_knob started (by kernel_rfl) Try.func3
    (ChangeSpec.witness6 (enc := enc) (C := Try.checked) false ⟨#[], #[.int .i64 0, .int .i64 0], []⟩ 8 (by kernel_rfl) (by kernel_rfl) (by kernel_rfl) (by kernel_rfl)) ?_
  intro W base args ds gs before hval0 hW hcnd _
  have hval : ∀ (j : Nat) t v, Try.f3.params[j]? = some t → args[j]? = some v → Value.okWide Try.prog W .any base t v := hval0
  have hW' := hW
  obtain ⟨p, q, hA0, hV, rfl, hfz, hnd⟩ := hW
  have hA : DataW.TrodAll enc Try.prog W 0 (fun _ => true) true Try.f3.params.toList args.toList ds p := hA0
  rw [Try.params3] at hA hval
  obtain ⟨v0, vs0, d0, ds0, p0, q0, hargs, rfl, rfl, h0, r0⟩ := trodAll_cons hA
  obtain ⟨v1, vs1, d1, ds1, p1, q1, rfl, rfl, rfl, h1, r1⟩ := trodAll_cons r0
  obtain ⟨rfl, rfl, rfl⟩ := trodAll_nil r1
  obtain rfl : args = #[v0, v1] := by cases args; simp_all
  obtain ⟨rfl, rfl⟩ := trodVars_none hV
  obtain ⟨a0, rfl, rfl, rfl, k0⟩ := open_int Try.underlying2 (hval 0 2 v0 rfl rfl) h0
  obtain ⟨a1, rfl, rfl, rfl, k1⟩ := open_int Try.underlying2 (hval 1 2 v1 rfl rfl) h1
  clear hA0 hval0
  refine (FnExactAtMostForm_walk W a0 (I64_of_wf k0) a1 (I64_of_wf k1)).mono fun e W' ⟨he, bel⟩ => ?_
  subst he
  exact ⟨_, rfl, _, _, _, [], _, [], hW', trodAll_mk1 (shut_bool Try.underlying4 _), (trodAll_cons_mk (shut_int Try.underlying2 k0) (trodAll_cons_mk (shut_int Try.underlying2 k1) trodAll_mk0)), rfl, bel.frame _, fun h => by cases h⟩

theorem FnExactAtMostForm_over : Rows.fnExactAtMostFormRow.holds Try.pinned (OpenSpec.ofChange Rows.fnExactAtMostFormSpec) :=
  OpenClaim.holds_of_wide 3 Try.f3 rfl rfl rfl rfl rfl rfl rfl ⟨rfl, rfl, rfl, rfl, rfl⟩ rfl rfl rfl rfl rfl (by kernel_rfl) Try.func3 (by kernel_rfl)
    (of_decide_eq_true (by kernel_rfl)) (by unfold Func.isWrapper; first | (rw [if_pos (by decide +kernel)]; kernel_rfl) | (rw [if_neg (by decide +kernel)]; exact ⟨rfl, rfl⟩))
    (fun os started H enc _ => FnExactAtMostForm_lifted os started H enc)

/-- The statement. -/
theorem FnExactAtMostForm_proved : Rows.FnExactAtMostFormSaid := FnExactAtMostForm_over

end Go.Proofs.Yteoikfddebbakaa
