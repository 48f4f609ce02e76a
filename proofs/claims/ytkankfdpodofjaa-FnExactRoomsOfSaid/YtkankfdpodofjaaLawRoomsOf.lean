/-
  The law FnExactRoomsOf returns true for all arguments, and writes nothing that was there.
  There are no conditions.
-/
import Derived.Test.YtkankfdpodofjaaOpen
import Derived.Test.YtkankfdpodofjaaOpenS
import Derived.Test.YtkankfdpodofjaaMarkI
import Derived.Test.YtkankfdpodofjaaRoomS
namespace Go.Proofs.Ytkankfdpodofjaa
open Go.ChangeShapes Go.WideShapes Go.ChangeAt Go.RowKit
set_option linter.unusedVariables false
set_option maxRecDepth 100000

set_option maxHeartbeats 2000000 in
set_option maxRecDepth 100000 in
theorem FnExactRoomsOf_walk (w : World) (v0 : Value) (z0 : List SpanD) (k0 : Spans w 0 w.heap.size v0 z0) :
    Calls Try.prog 5 #[v0] w fun e w' => e = .returned (.bool true) ∧ Below w.heap.size w w' := by
  have hB0 : Below w.heap.size w w := Below.refl _ _
  have hn0 : w.heap.size ≤ w.heap.size := Nat.le_refl _
  go_enter Try.func5, Try.ntmps5
  go_wp2_with fail
  refine (szSpanS_any _ _ _ _ k0 (by omega) (by omega)).mono ?_
  rintro e w' ⟨n1, rfl, rfl, na1, nb1, nc1⟩
  by_cases hneg1 : n1 < 0
  · go_wp2
    go_ret
    exact ⟨rfl, hB0⟩
  have hz0 : z0.length ≤ 1048576 := by have := nc1 (by omega); omega
  go_wp2_with fail
  refine (toSpanS_any _ _ _ k0 hz0 (by omega)).mono ?_
  rintro e w1 ⟨u1, rfl, g1, h1⟩
  have hn1 : w.heap.size ≤ w1.heap.size := h1.size
  have hB1 : Below w.heap.size w w1 := hB0.trans (h1.mono (by omega))
  have f1_aSpans := k0.below h1 (by omega)
  go_wp2_with fail
  refine (specRoomsOf_any w1 _ _ g1.rd (by omega) hz0).mono ?_
  rintro e w2 ⟨u2a, rfl, g2a, h2⟩
  have hn2 : w1.heap.size ≤ w2.heap.size := h2.size
  have hB2 : Below w.heap.size w w2 := hB1.trans (h2.mono (by omega))
  have f2_aSpans := f1_aSpans.below h2 (by omega)
  have f2__caSpans := g1.below h2 (by omega)
  go_wp2_with fail
  refine (toSpanS_any _ _ _ f2_aSpans hz0 (by omega)).mono ?_
  rintro e w3 ⟨u3, rfl, g3, h3⟩
  have hn3 : w2.heap.size ≤ w3.heap.size := h3.size
  have hB3 : Below w.heap.size w w3 := hB2.trans (h3.mono (by omega))
  have f3_aSpans := f2_aSpans.below h3 (by omega)
  have f3_w0 := g2a.below h3 (by omega)
  go_wp2_with fail
  refine (implRoomsOf_any w3 _ _ g3.rd (by omega) hz0).mono ?_
  rintro e w4 ⟨u4a, rfl, g4a, h4⟩
  have hn4 : w3.heap.size ≤ w4.heap.size := h4.size
  have hB4 : Below w.heap.size w w4 := hB3.trans (h4.mono (by omega))
  have f4_aSpans := f3_aSpans.below h4 (by omega)
  have f4_w0 := f3_w0.below h4 (by omega)
  have f4_x0 := g3.below h4 (by omega)
  go_wp2_with fail
  refine (eqInt64S_any _ _ _ _ _ g4a.rd f4_w0.rd ).mono ?_
  rintro e w5 ⟨rfl, h5⟩
  have hn5 : w4.heap.size ≤ w5.heap.size := by rw [h5.heap]; exact Nat.le_refl _
  have hB5 : Below w.heap.size w w5 := hB4.trans (h5.below _)
  have f5_aSpans := f4_aSpans.drew h5
  have f5_w0 := f4_w0.drew h5
  have f5_x0 := f4_x0.drew h5
  have f5_g0 := g4a.drew h5
  go_wp2_with fail
  refine (toSpanS_any _ _ _ f5_aSpans hz0 (by omega)).mono ?_
  rintro e w6 ⟨u6, rfl, g6, h6⟩
  have hn6 : w5.heap.size ≤ w6.heap.size := h6.size
  have hB6 : Below w.heap.size w w6 := hB5.trans (h6.mono (by omega))
  have f6_aSpans := f5_aSpans.below h6 (by omega)
  have f6_w0 := f5_w0.below h6 (by omega)
  have f6_x0 := f5_x0.below h6 (by omega)
  have f6_g0 := f5_g0.below h6 (by omega)
  go_wp2_with fail
  refine (eqSpanS_any _ _ _ _ _ f6_x0.rd g6.rd (by omega) (by omega)).mono ?_
  rintro e w7 ⟨rfl, h7⟩
  have hn7 : w6.heap.size ≤ w7.heap.size := h7.size
  have hB7 : Below w.heap.size w w7 := hB6.trans (h7.mono (by omega))
  have f7_aSpans := f6_aSpans.below h7 (by omega)
  have f7_w0 := f6_w0.below h7 (by omega)
  have f7_x0 := f6_x0.below h7 (by omega)
  have f7_g0 := f6_g0.below h7 (by omega)
  go_wp2_with fail
  refine (markSpanS_any _ _ _ _ f7_x0 (by omega) (by have := hz0; omega)).mono ?_
  rintro e w8 ⟨rfl, g8, h8⟩
  have hn8 : w7.heap.size ≤ w8.heap.size := h8.size
  have hB8 : Below w.heap.size w w8 := hB7.trans (h8.below (by omega) (by omega))
  have f8_aSpans := f7_aSpans.same h8 (.inl (by omega))
  have f8_w0 := f7_w0.same h8 (.inl (by omega))
  have f8_g0 := f7_g0.same h8 (.inr (by omega))
  go_wp2_with fail
  refine (eqInt64S_any _ _ _ _ _ f8_g0.rd f8_w0.rd ).mono ?_
  rintro e w9 ⟨rfl, h9⟩
  have hn9 : w8.heap.size ≤ w9.heap.size := by rw [h9.heap]; exact Nat.le_refl _
  have hB9 : Below w.heap.size w w9 := hB8.trans (h9.below _)
  have f9_aSpans := f8_aSpans.drew h9
  have f9_w0 := f8_w0.drew h9
  have f9_g0 := f8_g0.drew h9
  go_wp2_with fail
  have ln10 := f9_g0.len
  refine (markInt64S_any _ _ _ _ f9_g0 (by omega) (by omega)).mono ?_
  rintro e w10 ⟨rfl, g10, h10⟩
  have hn10 : w9.heap.size ≤ w10.heap.size := h10.size
  have hB10 : Below w.heap.size w w10 := hB9.trans (h10.below (by omega) (by omega))
  have f10_aSpans := f9_aSpans.same h10 (.inl (by omega))
  have f10_w0 := f9_w0.same h10 (.inl (by omega))
  go_wp2_with fail
  refine (heldInt64S_any _ _ _ _ g10.rd (by omega) (by omega)).mono ?_
  rintro e w11 ⟨rfl, h11⟩
  have hn11 : w10.heap.size ≤ w11.heap.size := by rw [h11.heap]; exact Nat.le_refl _
  have hB11 : Below w.heap.size w w11 := hB10.trans (h11.below _)
  have f11_aSpans := f10_aSpans.drew h11
  have f11_w0 := f10_w0.drew h11
  have f11_g0 := g10.drew h11
  go_wp2_with fail
  refine (toSpanS_any _ _ _ f11_aSpans hz0 (by omega)).mono ?_
  rintro e w12 ⟨u12, rfl, g12, h12⟩
  have hn12 : w11.heap.size ≤ w12.heap.size := h12.size
  have hB12 : Below w.heap.size w w12 := hB11.trans (h12.mono (by omega))
  have f12_aSpans := f11_aSpans.below h12 (by omega)
  have f12_w0 := f11_w0.below h12 (by omega)
  have f12_g0 := f11_g0.below h12 (by omega)
  go_wp2_with fail
  refine (implRoomsOf_any w12 _ _ g12.rd (by omega) hz0).mono ?_
  rintro e w13 ⟨u13a, rfl, g13a, h13⟩
  have hn13 : w12.heap.size ≤ w13.heap.size := h13.size
  have hB13 : Below w.heap.size w w13 := hB12.trans (h13.mono (by omega))
  have f13_w0 := f12_w0.below h13 (by omega)
  have f13_g0 := f12_g0.below h13 (by omega)
  have f13__caSpans := g12.below h13 (by omega)
  go_wp2_with fail
  refine (eqInt64S_any _ _ _ _ _ g13a.rd f13_w0.rd ).mono ?_
  rintro e w14 ⟨rfl, h14⟩
  have hn14 : w13.heap.size ≤ w14.heap.size := by rw [h14.heap]; exact Nat.le_refl _
  have hB14 : Below w.heap.size w w14 := hB13.trans (h14.below _)
  have f14_w0 := f13_w0.drew h14
  have f14_g0 := f13_g0.drew h14
  have f14_h0 := g13a.drew h14
  go_wp2_with fail
  refine (heldInt64S_any _ _ _ _ f14_g0.rd (by omega) (by omega)).mono ?_
  rintro e w15 ⟨rfl, h15⟩
  have hn15 : w14.heap.size ≤ w15.heap.size := by rw [h15.heap]; exact Nat.le_refl _
  have hB15 : Below w.heap.size w w15 := hB14.trans (h15.below _)
  go_wp2_with fail
  go_ret
  exact ⟨rfl, hB15⟩

set_option maxRecDepth 100000 in
theorem FnExactRoomsOf_lifted (os : Os) (started : os.Started) (H : Type) (enc : TypeId × Value → H) :
    ReturnsInHanded {} Try.checked os 5 .any (Rows.fnExactRoomsOfSpec.pre6 enc Try.prog Try.f5 Rows.fnExactRoomsOfRow.domain false) (Rows.fnExactRoomsOfSpec.post enc Try.prog Try.f5 false true false false) := by
  refine returnsInHanded_of_change (C := Try.checked) own_knob started (by kernel_rfl) Try.func5
    (ChangeSpec.witness6 (enc := enc) (C := Try.checked) false ⟨#[], #[.slice none 0 0], []⟩ 8 (by kernel_rfl) (by kernel_rfl) (by kernel_rfl) (by kernel_rfl)) ?_
  intro W base args ds gs before hval0 hW hcnd _
  have hval : ∀ (j : Nat) t v, Try.f5.params[j]? = some t → args[j]? = some v → Value.okWide Try.prog W .any base t v := hval0
  have hW' := hW
  obtain ⟨p, q, hA0, hV, rfl, hfz, hnd⟩ := hW
  have hA : DataW.TrodAll enc Try.prog W 0 (fun _ => true) true Try.f5.params.toList args.toList ds p := hA0
  rw [Try.params5] at hA hval
  obtain ⟨v0, vs0, d0, ds0, p0, q0, hargs, rfl, rfl, h0, r0⟩ := trodAll_cons hA
  obtain ⟨rfl, rfl, rfl⟩ := trodAll_nil r0
  obtain rfl : args = #[v0] := by cases args; simp_all
  obtain ⟨rfl, rfl⟩ := trodVars_none hV
  have lt0 : ∀ x ∈ p0, x.block < W.heap.size := by obtain ⟨m, hm⟩ := h0; exact DataW.trod_lt m _ _ _ hm
  obtain ⟨z0, k0⟩ := open_S (hval 0 43 v0 rfl rfl) h0
  clear hA0 hval0
  refine (FnExactRoomsOf_walk W v0 z0 k0).mono fun e W' ⟨he, bel⟩ => ?_
  subst he
  exact ⟨_, rfl, _, _, _, [], _, [], hW', trodAll_mk1 (shut_bool Try.underlying4 _), (trodAll_cons_mk (Below.trod laid_out (by kernel_rfl) (of_decide_eq_true (by kernel_rfl)) h0 bel lt0) trodAll_mk0), rfl, bel.frame _, fun h => by cases h⟩

theorem FnExactRoomsOf_over : Rows.fnExactRoomsOfRow.holds Try.pinned (OpenSpec.ofChange Rows.fnExactRoomsOfSpec) :=
  OpenClaim.holds_of_wide 5 Try.f5 rfl rfl rfl rfl rfl rfl rfl ⟨rfl, rfl, rfl, rfl, rfl⟩ rfl rfl rfl rfl rfl (by kernel_rfl) Try.func5 (by kernel_rfl)
    (of_decide_eq_true (by kernel_rfl)) (by unfold Func.isWrapper; first | (rw [if_pos (by decide +kernel)]; kernel_rfl) | (rw [if_neg (by decide +kernel)]; exact ⟨rfl, rfl⟩))
    (fun os started H enc _ => FnExactRoomsOf_lifted os started H enc)

/-- The statement. -/
theorem FnExactRoomsOf_proved : Rows.FnExactRoomsOfSaid := FnExactRoomsOf_over

end Go.Proofs.Ytkankfdpodofjaa
