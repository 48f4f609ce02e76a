/-
  The law FnExactFormsShared returns true for all arguments, and writes nothing that was there.
  There are no conditions.
-/
import Derived.Test.YtdeelgnfnhdklaaShared
import Derived.Test.YtdeelgnfnhdklaaMarkI
import Derived.Test.YtdeelgnfnhdklaaOpen
import Derived.Test.YtdeelgnfnhdklaaOpenFS
namespace Go.Proofs.Ytdeelgnfnhdklaa
open Go.ChangeShapes Go.WideShapes Go.ChangeAt Go.RowKit
set_option linter.unusedVariables false

set_option maxHeartbeats 2000000 in
set_option maxRecDepth 100000 in
theorem FnExactFormsShared_walk (w : World) (v0 : Value) (z0 : List FormD) (k0 : Forms w 0 w.heap.size v0 z0) (a1 : Int) (k1 : I64 a1) :
    Calls Try.prog 10 #[v0, .int .i64 a1] w fun e w' => e = .returned (.bool true) ∧ Below w.heap.size w w' := by
  have hB0 : Below w.heap.size w w := Below.refl _ _
  have hn0 : w.heap.size ≤ w.heap.size := Nat.le_refl _
  go_enter Try.func10, Try.ntmps10
  go_wp2_with fail
  refine (szFormS_any _ _ (1048576) w k0 (by omega) (by omega) (by omega)).mono ?_
  rintro e w1 ⟨n1, rfl, h1, na1, nb1, nc1⟩
  have hn1 : w.heap.size ≤ w1.heap.size := h1.size
  have hB1 : Below w.heap.size w w1 := hB0.trans (h1.mono (by omega))
  have f1_aList := k0.below h1 (by omega)
  by_cases hneg1 : n1 < 0
  · go_wp2
    go_ret
    exact ⟨rfl, hB1⟩
  have hz0 := nc1 (by omega)
  go_wp2_with fail
  refine (toFormS_any _ _ _ f1_aList hz0 (by omega)).mono ?_
  rintro e w2 ⟨u2, rfl, g2, h2⟩
  have hn2 : w1.heap.size ≤ w2.heap.size := h2.size
  have hB2 : Below w.heap.size w w2 := hB1.trans (h2.mono (by omega))
  have f2_aList := f1_aList.below h2 (by omega)
  go_wp2_with fail
  refine (specFormsShared_any w2 _ _ a1 g2.rd (by omega) hz0 k1).mono ?_
  rintro e w3 ⟨u3a, rfl, g3a, h3⟩
  have hn3 : w2.heap.size ≤ w3.heap.size := h3.size
  have hB3 : Below w.heap.size w w3 := hB2.trans (h3.mono (by omega))
  have f3_aList := f2_aList.below h3 (by omega)
  have f3__caList := g2.below h3 (by omega)
  go_wp2_with fail
  refine (toFormS_any _ _ _ f3_aList hz0 (by omega)).mono ?_
  rintro e w4 ⟨u4, rfl, g4, h4⟩
  have hn4 : w3.heap.size ≤ w4.heap.size := h4.size
  have hB4 : Below w.heap.size w w4 := hB3.trans (h4.mono (by omega))
  have f4_aList := f3_aList.below h4 (by omega)
  have f4_w0 := g3a.below h4 (by omega)
  go_wp2_with fail
  refine (implFormsShared_any w4 _ _ a1 g4.rd (by omega) hz0 k1).mono ?_
  rintro e w5 ⟨u5a, rfl, g5a, h5⟩
  have hn5 : w4.heap.size ≤ w5.heap.size := h5.size
  have hB5 : Below w.heap.size w w5 := hB4.trans (h5.mono (by omega))
  have f5_aList := f4_aList.below h5 (by omega)
  have f5_w0 := f4_w0.below h5 (by omega)
  have f5_x0 := g4.below h5 (by omega)
  go_wp2_with fail
  refine (eqInt64S_any _ _ _ _ _ g5a.rd f5_w0.rd ).mono ?_
  rintro e w6 ⟨rfl, h6⟩
  have hn6 : w5.heap.size ≤ w6.heap.size := by rw [h6.heap]; exact Nat.le_refl _
  have hB6 : Below w.heap.size w w6 := hB5.trans (h6.below _)
  have f6_aList := f5_aList.drew h6
  have f6_w0 := f5_w0.drew h6
  have f6_x0 := f5_x0.drew h6
  have f6_g0 := g5a.drew h6
  go_wp2_with fail
  refine (toFormS_any _ _ _ f6_aList hz0 (by omega)).mono ?_
  rintro e w7 ⟨u7, rfl, g7, h7⟩
  have hn7 : w6.heap.size ≤ w7.heap.size := h7.size
  have hB7 : Below w.heap.size w w7 := hB6.trans (h7.mono (by omega))
  have f7_aList := f6_aList.below h7 (by omega)
  have f7_w0 := f6_w0.below h7 (by omega)
  have f7_x0 := f6_x0.below h7 (by omega)
  have f7_g0 := f6_g0.below h7 (by omega)
  go_wp2_with fail
  refine (eqFormS_any _ _ _ _ _ f7_x0.rd g7.rd (by omega) (by omega)).mono ?_
  rintro e w8 ⟨rfl, h8⟩
  have hn8 : w7.heap.size ≤ w8.heap.size := h8.size
  have hB8 : Below w.heap.size w w8 := hB7.trans (h8.mono (by omega))
  have f8_aList := f7_aList.below h8 (by omega)
  have f8_w0 := f7_w0.below h8 (by omega)
  have f8_x0 := f7_x0.below h8 (by omega)
  have f8_g0 := f7_g0.below h8 (by omega)
  go_wp2_with fail
  refine (markFormS_any _ _ _ _ f8_x0 (by omega) (by omega) hz0).mono ?_
  rintro e w9 ⟨nm9, rfl, hnm9, h9⟩
  have hn9 : w8.heap.size ≤ w9.heap.size := h9.size
  have hB9 : Below w.heap.size w w9 := hB8.trans (h9.below (by omega) (by omega))
  have f9_aList := f8_aList.same h9 (.inl (by omega))
  have f9_w0 := f8_w0.same h9 (.inl (by omega))
  have f9_g0 := f8_g0.same h9 (.inr (by omega))
  go_wp2_with fail
  refine (eqInt64S_any _ _ _ _ _ f9_g0.rd f9_w0.rd ).mono ?_
  rintro e w10 ⟨rfl, h10⟩
  have hn10 : w9.heap.size ≤ w10.heap.size := by rw [h10.heap]; exact Nat.le_refl _
  have hB10 : Below w.heap.size w w10 := hB9.trans (h10.below _)
  have f10_aList := f9_aList.drew h10
  have f10_w0 := f9_w0.drew h10
  have f10_g0 := f9_g0.drew h10
  go_wp2_with fail
  have ln11 := f10_g0.len
  refine (markInt64S_any _ _ _ _ f10_g0 (by omega) (by omega)).mono ?_
  rintro e w11 ⟨rfl, g11, h11⟩
  have hn11 : w10.heap.size ≤ w11.heap.size := h11.size
  have hB11 : Below w.heap.size w w11 := hB10.trans (h11.below (by omega) (by omega))
  have f11_aList := f10_aList.same h11 (.inl (by omega))
  have f11_w0 := f10_w0.same h11 (.inl (by omega))
  go_wp2_with fail
  refine (heldInt64S_any _ _ _ _ g11.rd (by omega) (by omega)).mono ?_
  rintro e w12 ⟨rfl, h12⟩
  have hn12 : w11.heap.size ≤ w12.heap.size := by rw [h12.heap]; exact Nat.le_refl _
  have hB12 : Below w.heap.size w w12 := hB11.trans (h12.below _)
  have f12_aList := f11_aList.drew h12
  have f12_w0 := f11_w0.drew h12
  have f12_g0 := g11.drew h12
  go_wp2_with fail
  refine (toFormS_any _ _ _ f12_aList hz0 (by omega)).mono ?_
  rintro e w13 ⟨u13, rfl, g13, h13⟩
  have hn13 : w12.heap.size ≤ w13.heap.size := h13.size
  have hB13 : Below w.heap.size w w13 := hB12.trans (h13.mono (by omega))
  have f13_aList := f12_aList.below h13 (by omega)
  have f13_w0 := f12_w0.below h13 (by omega)
  have f13_g0 := f12_g0.below h13 (by omega)
  go_wp2_with fail
  refine (implFormsShared_any w13 _ _ a1 g13.rd (by omega) hz0 k1).mono ?_
  rintro e w14 ⟨u14a, rfl, g14a, h14⟩
  have hn14 : w13.heap.size ≤ w14.heap.size := h14.size
  have hB14 : Below w.heap.size w w14 := hB13.trans (h14.mono (by omega))
  have f14_w0 := f13_w0.below h14 (by omega)
  have f14_g0 := f13_g0.below h14 (by omega)
  have f14__caList := g13.below h14 (by omega)
  go_wp2_with fail
  refine (eqInt64S_any _ _ _ _ _ g14a.rd f14_w0.rd ).mono ?_
  rintro e w15 ⟨rfl, h15⟩
  have hn15 : w14.heap.size ≤ w15.heap.size := by rw [h15.heap]; exact Nat.le_refl _
  have hB15 : Below w.heap.size w w15 := hB14.trans (h15.below _)
  have f15_w0 := f14_w0.drew h15
  have f15_g0 := f14_g0.drew h15
  have f15_h0 := g14a.drew h15
  go_wp2_with fail
  refine (heldInt64S_any _ _ _ _ f15_g0.rd (by omega) (by omega)).mono ?_
  rintro e w16 ⟨rfl, h16⟩
  have hn16 : w15.heap.size ≤ w16.heap.size := by rw [h16.heap]; exact Nat.le_refl _
  have hB16 : Below w.heap.size w w16 := hB15.trans (h16.below _)
  go_wp2_with fail
  go_ret
  exact ⟨rfl, hB16⟩

set_option maxRecDepth 100000 in
theorem FnExactFormsShared_lifted (os : Os) (started : os.Started) (H : Type) (enc : TypeId × Value → H) :
    ReturnsInHanded {} Try.checked os 10 .any (Rows.fnExactFormsSharedSpec.pre6 enc Try.prog Try.f10 Rows.fnExactFormsSharedRow.domain false) (Rows.fnExactFormsSharedSpec.post enc Try.prog Try.f10 false true false false) := by
  refine returnsInHanded_of_change (C := Try.checked) own_knob started (by kernel_rfl) Try.func10
    (ChangeSpec.witness6 (enc := enc) (C := Try.checked) false ⟨#[], #[.slice none 0 0, .int .i64 0], []⟩ 8 (by kernel_rfl) (by kernel_rfl) (by kernel_rfl) (by kernel_rfl)) ?_
  intro W base args ds gs before hval0 hW hcnd _
  have hval : ∀ (j : Nat) t v, Try.f10.params[j]? = some t → args[j]? = some v → Value.okWide Try.prog W .any base t v := hval0
  have hW' := hW
  obtain ⟨p, q, hA0, hV, rfl, hfz, hnd⟩ := hW
  have hA : DataW.TrodAll enc Try.prog W 0 (fun _ => true) true Try.f10.params.toList args.toList ds p := hA0
  rw [Try.params10] at hA hval
  obtain ⟨v0, vs0, d0, ds0, p0, q0, hargs, rfl, rfl, h0, r0⟩ := trodAll_cons hA
  obtain ⟨v1, vs1, d1, ds1, p1, q1, rfl, rfl, rfl, h1, r1⟩ := trodAll_cons r0
  obtain ⟨rfl, rfl, rfl⟩ := trodAll_nil r1
  obtain rfl : args = #[v0, v1] := by cases args; simp_all
  obtain ⟨rfl, rfl⟩ := trodVars_none hV
  have lt0 : ∀ x ∈ p0, x.block < W.heap.size := by obtain ⟨m, hm⟩ := h0; exact DataW.trod_lt m _ _ _ hm
  obtain ⟨z0, k0⟩ := open_FS (hval 0 54 v0 rfl rfl) h0
  obtain ⟨a1, rfl, rfl, rfl, k1⟩ := open_int Try.underlying2 (hval 1 2 v1 rfl rfl) h1
  clear hA0 hval0
  refine (FnExactFormsShared_walk W v0 z0 k0 a1 (I64_of_wf k1)).mono fun e W' ⟨he, bel⟩ => ?_
  subst he
  exact ⟨_, rfl, _, _, _, [], _, [], hW', trodAll_mk1 (shut_bool Try.underlying4 _), (trodAll_cons_mk (Below.trod laid_out (by kernel_rfl) (of_decide_eq_true (by kernel_rfl)) h0 bel lt0) (trodAll_cons_mk (shut_int Try.underlying2 k1) trodAll_mk0)), rfl, bel.frame _, fun h => by cases h⟩

theorem FnExactFormsShared_over : Rows.fnExactFormsSharedRow.holds Try.pinned (OpenSpec.ofChange Rows.fnExactFormsSharedSpec) :=
  OpenClaim.holds_of_wide 10 Try.f10 rfl rfl rfl rfl rfl rfl rfl ⟨rfl, rfl, rfl, rfl, rfl⟩ rfl rfl rfl rfl rfl (by kernel_rfl) Try.func10 (by kernel_rfl)
    (of_decide_eq_true (by kernel_rfl)) (by unfold Func.isWrapper; first | (rw [if_pos (by decide +kernel)]; kernel_rfl) | (rw [if_neg (by decide +kernel)]; exact ⟨rfl, rfl⟩))
    (fun os started H enc _ => FnExactFormsShared_lifted os started H enc)

/-- The statement. -/
theorem FnExactFormsShared_proved : Rows.FnExactFormsSharedSaid := FnExactFormsShared_over

end Go.Proofs.Ytdeelgnfnhdklaa
