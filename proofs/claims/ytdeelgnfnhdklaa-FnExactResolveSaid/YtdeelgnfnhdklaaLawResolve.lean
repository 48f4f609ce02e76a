/-
  The law FnExactResolve returns true for all arguments, and writes nothing that was there.
  There are no conditions.
-/
import Derived.Test.YtdeelgnfnhdklaaResolveI
import Derived.Test.YtdeelgnfnhdklaaMarkI
import Derived.Test.YtdeelgnfnhdklaaOpen
namespace Go.Proofs.Ytdeelgnfnhdklaa
open Go.ChangeShapes Go.WideShapes Go.ChangeAt Go.RowKit
set_option linter.unusedVariables false

set_option maxHeartbeats 2000000 in
set_option maxRecDepth 100000 in
theorem FnExactResolve_walk (w : World) (a0 : Int) (k0 : I64 a0) (v1 : Value) (z1 : List Int) (k1 : Ints w 0 w.heap.size v1 z1) (v2 : Value) (z2 : List Int) (k2 : Ints w 0 w.heap.size v2 z2) (a3 : Int) (k3 : I64 a3) :
    Calls Try.prog 11 #[.int .i64 a0, v1, v2, .int .i64 a3] w fun e w' => e = .returned (.bool true) ∧ Below w.heap.size w w' := by
  obtain ⟨b1, c1, rfl, q1, r1, s1⟩ := k1.out
  clear q1 r1 s1
  obtain ⟨b2, c2, rfl, q2, r2, s2⟩ := k2.out
  clear q2 r2 s2
  by_cases hz1 : z1.length ≤ 1048576
  case neg =>
    go_enter Try.func11, Try.ntmps11
    go_wp2
    go_ret
    exact ⟨rfl, Below.refl _ _⟩
  by_cases hz2 : z2.length ≤ 1048576
  case neg =>
    go_enter Try.func11, Try.ntmps11
    go_wp2
    go_ret
    exact ⟨rfl, Below.refl _ _⟩
  have hB0 : Below w.heap.size w w := Below.refl _ _
  have hn0 : w.heap.size ≤ w.heap.size := Nat.le_refl _
  go_enter Try.func11, Try.ntmps11
  go_wp2_with fail
  refine (toInt64S_any _ _ _ k1 (by omega)).mono ?_
  rintro e w1 ⟨u1, rfl, g1, h1⟩
  have hn1 : w.heap.size ≤ w1.heap.size := h1.size
  have hB1 : Below w.heap.size w w1 := hB0.trans (h1.mono (by omega))
  have f1_aA := k1.below h1 (by omega)
  have f1_aB := k2.below h1 (by omega)
  go_wp2_with fail
  refine (toInt64S_any _ _ _ f1_aB (by omega)).mono ?_
  rintro e w2 ⟨u2, rfl, g2, h2⟩
  have hn2 : w1.heap.size ≤ w2.heap.size := h2.size
  have hB2 : Below w.heap.size w w2 := hB1.trans (h2.mono (by omega))
  have f2_aA := f1_aA.below h2 (by omega)
  have f2_aB := f1_aB.below h2 (by omega)
  have f2__caA := g1.below h2 (by omega)
  go_wp2_with fail
  refine (specResolve_any w2 a0 _ _ _ _ a3 k0 f2__caA.rd (by omega) hz1 g2.rd (by omega) hz2 k3).mono ?_
  rintro e w3 ⟨u3a, rfl, g3a, h3⟩
  have hn3 : w2.heap.size ≤ w3.heap.size := h3.size
  have hB3 : Below w.heap.size w w3 := hB2.trans (h3.mono (by omega))
  have f3_aA := f2_aA.below h3 (by omega)
  have f3_aB := f2_aB.below h3 (by omega)
  have f3__caA := f2__caA.below h3 (by omega)
  have f3__caB := g2.below h3 (by omega)
  go_wp2_with fail
  refine (toInt64S_any _ _ _ f3_aA (by omega)).mono ?_
  rintro e w4 ⟨u4, rfl, g4, h4⟩
  have hn4 : w3.heap.size ≤ w4.heap.size := h4.size
  have hB4 : Below w.heap.size w w4 := hB3.trans (h4.mono (by omega))
  have f4_aA := f3_aA.below h4 (by omega)
  have f4_aB := f3_aB.below h4 (by omega)
  have f4_w0 := g3a.below h4 (by omega)
  go_wp2_with fail
  refine (toInt64S_any _ _ _ f4_aB (by omega)).mono ?_
  rintro e w5 ⟨u5, rfl, g5, h5⟩
  have hn5 : w4.heap.size ≤ w5.heap.size := h5.size
  have hB5 : Below w.heap.size w w5 := hB4.trans (h5.mono (by omega))
  have f5_aA := f4_aA.below h5 (by omega)
  have f5_aB := f4_aB.below h5 (by omega)
  have f5_w0 := f4_w0.below h5 (by omega)
  have f5_x1 := g4.below h5 (by omega)
  go_wp2_with fail
  refine (implResolve_any w5 a0 _ _ _ _ a3 k0 f5_x1.rd (by omega) hz1 g5.rd (by omega) hz2 k3).mono ?_
  rintro e w6 ⟨u6a, rfl, g6a, h6⟩
  have hn6 : w5.heap.size ≤ w6.heap.size := h6.size
  have hB6 : Below w.heap.size w w6 := hB5.trans (h6.mono (by omega))
  have f6_aA := f5_aA.below h6 (by omega)
  have f6_aB := f5_aB.below h6 (by omega)
  have f6_w0 := f5_w0.below h6 (by omega)
  have f6_x1 := f5_x1.below h6 (by omega)
  have f6_x2 := g5.below h6 (by omega)
  go_wp2_with fail
  refine (eqInt64S_any _ _ _ _ _ g6a.rd f6_w0.rd ).mono ?_
  rintro e w7 ⟨rfl, h7⟩
  have hn7 : w6.heap.size ≤ w7.heap.size := by rw [h7.heap]; exact Nat.le_refl _
  have hB7 : Below w.heap.size w w7 := hB6.trans (h7.below _)
  have f7_aA := f6_aA.drew h7
  have f7_aB := f6_aB.drew h7
  have f7_w0 := f6_w0.drew h7
  have f7_x1 := f6_x1.drew h7
  have f7_x2 := f6_x2.drew h7
  have f7_g0 := g6a.drew h7
  go_wp2_with fail
  refine (toInt64S_any _ _ _ f7_aA (by omega)).mono ?_
  rintro e w8 ⟨u8, rfl, g8, h8⟩
  have hn8 : w7.heap.size ≤ w8.heap.size := h8.size
  have hB8 : Below w.heap.size w w8 := hB7.trans (h8.mono (by omega))
  have f8_aA := f7_aA.below h8 (by omega)
  have f8_aB := f7_aB.below h8 (by omega)
  have f8_w0 := f7_w0.below h8 (by omega)
  have f8_x1 := f7_x1.below h8 (by omega)
  have f8_x2 := f7_x2.below h8 (by omega)
  have f8_g0 := f7_g0.below h8 (by omega)
  go_wp2_with fail
  refine (eqInt64S_any _ _ _ _ _ f8_x1.rd g8.rd ).mono ?_
  rintro e w9 ⟨rfl, h9⟩
  have hn9 : w8.heap.size ≤ w9.heap.size := by rw [h9.heap]; exact Nat.le_refl _
  have hB9 : Below w.heap.size w w9 := hB8.trans (h9.below _)
  have f9_aA := f8_aA.drew h9
  have f9_aB := f8_aB.drew h9
  have f9_w0 := f8_w0.drew h9
  have f9_x1 := f8_x1.drew h9
  have f9_x2 := f8_x2.drew h9
  have f9_g0 := f8_g0.drew h9
  go_wp2_with fail
  refine (toInt64S_any _ _ _ f9_aB (by omega)).mono ?_
  rintro e w10 ⟨u10, rfl, g10, h10⟩
  have hn10 : w9.heap.size ≤ w10.heap.size := h10.size
  have hB10 : Below w.heap.size w w10 := hB9.trans (h10.mono (by omega))
  have f10_aA := f9_aA.below h10 (by omega)
  have f10_aB := f9_aB.below h10 (by omega)
  have f10_w0 := f9_w0.below h10 (by omega)
  have f10_x1 := f9_x1.below h10 (by omega)
  have f10_x2 := f9_x2.below h10 (by omega)
  have f10_g0 := f9_g0.below h10 (by omega)
  go_wp2_with fail
  refine (eqInt64S_any _ _ _ _ _ f10_x2.rd g10.rd ).mono ?_
  rintro e w11 ⟨rfl, h11⟩
  have hn11 : w10.heap.size ≤ w11.heap.size := by rw [h11.heap]; exact Nat.le_refl _
  have hB11 : Below w.heap.size w w11 := hB10.trans (h11.below _)
  have f11_aA := f10_aA.drew h11
  have f11_aB := f10_aB.drew h11
  have f11_w0 := f10_w0.drew h11
  have f11_x1 := f10_x1.drew h11
  have f11_x2 := f10_x2.drew h11
  have f11_g0 := f10_g0.drew h11
  go_wp2_with fail
  have ln12 := f11_x1.len
  refine (markInt64S_any _ _ _ _ f11_x1 (by omega) (by omega)).mono ?_
  rintro e w12 ⟨rfl, g12, h12⟩
  have hn12 : w11.heap.size ≤ w12.heap.size := h12.size
  have hB12 : Below w.heap.size w w12 := hB11.trans (h12.below (by omega) (by omega))
  have f12_aA := f11_aA.same h12 (.inl (by omega))
  have f12_aB := f11_aB.same h12 (.inl (by omega))
  have f12_w0 := f11_w0.same h12 (.inl (by omega))
  have f12_x2 := f11_x2.same h12 (.inr (by omega))
  have f12_g0 := f11_g0.same h12 (.inr (by omega))
  go_wp2_with fail
  have ln13 := f12_x2.len
  refine (markInt64S_any _ _ _ _ f12_x2 (by omega) (by omega)).mono ?_
  rintro e w13 ⟨rfl, g13, h13⟩
  have hn13 : w12.heap.size ≤ w13.heap.size := h13.size
  have hB13 : Below w.heap.size w w13 := hB12.trans (h13.below (by omega) (by omega))
  have f13_aA := f12_aA.same h13 (.inl (by omega))
  have f13_aB := f12_aB.same h13 (.inl (by omega))
  have f13_w0 := f12_w0.same h13 (.inl (by omega))
  have f13_g0 := f12_g0.same h13 (.inr (by omega))
  go_wp2_with fail
  refine (eqInt64S_any _ _ _ _ _ f13_g0.rd f13_w0.rd ).mono ?_
  rintro e w14 ⟨rfl, h14⟩
  have hn14 : w13.heap.size ≤ w14.heap.size := by rw [h14.heap]; exact Nat.le_refl _
  have hB14 : Below w.heap.size w w14 := hB13.trans (h14.below _)
  have f14_aA := f13_aA.drew h14
  have f14_aB := f13_aB.drew h14
  have f14_w0 := f13_w0.drew h14
  have f14_g0 := f13_g0.drew h14
  go_wp2_with fail
  have ln15 := f14_g0.len
  refine (markInt64S_any _ _ _ _ f14_g0 (by omega) (by omega)).mono ?_
  rintro e w15 ⟨rfl, g15, h15⟩
  have hn15 : w14.heap.size ≤ w15.heap.size := h15.size
  have hB15 : Below w.heap.size w w15 := hB14.trans (h15.below (by omega) (by omega))
  have f15_aA := f14_aA.same h15 (.inl (by omega))
  have f15_aB := f14_aB.same h15 (.inl (by omega))
  have f15_w0 := f14_w0.same h15 (.inl (by omega))
  go_wp2_with fail
  refine (heldInt64S_any _ _ _ _ g15.rd (by omega) (by omega)).mono ?_
  rintro e w16 ⟨rfl, h16⟩
  have hn16 : w15.heap.size ≤ w16.heap.size := by rw [h16.heap]; exact Nat.le_refl _
  have hB16 : Below w.heap.size w w16 := hB15.trans (h16.below _)
  have f16_aA := f15_aA.drew h16
  have f16_aB := f15_aB.drew h16
  have f16_w0 := f15_w0.drew h16
  have f16_g0 := g15.drew h16
  go_wp2_with fail
  refine (toInt64S_any _ _ _ f16_aA (by omega)).mono ?_
  rintro e w17 ⟨u17, rfl, g17, h17⟩
  have hn17 : w16.heap.size ≤ w17.heap.size := h17.size
  have hB17 : Below w.heap.size w w17 := hB16.trans (h17.mono (by omega))
  have f17_aA := f16_aA.below h17 (by omega)
  have f17_aB := f16_aB.below h17 (by omega)
  have f17_w0 := f16_w0.below h17 (by omega)
  have f17_g0 := f16_g0.below h17 (by omega)
  go_wp2_with fail
  refine (toInt64S_any _ _ _ f17_aB (by omega)).mono ?_
  rintro e w18 ⟨u18, rfl, g18, h18⟩
  have hn18 : w17.heap.size ≤ w18.heap.size := h18.size
  have hB18 : Below w.heap.size w w18 := hB17.trans (h18.mono (by omega))
  have f18_aA := f17_aA.below h18 (by omega)
  have f18_aB := f17_aB.below h18 (by omega)
  have f18_w0 := f17_w0.below h18 (by omega)
  have f18_g0 := f17_g0.below h18 (by omega)
  have f18__caA := g17.below h18 (by omega)
  go_wp2_with fail
  refine (implResolve_any w18 a0 _ _ _ _ a3 k0 f18__caA.rd (by omega) hz1 g18.rd (by omega) hz2 k3).mono ?_
  rintro e w19 ⟨u19a, rfl, g19a, h19⟩
  have hn19 : w18.heap.size ≤ w19.heap.size := h19.size
  have hB19 : Below w.heap.size w w19 := hB18.trans (h19.mono (by omega))
  have f19_w0 := f18_w0.below h19 (by omega)
  have f19_g0 := f18_g0.below h19 (by omega)
  have f19__caA := f18__caA.below h19 (by omega)
  have f19__caB := g18.below h19 (by omega)
  go_wp2_with fail
  refine (eqInt64S_any _ _ _ _ _ g19a.rd f19_w0.rd ).mono ?_
  rintro e w20 ⟨rfl, h20⟩
  have hn20 : w19.heap.size ≤ w20.heap.size := by rw [h20.heap]; exact Nat.le_refl _
  have hB20 : Below w.heap.size w w20 := hB19.trans (h20.below _)
  have f20_w0 := f19_w0.drew h20
  have f20_g0 := f19_g0.drew h20
  have f20_h0 := g19a.drew h20
  go_wp2_with fail
  refine (heldInt64S_any _ _ _ _ f20_g0.rd (by omega) (by omega)).mono ?_
  rintro e w21 ⟨rfl, h21⟩
  have hn21 : w20.heap.size ≤ w21.heap.size := by rw [h21.heap]; exact Nat.le_refl _
  have hB21 : Below w.heap.size w w21 := hB20.trans (h21.below _)
  go_wp2_with fail
  go_ret
  exact ⟨rfl, hB21⟩

set_option maxRecDepth 100000 in
theorem FnExactResolve_lifted (os : Os) (started : os.Started) (H : Type) (enc : TypeId × Value → H) :
    ReturnsInHanded {} Try.checked os 11 .any (Rows.fnExactResolveSpec.pre6 enc Try.prog Try.f11 Rows.fnExactResolveRow.domain false) (Rows.fnExactResolveSpec.post enc Try.prog Try.f11 false true false false) := by
  refine returnsInHanded_of_change (C := Try.checked) own_knob started (by kernel_rfl) Try.func11
    (ChangeSpec.witness6 (enc := enc) (C := Try.checked) false ⟨#[], #[.int .i64 0, .slice none 0 0, .slice none 0 0, .int .i64 0], []⟩ 8 (by kernel_rfl) (by kernel_rfl) (by kernel_rfl) (by kernel_rfl)) ?_
  intro W base args ds gs before hval0 hW hcnd _
  have hval : ∀ (j : Nat) t v, Try.f11.params[j]? = some t → args[j]? = some v → Value.okWide Try.prog W .any base t v := hval0
  have hW' := hW
  obtain ⟨p, q, hA0, hV, rfl, hfz, hnd⟩ := hW
  have hA : DataW.TrodAll enc Try.prog W 0 (fun _ => true) true Try.f11.params.toList args.toList ds p := hA0
  rw [Try.params11] at hA hval
  obtain ⟨v0, vs0, d0, ds0, p0, q0, hargs, rfl, rfl, h0, r0⟩ := trodAll_cons hA
  obtain ⟨v1, vs1, d1, ds1, p1, q1, rfl, rfl, rfl, h1, r1⟩ := trodAll_cons r0
  obtain ⟨v2, vs2, d2, ds2, p2, q2, rfl, rfl, rfl, h2, r2⟩ := trodAll_cons r1
  obtain ⟨v3, vs3, d3, ds3, p3, q3, rfl, rfl, rfl, h3, r3⟩ := trodAll_cons r2
  obtain ⟨rfl, rfl, rfl⟩ := trodAll_nil r3
  obtain rfl : args = #[v0, v1, v2, v3] := by cases args; simp_all
  obtain ⟨rfl, rfl⟩ := trodVars_none hV
  obtain ⟨a0, rfl, rfl, rfl, k0⟩ := open_int Try.underlying2 (hval 0 2 v0 rfl rfl) h0
  have lt1 : ∀ x ∈ p1, x.block < W.heap.size := by obtain ⟨m, hm⟩ := h1; exact DataW.trod_lt m _ _ _ hm
  obtain ⟨z1, k1⟩ := open_I (hval 1 40 v1 rfl rfl) h1
  have lt2 : ∀ x ∈ p2, x.block < W.heap.size := by obtain ⟨m, hm⟩ := h2; exact DataW.trod_lt m _ _ _ hm
  obtain ⟨z2, k2⟩ := open_I (hval 2 40 v2 rfl rfl) h2
  obtain ⟨a3, rfl, rfl, rfl, k3⟩ := open_int Try.underlying2 (hval 3 2 v3 rfl rfl) h3
  clear hA0 hval0
  refine (FnExactResolve_walk W a0 (I64_of_wf k0) v1 z1 k1 v2 z2 k2 a3 (I64_of_wf k3)).mono fun e W' ⟨he, bel⟩ => ?_
  subst he
  exact ⟨_, rfl, _, _, _, [], _, [], hW', trodAll_mk1 (shut_bool Try.underlying4 _), (trodAll_cons_mk (shut_int Try.underlying2 k0) (trodAll_cons_mk (Below.trod laid_out (by kernel_rfl) (of_decide_eq_true (by kernel_rfl)) h1 bel lt1) (trodAll_cons_mk (Below.trod laid_out (by kernel_rfl) (of_decide_eq_true (by kernel_rfl)) h2 bel lt2) (trodAll_cons_mk (shut_int Try.underlying2 k3) trodAll_mk0)))), rfl, bel.frame _, fun h => by cases h⟩

theorem FnExactResolve_over : Rows.fnExactResolveRow.holds Try.pinned (OpenSpec.ofChange Rows.fnExactResolveSpec) :=
  OpenClaim.holds_of_wide 11 Try.f11 rfl rfl rfl rfl rfl rfl rfl ⟨rfl, rfl, rfl, rfl, rfl⟩ rfl rfl rfl rfl rfl (by kernel_rfl) Try.func11 (by kernel_rfl)
    (of_decide_eq_true (by kernel_rfl)) (by unfold Func.isWrapper; first | (rw [if_pos (by decide +kernel)]; kernel_rfl) | (rw [if_neg (by decide +kernel)]; exact ⟨rfl, rfl⟩))
    (fun os started H enc _ => FnExactResolve_lifted os started H enc)

/-- The statement. -/
theorem FnExactResolve_proved : Rows.FnExactResolveSaid := FnExactResolve_over

end Go.Proofs.Ytdeelgnfnhdklaa
