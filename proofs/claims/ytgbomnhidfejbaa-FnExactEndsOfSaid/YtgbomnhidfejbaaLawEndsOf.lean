/-
  The law FnExactEndsOf returns true for all arguments, and writes nothing that was there.
  There are no conditions.
-/
import Derived.Test.YtgbomnhidfejbaaOpen
import Derived.Test.YtgbomnhidfejbaaOpenJ
import Derived.Test.YtgbomnhidfejbaaMarkI
import Derived.Test.YtgbomnhidfejbaaJobB
namespace Go.Proofs.Ytgbomnhidfejbaa
open Go.ChangeShapes Go.WideShapes Go.ChangeAt Go.RowKit
set_option linter.unusedVariables false

set_option maxHeartbeats 4000000 in
set_option maxRecDepth 100000 in
theorem FnExactEndsOf_walk (w : World) (v0 : Value) (z0 : List JobD) (k0 : Jobs w 0 w.heap.size v0 z0) (v1 : Value) (z1 : List Int) (k1 : Ints w 0 w.heap.size v1 z1) :
    Calls Try.prog 9 #[v0, v1] w fun e w' => e = .returned (.bool true) ∧ Below w.heap.size w w' := by
  obtain ⟨b1, c1, rfl, q1, r1, s1⟩ := k1.out
  clear q1 r1 s1
  by_cases hz1 : z1.length ≤ 1048576
  case neg =>
    go_enter Try.func9, Try.ntmps9
    go_wp2
    go_ret
    exact ⟨rfl, Below.refl _ _⟩
  have hB0 : Below w.heap.size w w := Below.refl _ _
  have hn0 : w.heap.size ≤ w.heap.size := Nat.le_refl _
  go_enter Try.func9, Try.ntmps9
  go_wp2_with fail
  refine (szJobS_any _ _ _ _ k0 (by omega) (by omega)).mono ?_
  rintro e w' ⟨n1, rfl, rfl, na1, nb1, nc1⟩
  by_cases hneg1 : n1 < 0
  · go_wp2
    go_ret
    exact ⟨rfl, hB0⟩
  have hz0 : z0.length ≤ 1048576 := by have := nc1 (by omega); omega
  go_wp2_with fail
  refine (toJobS_any _ _ _ k0 hz0 (by omega)).mono ?_
  rintro e w1 ⟨u1, rfl, g1, h1⟩
  have hn1 : w.heap.size ≤ w1.heap.size := h1.size
  have hB1 : Below w.heap.size w w1 := hB0.trans (h1.mono (by omega))
  have f1_aJobs := k0.below h1 (by omega)
  have f1_aOrder := k1.below h1 (by omega)
  go_wp2_with fail
  refine (toInt64S_any _ _ _ f1_aOrder (by omega)).mono ?_
  rintro e w2 ⟨u2, rfl, g2, h2⟩
  have hn2 : w1.heap.size ≤ w2.heap.size := h2.size
  have hB2 : Below w.heap.size w w2 := hB1.trans (h2.mono (by omega))
  have f2_aJobs := f1_aJobs.below h2 (by omega)
  have f2_aOrder := f1_aOrder.below h2 (by omega)
  have f2__caJobs := g1.below h2 (by omega)
  go_wp2_with fail
  refine (specEndsOf_any w2 _ _ _ _ f2__caJobs.rd (by omega) hz0 g2.rd (by omega) hz1).mono ?_
  rintro e w3 ⟨u3a, rfl, g3a, h3⟩
  have hn3 : w2.heap.size ≤ w3.heap.size := h3.size
  have hB3 : Below w.heap.size w w3 := hB2.trans (h3.mono (by omega))
  have f3_aJobs := f2_aJobs.below h3 (by omega)
  have f3_aOrder := f2_aOrder.below h3 (by omega)
  have f3__caJobs := f2__caJobs.below h3 (by omega)
  have f3__caOrder := g2.below h3 (by omega)
  go_wp2_with fail
  refine (toJobS_any _ _ _ f3_aJobs hz0 (by omega)).mono ?_
  rintro e w4 ⟨u4, rfl, g4, h4⟩
  have hn4 : w3.heap.size ≤ w4.heap.size := h4.size
  have hB4 : Below w.heap.size w w4 := hB3.trans (h4.mono (by omega))
  have f4_aJobs := f3_aJobs.below h4 (by omega)
  have f4_aOrder := f3_aOrder.below h4 (by omega)
  have f4_w0 := g3a.below h4 (by omega)
  go_wp2_with fail
  refine (toInt64S_any _ _ _ f4_aOrder (by omega)).mono ?_
  rintro e w5 ⟨u5, rfl, g5, h5⟩
  have hn5 : w4.heap.size ≤ w5.heap.size := h5.size
  have hB5 : Below w.heap.size w w5 := hB4.trans (h5.mono (by omega))
  have f5_aJobs := f4_aJobs.below h5 (by omega)
  have f5_aOrder := f4_aOrder.below h5 (by omega)
  have f5_w0 := f4_w0.below h5 (by omega)
  have f5_x0 := g4.below h5 (by omega)
  go_wp2_with fail
  refine (implEndsOf_any w5 _ _ _ _ f5_x0.rd (by omega) hz0 g5.rd (by omega) hz1).mono ?_
  rintro e w6 ⟨u6a, rfl, g6a, h6⟩
  have hn6 : w5.heap.size ≤ w6.heap.size := h6.size
  have hB6 : Below w.heap.size w w6 := hB5.trans (h6.mono (by omega))
  have f6_aJobs := f5_aJobs.below h6 (by omega)
  have f6_aOrder := f5_aOrder.below h6 (by omega)
  have f6_w0 := f5_w0.below h6 (by omega)
  have f6_x0 := f5_x0.below h6 (by omega)
  have f6_x1 := g5.below h6 (by omega)
  go_wp2_with fail
  refine (eqInt64S_any _ _ _ _ _ g6a.rd f6_w0.rd ).mono ?_
  rintro e w7 ⟨rfl, h7⟩
  have hn7 : w6.heap.size ≤ w7.heap.size := by rw [h7.heap]; exact Nat.le_refl _
  have hB7 : Below w.heap.size w w7 := hB6.trans (h7.below _)
  have f7_aJobs := f6_aJobs.drew h7
  have f7_aOrder := f6_aOrder.drew h7
  have f7_w0 := f6_w0.drew h7
  have f7_x0 := f6_x0.drew h7
  have f7_x1 := f6_x1.drew h7
  have f7_g0 := g6a.drew h7
  go_wp2_with fail
  refine (toJobS_any _ _ _ f7_aJobs hz0 (by omega)).mono ?_
  rintro e w8 ⟨u8, rfl, g8, h8⟩
  have hn8 : w7.heap.size ≤ w8.heap.size := h8.size
  have hB8 : Below w.heap.size w w8 := hB7.trans (h8.mono (by omega))
  have f8_aJobs := f7_aJobs.below h8 (by omega)
  have f8_aOrder := f7_aOrder.below h8 (by omega)
  have f8_w0 := f7_w0.below h8 (by omega)
  have f8_x0 := f7_x0.below h8 (by omega)
  have f8_x1 := f7_x1.below h8 (by omega)
  have f8_g0 := f7_g0.below h8 (by omega)
  go_wp2_with fail
  refine (eqJobS_any _ _ _ _ _ f8_x0.rd g8.rd (by omega) (by omega)).mono ?_
  rintro e w9 ⟨rfl, h9⟩
  have hn9 : w8.heap.size ≤ w9.heap.size := h9.size
  have hB9 : Below w.heap.size w w9 := hB8.trans (h9.mono (by omega))
  have f9_aJobs := f8_aJobs.below h9 (by omega)
  have f9_aOrder := f8_aOrder.below h9 (by omega)
  have f9_w0 := f8_w0.below h9 (by omega)
  have f9_x0 := f8_x0.below h9 (by omega)
  have f9_x1 := f8_x1.below h9 (by omega)
  have f9_g0 := f8_g0.below h9 (by omega)
  go_wp2_with fail
  refine (toInt64S_any _ _ _ f9_aOrder (by omega)).mono ?_
  rintro e w10 ⟨u10, rfl, g10, h10⟩
  have hn10 : w9.heap.size ≤ w10.heap.size := h10.size
  have hB10 : Below w.heap.size w w10 := hB9.trans (h10.mono (by omega))
  have f10_aJobs := f9_aJobs.below h10 (by omega)
  have f10_aOrder := f9_aOrder.below h10 (by omega)
  have f10_w0 := f9_w0.below h10 (by omega)
  have f10_x0 := f9_x0.below h10 (by omega)
  have f10_x1 := f9_x1.below h10 (by omega)
  have f10_g0 := f9_g0.below h10 (by omega)
  go_wp2_with fail
  refine (eqInt64S_any _ _ _ _ _ f10_x1.rd g10.rd ).mono ?_
  rintro e w11 ⟨rfl, h11⟩
  have hn11 : w10.heap.size ≤ w11.heap.size := by rw [h11.heap]; exact Nat.le_refl _
  have hB11 : Below w.heap.size w w11 := hB10.trans (h11.below _)
  have f11_aJobs := f10_aJobs.drew h11
  have f11_aOrder := f10_aOrder.drew h11
  have f11_w0 := f10_w0.drew h11
  have f11_x0 := f10_x0.drew h11
  have f11_x1 := f10_x1.drew h11
  have f11_g0 := f10_g0.drew h11
  go_wp2_with fail
  refine (markJobS_any _ _ _ _ f11_x0 (by omega) (by have := hz0; omega)).mono ?_
  rintro e w12 ⟨rfl, g12, h12⟩
  have hn12 : w11.heap.size ≤ w12.heap.size := h12.size
  have hB12 : Below w.heap.size w w12 := hB11.trans (h12.below (by omega) (by omega))
  have f12_aJobs := f11_aJobs.same h12 (.inl (by omega))
  have f12_aOrder := f11_aOrder.same h12 (.inl (by omega))
  have f12_w0 := f11_w0.same h12 (.inl (by omega))
  have f12_x1 := f11_x1.same h12 (.inr (by omega))
  have f12_g0 := f11_g0.same h12 (.inr (by omega))
  go_wp2_with fail
  have ln13 := f12_x1.len
  refine (markInt64S_any _ _ _ _ f12_x1 (by omega) (by have := f12_x1.len; omega)).mono ?_
  rintro e w13 ⟨rfl, g13, h13⟩
  have hn13 : w12.heap.size ≤ w13.heap.size := h13.size
  have hB13 : Below w.heap.size w w13 := hB12.trans (h13.below (by omega) (by omega))
  have f13_aJobs := f12_aJobs.same h13 (.inl (by omega))
  have f13_aOrder := f12_aOrder.same h13 (.inl (by omega))
  have f13_w0 := f12_w0.same h13 (.inl (by omega))
  have f13_g0 := f12_g0.same h13 (.inr (by omega))
  go_wp2_with fail
  refine (eqInt64S_any _ _ _ _ _ f13_g0.rd f13_w0.rd ).mono ?_
  rintro e w14 ⟨rfl, h14⟩
  have hn14 : w13.heap.size ≤ w14.heap.size := by rw [h14.heap]; exact Nat.le_refl _
  have hB14 : Below w.heap.size w w14 := hB13.trans (h14.below _)
  have f14_aJobs := f13_aJobs.drew h14
  have f14_aOrder := f13_aOrder.drew h14
  have f14_w0 := f13_w0.drew h14
  have f14_g0 := f13_g0.drew h14
  go_wp2_with fail
  have ln15 := f14_g0.len
  refine (markInt64S_any _ _ _ _ f14_g0 (by omega) (by have := f14_g0.len; omega)).mono ?_
  rintro e w15 ⟨rfl, g15, h15⟩
  have hn15 : w14.heap.size ≤ w15.heap.size := h15.size
  have hB15 : Below w.heap.size w w15 := hB14.trans (h15.below (by omega) (by omega))
  have f15_aJobs := f14_aJobs.same h15 (.inl (by omega))
  have f15_aOrder := f14_aOrder.same h15 (.inl (by omega))
  have f15_w0 := f14_w0.same h15 (.inl (by omega))
  go_wp2_with fail
  refine (heldInt64S_any _ _ _ _ g15.rd (by omega) (by omega)).mono ?_
  rintro e w16 ⟨rfl, h16⟩
  have hn16 : w15.heap.size ≤ w16.heap.size := by rw [h16.heap]; exact Nat.le_refl _
  have hB16 : Below w.heap.size w w16 := hB15.trans (h16.below _)
  have f16_aJobs := f15_aJobs.drew h16
  have f16_aOrder := f15_aOrder.drew h16
  have f16_w0 := f15_w0.drew h16
  have f16_g0 := g15.drew h16
  go_wp2_with fail
  refine (toJobS_any _ _ _ f16_aJobs hz0 (by omega)).mono ?_
  rintro e w17 ⟨u17, rfl, g17, h17⟩
  have hn17 : w16.heap.size ≤ w17.heap.size := h17.size
  have hB17 : Below w.heap.size w w17 := hB16.trans (h17.mono (by omega))
  have f17_aJobs := f16_aJobs.below h17 (by omega)
  have f17_aOrder := f16_aOrder.below h17 (by omega)
  have f17_w0 := f16_w0.below h17 (by omega)
  have f17_g0 := f16_g0.below h17 (by omega)
  go_wp2_with fail
  refine (toInt64S_any _ _ _ f17_aOrder (by omega)).mono ?_
  rintro e w18 ⟨u18, rfl, g18, h18⟩
  have hn18 : w17.heap.size ≤ w18.heap.size := h18.size
  have hB18 : Below w.heap.size w w18 := hB17.trans (h18.mono (by omega))
  have f18_aJobs := f17_aJobs.below h18 (by omega)
  have f18_aOrder := f17_aOrder.below h18 (by omega)
  have f18_w0 := f17_w0.below h18 (by omega)
  have f18_g0 := f17_g0.below h18 (by omega)
  have f18__caJobs := g17.below h18 (by omega)
  go_wp2_with fail
  refine (implEndsOf_any w18 _ _ _ _ f18__caJobs.rd (by omega) hz0 g18.rd (by omega) hz1).mono ?_
  rintro e w19 ⟨u19a, rfl, g19a, h19⟩
  have hn19 : w18.heap.size ≤ w19.heap.size := h19.size
  have hB19 : Below w.heap.size w w19 := hB18.trans (h19.mono (by omega))
  have f19_w0 := f18_w0.below h19 (by omega)
  have f19_g0 := f18_g0.below h19 (by omega)
  have f19__caJobs := f18__caJobs.below h19 (by omega)
  have f19__caOrder := g18.below h19 (by omega)
  go_wp2_with fail
  refine (eqInt64S_any _ _ _ _ _ g19a.rd f19_w0.rd ).mono ?_
  rintro e w20 ⟨rfl, h20⟩
  have hn20 : w19.heap.size ≤ w20.heap.size := by rw [h20.heap]; exact Nat.le_refl _
  have hB20 : Below w.heap.size w w20 := hB19.trans (h20.below _)
  have f20_w0 := f19_w0.drew h20
  have f20_g0 := f19_g0.drew h20
  have f20_h0 := g19a.drew h20
  go_wp2_with fail
  refine (heldInt64S_any _ _ _ _ f20_g0.rd (by omega) (by omega)).mono ?_
  rintro e w21 ⟨rfl, h21⟩
  have hn21 : w20.heap.size ≤ w21.heap.size := by rw [h21.heap]; exact Nat.le_refl _
  have hB21 : Below w.heap.size w w21 := hB20.trans (h21.below _)
  go_wp2_with fail
  go_ret
  exact ⟨rfl, hB21⟩

set_option maxRecDepth 100000 in
theorem FnExactEndsOf_lifted (os : Os) (started : os.Started) (H : Type) (enc : TypeId × Value → H) :
    ReturnsInHanded {} Try.checked os 9 .any (Rows.fnExactEndsOfSpec.pre6 enc Try.prog Try.f9 Rows.fnExactEndsOfRow.domain false) (Rows.fnExactEndsOfSpec.post enc Try.prog Try.f9 false true false false) := by
  refine returnsInHanded_of_change (C := Try.checked) own_knob started (by kernel_rfl) Try.func9
    (ChangeSpec.witness6 (enc := enc) (C := Try.checked) false ⟨#[], #[.slice none 0 0, .slice none 0 0], []⟩ 8 (by kernel_rfl) (by kernel_rfl) (by kernel_rfl) (by kernel_rfl)) ?_
  intro W base args ds gs before hval0 hW hcnd _
  have hval : ∀ (j : Nat) t v, Try.f9.params[j]? = some t → args[j]? = some v → Value.okWide Try.prog W .any base t v := hval0
  have hW' := hW
  obtain ⟨p, q, hA0, hV, rfl, hfz, hnd⟩ := hW
  have hA : DataW.TrodAll enc Try.prog W 0 (fun _ => true) true Try.f9.params.toList args.toList ds p := hA0
  rw [Try.params9] at hA hval
  obtain ⟨v0, vs0, d0, ds0, p0, q0, hargs, rfl, rfl, h0, r0⟩ := trodAll_cons hA
  obtain ⟨v1, vs1, d1, ds1, p1, q1, rfl, rfl, rfl, h1, r1⟩ := trodAll_cons r0
  obtain ⟨rfl, rfl, rfl⟩ := trodAll_nil r1
  obtain rfl : args = #[v0, v1] := by cases args; simp_all
  obtain ⟨rfl, rfl⟩ := trodVars_none hV
  have lt0 : ∀ x ∈ p0, x.block < W.heap.size := by obtain ⟨m, hm⟩ := h0; exact DataW.trod_lt m _ _ _ hm
  obtain ⟨z0, k0⟩ := open_J (hval 0 22 v0 rfl rfl) h0
  have lt1 : ∀ x ∈ p1, x.block < W.heap.size := by obtain ⟨m, hm⟩ := h1; exact DataW.trod_lt m _ _ _ hm
  obtain ⟨z1, k1⟩ := open_I (hval 1 30 v1 rfl rfl) h1
  clear hA0 hval0
  refine (FnExactEndsOf_walk W v0 z0 k0 v1 z1 k1).mono fun e W' ⟨he, bel⟩ => ?_
  subst he
  exact ⟨_, rfl, _, _, _, [], _, [], hW', trodAll_mk1 (shut_bool Try.underlying4 _), (trodAll_cons_mk (Below.trod laid_out (by kernel_rfl) (of_decide_eq_true (by kernel_rfl)) h0 bel lt0) (trodAll_cons_mk (Below.trod laid_out (by kernel_rfl) (of_decide_eq_true (by kernel_rfl)) h1 bel lt1) trodAll_mk0)), rfl, bel.frame _, fun h => by cases h⟩

theorem FnExactEndsOf_over : Rows.fnExactEndsOfRow.holds Try.pinned (OpenSpec.ofChange Rows.fnExactEndsOfSpec) :=
  OpenClaim.holds_of_wide 9 Try.f9 rfl rfl rfl rfl rfl rfl rfl ⟨rfl, rfl, rfl, rfl, rfl⟩ rfl rfl rfl rfl rfl (by kernel_rfl) Try.func9 (by kernel_rfl)
    (of_decide_eq_true (by kernel_rfl)) (by unfold Func.isWrapper; first | (rw [if_pos (by decide +kernel)]; kernel_rfl) | (rw [if_neg (by decide +kernel)]; exact ⟨rfl, rfl⟩))
    (fun os started H enc _ => FnExactEndsOf_lifted os started H enc)

/-- The statement. -/
theorem FnExactEndsOf_proved : Rows.FnExactEndsOfSaid := FnExactEndsOf_over

end Go.Proofs.Ytgbomnhidfejbaa
