/-
  The law FnExactMoveTour returns true for all arguments, and writes nothing that was there.
  There are no conditions.
-/
import Derived.Test.YteoikfddebbakaaMoveS
import Derived.Test.YteoikfddebbakaaMarkI
import Derived.Test.YteoikfddebbakaaOpen
namespace Go.Proofs.Yteoikfddebbakaa
open Go.ChangeShapes Go.WideShapes Go.ChangeAt Go.RowKit
set_option linter.unusedVariables false
set_option maxRecDepth 100000

set_option maxHeartbeats 2000000 in
set_option maxRecDepth 100000 in
theorem FnExactMoveTour_walk (w : World) (v0 : Value) (z0 : List Int) (k0 : Ints w 0 w.heap.size v0 z0) (v1 : Value) (z1 : List Int) (k1 : Ints w 0 w.heap.size v1 z1) :
    Calls Try.prog 6 #[v0, v1] w fun e w' => e = .returned (.bool true) ∧ Below w.heap.size w w' := by
  obtain ⟨b0, c0, rfl, q0, r0, s0⟩ := k0.out
  clear q0 r0 s0
  obtain ⟨b1, c1, rfl, q1, r1, s1⟩ := k1.out
  clear q1 r1 s1
  by_cases hz0 : z0.length ≤ 1048576
  case neg =>
    go_enter Try.func6, Try.ntmps6
    go_wp2
    go_ret
    exact ⟨rfl, Below.refl _ _⟩
  by_cases hz1 : z1.length ≤ 1048576
  case neg =>
    go_enter Try.func6, Try.ntmps6
    go_wp2
    go_ret
    exact ⟨rfl, Below.refl _ _⟩
  have hB0 : Below w.heap.size w w := Below.refl _ _
  have hn0 : w.heap.size ≤ w.heap.size := Nat.le_refl _
  go_enter Try.func6, Try.ntmps6
  go_wp2_with fail
  refine (toInt64S_any _ _ _ k0 (by omega)).mono ?_
  rintro e w1 ⟨u1, rfl, g1, h1⟩
  have hn1 : w.heap.size ≤ w1.heap.size := h1.size
  have hB1 : Below w.heap.size w w1 := hB0.trans (h1.mono (by omega))
  have f1_aWays := k0.below h1 (by omega)
  have f1_aTour := k1.below h1 (by omega)
  go_wp2_with fail
  refine (toInt64S_any _ _ _ f1_aTour (by omega)).mono ?_
  rintro e w2 ⟨u2, rfl, g2, h2⟩
  have hn2 : w1.heap.size ≤ w2.heap.size := h2.size
  have hB2 : Below w.heap.size w w2 := hB1.trans (h2.mono (by omega))
  have f2_aWays := f1_aWays.below h2 (by omega)
  have f2_aTour := f1_aTour.below h2 (by omega)
  have f2__caWays := g1.below h2 (by omega)
  go_wp2_with fail
  refine (specMoveTour_any w2 _ _ _ _ f2__caWays.rd (by omega) hz0 g2.rd (by omega) hz1).mono ?_
  rintro e w3 ⟨u3a, rfl, g3a, h3⟩
  have hn3 : w2.heap.size ≤ w3.heap.size := h3.size
  have hB3 : Below w.heap.size w w3 := hB2.trans (h3.mono (by omega))
  have f3_aWays := f2_aWays.below h3 (by omega)
  have f3_aTour := f2_aTour.below h3 (by omega)
  have f3__caWays := f2__caWays.below h3 (by omega)
  have f3__caTour := g2.below h3 (by omega)
  go_wp2_with fail
  refine (toInt64S_any _ _ _ f3_aWays (by omega)).mono ?_
  rintro e w4 ⟨u4, rfl, g4, h4⟩
  have hn4 : w3.heap.size ≤ w4.heap.size := h4.size
  have hB4 : Below w.heap.size w w4 := hB3.trans (h4.mono (by omega))
  have f4_aWays := f3_aWays.below h4 (by omega)
  have f4_aTour := f3_aTour.below h4 (by omega)
  have f4_w0 := g3a.below h4 (by omega)
  go_wp2_with fail
  refine (toInt64S_any _ _ _ f4_aTour (by omega)).mono ?_
  rintro e w5 ⟨u5, rfl, g5, h5⟩
  have hn5 : w4.heap.size ≤ w5.heap.size := h5.size
  have hB5 : Below w.heap.size w w5 := hB4.trans (h5.mono (by omega))
  have f5_aWays := f4_aWays.below h5 (by omega)
  have f5_aTour := f4_aTour.below h5 (by omega)
  have f5_w0 := f4_w0.below h5 (by omega)
  have f5_x0 := g4.below h5 (by omega)
  go_wp2_with fail
  refine (implMoveTour_any w5 _ _ _ _ f5_x0.rd (by omega) hz0 g5.rd (by omega) hz1).mono ?_
  rintro e w6 ⟨u6a, rfl, g6a, h6⟩
  have hn6 : w5.heap.size ≤ w6.heap.size := h6.size
  have hB6 : Below w.heap.size w w6 := hB5.trans (h6.mono (by omega))
  have f6_aWays := f5_aWays.below h6 (by omega)
  have f6_aTour := f5_aTour.below h6 (by omega)
  have f6_w0 := f5_w0.below h6 (by omega)
  have f6_x0 := f5_x0.below h6 (by omega)
  have f6_x1 := g5.below h6 (by omega)
  go_wp2_with fail
  refine (eqInt64S_any _ _ _ _ _ g6a.rd f6_w0.rd ).mono ?_
  rintro e w7 ⟨rfl, h7⟩
  have hn7 : w6.heap.size ≤ w7.heap.size := by rw [h7.heap]; exact Nat.le_refl _
  have hB7 : Below w.heap.size w w7 := hB6.trans (h7.below _)
  have f7_aWays := f6_aWays.drew h7
  have f7_aTour := f6_aTour.drew h7
  have f7_w0 := f6_w0.drew h7
  have f7_x0 := f6_x0.drew h7
  have f7_x1 := f6_x1.drew h7
  have f7_g0 := g6a.drew h7
  go_wp2_with fail
  refine (toInt64S_any _ _ _ f7_aWays (by omega)).mono ?_
  rintro e w8 ⟨u8, rfl, g8, h8⟩
  have hn8 : w7.heap.size ≤ w8.heap.size := h8.size
  have hB8 : Below w.heap.size w w8 := hB7.trans (h8.mono (by omega))
  have f8_aWays := f7_aWays.below h8 (by omega)
  have f8_aTour := f7_aTour.below h8 (by omega)
  have f8_w0 := f7_w0.below h8 (by omega)
  have f8_x0 := f7_x0.below h8 (by omega)
  have f8_x1 := f7_x1.below h8 (by omega)
  have f8_g0 := f7_g0.below h8 (by omega)
  go_wp2_with fail
  refine (eqInt64S_any _ _ _ _ _ f8_x0.rd g8.rd ).mono ?_
  rintro e w9 ⟨rfl, h9⟩
  have hn9 : w8.heap.size ≤ w9.heap.size := by rw [h9.heap]; exact Nat.le_refl _
  have hB9 : Below w.heap.size w w9 := hB8.trans (h9.below _)
  have f9_aWays := f8_aWays.drew h9
  have f9_aTour := f8_aTour.drew h9
  have f9_w0 := f8_w0.drew h9
  have f9_x0 := f8_x0.drew h9
  have f9_x1 := f8_x1.drew h9
  have f9_g0 := f8_g0.drew h9
  go_wp2_with fail
  refine (toInt64S_any _ _ _ f9_aTour (by omega)).mono ?_
  rintro e w10 ⟨u10, rfl, g10, h10⟩
  have hn10 : w9.heap.size ≤ w10.heap.size := h10.size
  have hB10 : Below w.heap.size w w10 := hB9.trans (h10.mono (by omega))
  have f10_aWays := f9_aWays.below h10 (by omega)
  have f10_aTour := f9_aTour.below h10 (by omega)
  have f10_w0 := f9_w0.below h10 (by omega)
  have f10_x0 := f9_x0.below h10 (by omega)
  have f10_x1 := f9_x1.below h10 (by omega)
  have f10_g0 := f9_g0.below h10 (by omega)
  go_wp2_with fail
  refine (eqInt64S_any _ _ _ _ _ f10_x1.rd g10.rd ).mono ?_
  rintro e w11 ⟨rfl, h11⟩
  have hn11 : w10.heap.size ≤ w11.heap.size := by rw [h11.heap]; exact Nat.le_refl _
  have hB11 : Below w.heap.size w w11 := hB10.trans (h11.below _)
  have f11_aWays := f10_aWays.drew h11
  have f11_aTour := f10_aTour.drew h11
  have f11_w0 := f10_w0.drew h11
  have f11_x0 := f10_x0.drew h11
  have f11_x1 := f10_x1.drew h11
  have f11_g0 := f10_g0.drew h11
  go_wp2_with fail
  have ln12 := f11_x0.len
  refine (markInt64S_any _ _ _ _ f11_x0 (by omega) (by omega)).mono ?_
  rintro e w12 ⟨rfl, g12, h12⟩
  have hn12 : w11.heap.size ≤ w12.heap.size := h12.size
  have hB12 : Below w.heap.size w w12 := hB11.trans (h12.below (by omega) (by omega))
  have f12_aWays := f11_aWays.same h12 (.inl (by omega))
  have f12_aTour := f11_aTour.same h12 (.inl (by omega))
  have f12_w0 := f11_w0.same h12 (.inl (by omega))
  have f12_x1 := f11_x1.same h12 (.inr (by omega))
  have f12_g0 := f11_g0.same h12 (.inr (by omega))
  go_wp2_with fail
  have ln13 := f12_x1.len
  refine (markInt64S_any _ _ _ _ f12_x1 (by omega) (by omega)).mono ?_
  rintro e w13 ⟨rfl, g13, h13⟩
  have hn13 : w12.heap.size ≤ w13.heap.size := h13.size
  have hB13 : Below w.heap.size w w13 := hB12.trans (h13.below (by omega) (by omega))
  have f13_aWays := f12_aWays.same h13 (.inl (by omega))
  have f13_aTour := f12_aTour.same h13 (.inl (by omega))
  have f13_w0 := f12_w0.same h13 (.inl (by omega))
  have f13_g0 := f12_g0.same h13 (.inr (by omega))
  go_wp2_with fail
  refine (eqInt64S_any _ _ _ _ _ f13_g0.rd f13_w0.rd ).mono ?_
  rintro e w14 ⟨rfl, h14⟩
  have hn14 : w13.heap.size ≤ w14.heap.size := by rw [h14.heap]; exact Nat.le_refl _
  have hB14 : Below w.heap.size w w14 := hB13.trans (h14.below _)
  have f14_aWays := f13_aWays.drew h14
  have f14_aTour := f13_aTour.drew h14
  have f14_w0 := f13_w0.drew h14
  have f14_g0 := f13_g0.drew h14
  go_wp2_with fail
  have ln15 := f14_g0.len
  refine (markInt64S_any _ _ _ _ f14_g0 (by omega) (by omega)).mono ?_
  rintro e w15 ⟨rfl, g15, h15⟩
  have hn15 : w14.heap.size ≤ w15.heap.size := h15.size
  have hB15 : Below w.heap.size w w15 := hB14.trans (h15.below (by omega) (by omega))
  have f15_aWays := f14_aWays.same h15 (.inl (by omega))
  have f15_aTour := f14_aTour.same h15 (.inl (by omega))
  have f15_w0 := f14_w0.same h15 (.inl (by omega))
  go_wp2_with fail
  refine (heldInt64S_any _ _ _ _ g15.rd (by omega) (by omega)).mono ?_
  rintro e w16 ⟨rfl, h16⟩
  have hn16 : w15.heap.size ≤ w16.heap.size := by rw [h16.heap]; exact Nat.le_refl _
  have hB16 : Below w.heap.size w w16 := hB15.trans (h16.below _)
  have f16_aWays := f15_aWays.drew h16
  have f16_aTour := f15_aTour.drew h16
  have f16_w0 := f15_w0.drew h16
  have f16_g0 := g15.drew h16
  go_wp2_with fail
  refine (toInt64S_any _ _ _ f16_aWays (by omega)).mono ?_
  rintro e w17 ⟨u17, rfl, g17, h17⟩
  have hn17 : w16.heap.size ≤ w17.heap.size := h17.size
  have hB17 : Below w.heap.size w w17 := hB16.trans (h17.mono (by omega))
  have f17_aWays := f16_aWays.below h17 (by omega)
  have f17_aTour := f16_aTour.below h17 (by omega)
  have f17_w0 := f16_w0.below h17 (by omega)
  have f17_g0 := f16_g0.below h17 (by omega)
  go_wp2_with fail
  refine (toInt64S_any _ _ _ f17_aTour (by omega)).mono ?_
  rintro e w18 ⟨u18, rfl, g18, h18⟩
  have hn18 : w17.heap.size ≤ w18.heap.size := h18.size
  have hB18 : Below w.heap.size w w18 := hB17.trans (h18.mono (by omega))
  have f18_aWays := f17_aWays.below h18 (by omega)
  have f18_aTour := f17_aTour.below h18 (by omega)
  have f18_w0 := f17_w0.below h18 (by omega)
  have f18_g0 := f17_g0.below h18 (by omega)
  have f18__caWays := g17.below h18 (by omega)
  go_wp2_with fail
  refine (implMoveTour_any w18 _ _ _ _ f18__caWays.rd (by omega) hz0 g18.rd (by omega) hz1).mono ?_
  rintro e w19 ⟨u19a, rfl, g19a, h19⟩
  have hn19 : w18.heap.size ≤ w19.heap.size := h19.size
  have hB19 : Below w.heap.size w w19 := hB18.trans (h19.mono (by omega))
  have f19_w0 := f18_w0.below h19 (by omega)
  have f19_g0 := f18_g0.below h19 (by omega)
  have f19__caWays := f18__caWays.below h19 (by omega)
  have f19__caTour := g18.below h19 (by omega)
  go_wp2_with fail
  refine (eqInt64S_any _ _ _ _ _ g19a.rd f19_w0.rd ).mono ?_
  rintro e w20 ⟨rfl, h20⟩
  have hn20 : w19.heap.size ≤ w20.heap.size := by rw [h20.heap]; exact Nat.le_refl _
  have hB20 : Below w.heap.size w w20 := hB19.trans (h20.below _)
  have f20_w0 := f19_w0.drew h20
  have f20_g0 := f19_g0.drew h20
  have f20_h0 := g19a.drew h20
  go_wp2_with fail
  refine (heldInt64S_any _ _ _ _ f20_g0.rd (by omega) (by omega)).mono ?_
  rintro e w21 ⟨rfl, h21⟩
  have hn21 : w20.heap.size ≤ w21.heap.size := by rw [h21.heap]; exact Nat.le_refl _
  have hB21 : Below w.heap.size w w21 := hB20.trans (h21.below _)
  go_wp2_with fail
  go_ret
  exact ⟨rfl, hB21⟩

set_option maxRecDepth 100000 in
theorem FnExactMoveTour_lifted (os : Os) (started : os.Started) (H : Type) (enc : TypeId × Value → H) :
    ReturnsInHanded {} Try.checked os 6 .any (Rows.fnExactMoveTourSpec.pre6 enc Try.prog Try.f6 Rows.fnExactMoveTourRow.domain false) (Rows.fnExactMoveTourSpec.post enc Try.prog Try.f6 false true false false) := by
  refine returnsInHanded_of_change (C := Try.checked) own_knob started (by kernel_rfl) Try.func6
    (ChangeSpec.witness6 (enc := enc) (C := Try.checked) false ⟨#[], #[.slice none 0 0, .slice none 0 0], []⟩ 8 (by kernel_rfl) (by kernel_rfl) (by kernel_rfl) (by kernel_rfl)) ?_
  intro W base args ds gs before hval0 hW hcnd _
  have hval : ∀ (j : Nat) t v, Try.f6.params[j]? = some t → args[j]? = some v → Value.okWide Try.prog W .any base t v := hval0
  have hW' := hW
  obtain ⟨p, q, hA0, hV, rfl, hfz, hnd⟩ := hW
  have hA : DataW.TrodAll enc Try.prog W 0 (fun _ => true) true Try.f6.params.toList args.toList ds p := hA0
  rw [Try.params6] at hA hval
  obtain ⟨v0, vs0, d0, ds0, p0, q0, hargs, rfl, rfl, h0, r0⟩ := trodAll_cons hA
  obtain ⟨v1, vs1, d1, ds1, p1, q1, rfl, rfl, rfl, h1, r1⟩ := trodAll_cons r0
  obtain ⟨rfl, rfl, rfl⟩ := trodAll_nil r1
  obtain rfl : args = #[v0, v1] := by cases args; simp_all
  obtain ⟨rfl, rfl⟩ := trodVars_none hV
  have lt0 : ∀ x ∈ p0, x.block < W.heap.size := by obtain ⟨m, hm⟩ := h0; exact DataW.trod_lt m _ _ _ hm
  obtain ⟨z0, k0⟩ := open_I (hval 0 32 v0 rfl rfl) h0
  have lt1 : ∀ x ∈ p1, x.block < W.heap.size := by obtain ⟨m, hm⟩ := h1; exact DataW.trod_lt m _ _ _ hm
  obtain ⟨z1, k1⟩ := open_I (hval 1 32 v1 rfl rfl) h1
  clear hA0 hval0
  refine (FnExactMoveTour_walk W v0 z0 k0 v1 z1 k1).mono fun e W' ⟨he, bel⟩ => ?_
  subst he
  exact ⟨_, rfl, _, _, _, [], _, [], hW', trodAll_mk1 (shut_bool Try.underlying4 _), (trodAll_cons_mk (Below.trod laid_out (by kernel_rfl) (of_decide_eq_true (by kernel_rfl)) h0 bel lt0) (trodAll_cons_mk (Below.trod laid_out (by kernel_rfl) (of_decide_eq_true (by kernel_rfl)) h1 bel lt1) trodAll_mk0)), rfl, bel.frame _, fun h => by cases h⟩

theorem FnExactMoveTour_over : Rows.fnExactMoveTourRow.holds Try.pinned (OpenSpec.ofChange Rows.fnExactMoveTourSpec) :=
  OpenClaim.holds_of_wide 6 Try.f6 rfl rfl rfl rfl rfl rfl rfl ⟨rfl, rfl, rfl, rfl, rfl⟩ rfl rfl rfl rfl rfl (by kernel_rfl) Try.func6 (by kernel_rfl)
    (of_decide_eq_true (by kernel_rfl)) (by unfold Func.isWrapper; first | (rw [if_pos (by decide +kernel)]; kernel_rfl) | (rw [if_neg (by decide +kernel)]; exact ⟨rfl, rfl⟩))
    (fun os started H enc _ => FnExactMoveTour_lifted os started H enc)

/-- The statement. -/
theorem FnExactMoveTour_proved : Rows.FnExactMoveTourSaid := FnExactMoveTour_over

end Go.Proofs.Yteoikfddebbakaa
