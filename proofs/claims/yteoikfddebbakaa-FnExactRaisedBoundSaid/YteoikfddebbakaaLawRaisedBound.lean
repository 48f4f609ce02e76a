/-
  The law FnExactRaisedBound returns true for all arguments, and writes nothing that was there.
  There are no conditions.
-/
import Derived.Test.YteoikfddebbakaaRaiseS
import Derived.Test.YteoikfddebbakaaMarkI
import Derived.Test.YteoikfddebbakaaOpen
namespace Go.Proofs.Yteoikfddebbakaa
open Go.ChangeShapes Go.WideShapes Go.ChangeAt Go.RowKit
set_option linter.unusedVariables false
set_option maxRecDepth 100000

set_option maxHeartbeats 2000000 in
set_option maxRecDepth 100000 in
theorem FnExactRaisedBound_walk (w : World) (v0 : Value) (z0 : List Int) (k0 : Ints w 0 w.heap.size v0 z0) (a1 : Int) (k1 : I64 a1) :
    Calls Try.prog 8 #[v0, .int .i64 a1] w fun e w' => e = .returned (.bool true) ∧ Below w.heap.size w w' := by
  obtain ⟨b0, c0, rfl, q0, r0, s0⟩ := k0.out
  clear q0 r0 s0
  by_cases hz0 : z0.length ≤ 1048576
  case neg =>
    go_enter Try.func8, Try.ntmps8
    go_wp2
    go_ret
    exact ⟨rfl, Below.refl _ _⟩
  have hB0 : Below w.heap.size w w := Below.refl _ _
  have hn0 : w.heap.size ≤ w.heap.size := Nat.le_refl _
  go_enter Try.func8, Try.ntmps8
  go_wp2_with fail
  refine (toInt64S_any _ _ _ k0 (by omega)).mono ?_
  rintro e w1 ⟨u1, rfl, g1, h1⟩
  have hn1 : w.heap.size ≤ w1.heap.size := h1.size
  have hB1 : Below w.heap.size w w1 := hB0.trans (h1.mono (by omega))
  have f1_aWays := k0.below h1 (by omega)
  go_wp2_with fail
  refine (specRaisedBound_any w1 _ _ a1 g1.rd (by omega) hz0 k1).mono ?_
  rintro e w2 ⟨u2a, rfl, g2a, h2⟩
  have hn2 : w1.heap.size ≤ w2.heap.size := h2.size
  have hB2 : Below w.heap.size w w2 := hB1.trans (h2.mono (by omega))
  have f2_aWays := f1_aWays.below h2 (by omega)
  have f2__caWays := g1.below h2 (by omega)
  go_wp2_with fail
  refine (toInt64S_any _ _ _ f2_aWays (by omega)).mono ?_
  rintro e w3 ⟨u3, rfl, g3, h3⟩
  have hn3 : w2.heap.size ≤ w3.heap.size := h3.size
  have hB3 : Below w.heap.size w w3 := hB2.trans (h3.mono (by omega))
  have f3_aWays := f2_aWays.below h3 (by omega)
  have f3_w1 := g2a.below h3 (by omega)
  go_wp2_with fail
  refine (implRaisedBound_any w3 _ _ a1 g3.rd (by omega) hz0 k1).mono ?_
  rintro e w4 ⟨u4a, rfl, g4a, h4⟩
  have hn4 : w3.heap.size ≤ w4.heap.size := h4.size
  have hB4 : Below w.heap.size w w4 := hB3.trans (h4.mono (by omega))
  have f4_aWays := f3_aWays.below h4 (by omega)
  have f4_w1 := f3_w1.below h4 (by omega)
  have f4_x0 := g3.below h4 (by omega)
  go_wp2_with fail
  refine (eqInt64S_any _ _ _ _ _ g4a.rd f4_w1.rd ).mono ?_
  rintro e w5 ⟨rfl, h5⟩
  have hn5 : w4.heap.size ≤ w5.heap.size := by rw [h5.heap]; exact Nat.le_refl _
  have hB5 : Below w.heap.size w w5 := hB4.trans (h5.below _)
  have f5_aWays := f4_aWays.drew h5
  have f5_w1 := f4_w1.drew h5
  have f5_x0 := f4_x0.drew h5
  have f5_g1 := g4a.drew h5
  go_wp2_with fail
  refine (toInt64S_any _ _ _ f5_aWays (by omega)).mono ?_
  rintro e w6 ⟨u6, rfl, g6, h6⟩
  have hn6 : w5.heap.size ≤ w6.heap.size := h6.size
  have hB6 : Below w.heap.size w w6 := hB5.trans (h6.mono (by omega))
  have f6_aWays := f5_aWays.below h6 (by omega)
  have f6_w1 := f5_w1.below h6 (by omega)
  have f6_x0 := f5_x0.below h6 (by omega)
  have f6_g1 := f5_g1.below h6 (by omega)
  go_wp2_with fail
  refine (eqInt64S_any _ _ _ _ _ f6_x0.rd g6.rd ).mono ?_
  rintro e w7 ⟨rfl, h7⟩
  have hn7 : w6.heap.size ≤ w7.heap.size := by rw [h7.heap]; exact Nat.le_refl _
  have hB7 : Below w.heap.size w w7 := hB6.trans (h7.below _)
  have f7_aWays := f6_aWays.drew h7
  have f7_w1 := f6_w1.drew h7
  have f7_x0 := f6_x0.drew h7
  have f7_g1 := f6_g1.drew h7
  go_wp2_with fail
  have ln8 := f7_x0.len
  refine (markInt64S_any _ _ _ _ f7_x0 (by omega) (by omega)).mono ?_
  rintro e w8 ⟨rfl, g8, h8⟩
  have hn8 : w7.heap.size ≤ w8.heap.size := h8.size
  have hB8 : Below w.heap.size w w8 := hB7.trans (h8.below (by omega) (by omega))
  have f8_aWays := f7_aWays.same h8 (.inl (by omega))
  have f8_w1 := f7_w1.same h8 (.inl (by omega))
  have f8_g1 := f7_g1.same h8 (.inr (by omega))
  go_wp2_with fail
  refine (eqInt64S_any _ _ _ _ _ f8_g1.rd f8_w1.rd ).mono ?_
  rintro e w9 ⟨rfl, h9⟩
  have hn9 : w8.heap.size ≤ w9.heap.size := by rw [h9.heap]; exact Nat.le_refl _
  have hB9 : Below w.heap.size w w9 := hB8.trans (h9.below _)
  have f9_aWays := f8_aWays.drew h9
  have f9_w1 := f8_w1.drew h9
  have f9_g1 := f8_g1.drew h9
  go_wp2_with fail
  have ln10 := f9_g1.len
  refine (markInt64S_any _ _ _ _ f9_g1 (by omega) (by omega)).mono ?_
  rintro e w10 ⟨rfl, g10, h10⟩
  have hn10 : w9.heap.size ≤ w10.heap.size := h10.size
  have hB10 : Below w.heap.size w w10 := hB9.trans (h10.below (by omega) (by omega))
  have f10_aWays := f9_aWays.same h10 (.inl (by omega))
  have f10_w1 := f9_w1.same h10 (.inl (by omega))
  go_wp2_with fail
  refine (heldInt64S_any _ _ _ _ g10.rd (by omega) (by omega)).mono ?_
  rintro e w11 ⟨rfl, h11⟩
  have hn11 : w10.heap.size ≤ w11.heap.size := by rw [h11.heap]; exact Nat.le_refl _
  have hB11 : Below w.heap.size w w11 := hB10.trans (h11.below _)
  have f11_aWays := f10_aWays.drew h11
  have f11_w1 := f10_w1.drew h11
  have f11_g1 := g10.drew h11
  go_wp2_with fail
  refine (toInt64S_any _ _ _ f11_aWays (by omega)).mono ?_
  rintro e w12 ⟨u12, rfl, g12, h12⟩
  have hn12 : w11.heap.size ≤ w12.heap.size := h12.size
  have hB12 : Below w.heap.size w w12 := hB11.trans (h12.mono (by omega))
  have f12_aWays := f11_aWays.below h12 (by omega)
  have f12_w1 := f11_w1.below h12 (by omega)
  have f12_g1 := f11_g1.below h12 (by omega)
  go_wp2_with fail
  refine (implRaisedBound_any w12 _ _ a1 g12.rd (by omega) hz0 k1).mono ?_
  rintro e w13 ⟨u13a, rfl, g13a, h13⟩
  have hn13 : w12.heap.size ≤ w13.heap.size := h13.size
  have hB13 : Below w.heap.size w w13 := hB12.trans (h13.mono (by omega))
  have f13_w1 := f12_w1.below h13 (by omega)
  have f13_g1 := f12_g1.below h13 (by omega)
  have f13__caWays := g12.below h13 (by omega)
  go_wp2_with fail
  refine (eqInt64S_any _ _ _ _ _ g13a.rd f13_w1.rd ).mono ?_
  rintro e w14 ⟨rfl, h14⟩
  have hn14 : w13.heap.size ≤ w14.heap.size := by rw [h14.heap]; exact Nat.le_refl _
  have hB14 : Below w.heap.size w w14 := hB13.trans (h14.below _)
  have f14_w1 := f13_w1.drew h14
  have f14_g1 := f13_g1.drew h14
  have f14_h1 := g13a.drew h14
  go_wp2_with fail
  refine (heldInt64S_any _ _ _ _ f14_g1.rd (by omega) (by omega)).mono ?_
  rintro e w15 ⟨rfl, h15⟩
  have hn15 : w14.heap.size ≤ w15.heap.size := by rw [h15.heap]; exact Nat.le_refl _
  have hB15 : Below w.heap.size w w15 := hB14.trans (h15.below _)
  go_wp2_with fail
  go_ret
  exact ⟨rfl, hB15⟩

set_option maxRecDepth 100000 in
theorem FnExactRaisedBound_lifted (os : Os) (started : os.Started) (H : Type) (enc : TypeId × Value → H) :
    ReturnsInHanded {} Try.checked os 8 .any (Rows.fnExactRaisedBoundSpec.pre6 enc Try.prog Try.f8 Rows.fnExactRaisedBoundRow.domain false) (Rows.fnExactRaisedBoundSpec.post enc Try.prog Try.f8 false true false false) := by
  refine returnsInHanded_of_change (C := Try.checked) own_knob started (by kernel_rfl) Try.func8
    (ChangeSpec.witness6 (enc := enc) (C := Try.checked) false ⟨#[], #[.slice none 0 0, .int .i64 0], []⟩ 8 (by kernel_rfl) (by kernel_rfl) (by kernel_rfl) (by kernel_rfl)) ?_
  intro W base args ds gs before hval0 hW hcnd _
  have hval : ∀ (j : Nat) t v, Try.f8.params[j]? = some t → args[j]? = some v → Value.okWide Try.prog W .any base t v := hval0
  have hW' := hW
  obtain ⟨p, q, hA0, hV, rfl, hfz, hnd⟩ := hW
  have hA : DataW.TrodAll enc Try.prog W 0 (fun _ => true) true Try.f8.params.toList args.toList ds p := hA0
  rw [Try.params8] at hA hval
  obtain ⟨v0, vs0, d0, ds0, p0, q0, hargs, rfl, rfl, h0, r0⟩ := trodAll_cons hA
  obtain ⟨v1, vs1, d1, ds1, p1, q1, rfl, rfl, rfl, h1, r1⟩ := trodAll_cons r0
  obtain ⟨rfl, rfl, rfl⟩ := trodAll_nil r1
  obtain rfl : args = #[v0, v1] := by cases args; simp_all
  obtain ⟨rfl, rfl⟩ := trodVars_none hV
  have lt0 : ∀ x ∈ p0, x.block < W.heap.size := by obtain ⟨m, hm⟩ := h0; exact DataW.trod_lt m _ _ _ hm
  obtain ⟨z0, k0⟩ := open_I (hval 0 32 v0 rfl rfl) h0
  obtain ⟨a1, rfl, rfl, rfl, k1⟩ := open_int Try.underlying2 (hval 1 2 v1 rfl rfl) h1
  clear hA0 hval0
  refine (FnExactRaisedBound_walk W v0 z0 k0 a1 (I64_of_wf k1)).mono fun e W' ⟨he, bel⟩ => ?_
  subst he
  exact ⟨_, rfl, _, _, _, [], _, [], hW', trodAll_mk1 (shut_bool Try.underlying4 _), (trodAll_cons_mk (Below.trod laid_out (by kernel_rfl) (of_decide_eq_true (by kernel_rfl)) h0 bel lt0) (trodAll_cons_mk (shut_int Try.underlying2 k1) trodAll_mk0)), rfl, bel.frame _, fun h => by cases h⟩

theorem FnExactRaisedBound_over : Rows.fnExactRaisedBoundRow.holds Try.pinned (OpenSpec.ofChange Rows.fnExactRaisedBoundSpec) :=
  OpenClaim.holds_of_wide 8 Try.f8 rfl rfl rfl rfl rfl rfl rfl ⟨rfl, rfl, rfl, rfl, rfl⟩ rfl rfl rfl rfl rfl (by kernel_rfl) Try.func8 (by kernel_rfl)
    (of_decide_eq_true (by kernel_rfl)) (by unfold Func.isWrapper; first | (rw [if_pos (by decide +kernel)]; kernel_rfl) | (rw [if_neg (by decide +kernel)]; exact ⟨rfl, rfl⟩))
    (fun os started H enc _ => FnExactRaisedBound_lifted os started H enc)

/-- The statement. -/
theorem FnExactRaisedBound_proved : Rows.FnExactRaisedBoundSaid := FnExactRaisedBound_over

end Go.Proofs.Yteoikfddebbakaa
