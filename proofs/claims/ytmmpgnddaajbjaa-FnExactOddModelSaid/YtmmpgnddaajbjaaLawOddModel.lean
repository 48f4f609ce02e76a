/-
  The law FnExactOddModel returns true for all arguments, and writes nothing that was there.
  There are no conditions.
-/
import Derived.Test.YtmmpgnddaajbjaaOdd
import Derived.Test.YtmmpgnddaajbjaaMarkB
import Derived.Test.YtmmpgnddaajbjaaMarkI
import Derived.Test.YtmmpgnddaajbjaaIntss
import Derived.Test.YtmmpgnddaajbjaaOpen
import Derived.Test.YtmmpgnddaajbjaaOpenB
import Derived.Test.YtmmpgnddaajbjaaOpenF
namespace Go.Proofs.Ytmmpgnddaajbjaa
open Go.ChangeShapes Go.WideShapes Go.ChangeAt Go.RowKit
set_option linter.unusedVariables false

set_option maxHeartbeats 2000000 in
set_option maxRecDepth 100000 in
theorem FnExactOddModel_walk (w : World) (a0 : Int) (k0 : I64 a0) (v1 : Value) (z1 : List (List Int)) (k1 : Intss w 0 w.heap.size v1 z1) (v2 : Value) (z2 : List Bool) (k2 : Bools w 0 w.heap.size v2 z2) :
    Calls Try.prog 6 #[.int .i64 a0, v1, v2] w fun e w' => e = .returned (.bool true) ∧ Below w.heap.size w w' := by
  obtain ⟨b2, c2, rfl, q2, r2, s2⟩ := k2.out
  clear q2 r2 s2
  by_cases hz2 : z2.length ≤ 1048576
  case neg =>
    go_enter Try.func6, Try.ntmps6
    go_wp2
    go_ret
    exact ⟨rfl, Below.refl _ _⟩
  have hB0 : Below w.heap.size w w := Below.refl _ _
  have hn0 : w.heap.size ≤ w.heap.size := Nat.le_refl _
  go_enter Try.func6, Try.ntmps6
  go_wp2_with fail
  refine (szInt64SS_any _ _ (1048576) w k1 (by omega) (by omega) (by omega)).mono ?_
  rintro e w1 ⟨n1, rfl, h1, na1, nb1, nc1⟩
  have hn1 : w.heap.size ≤ w1.heap.size := h1.size
  have hB1 : Below w.heap.size w w1 := hB0.trans (h1.mono (by omega))
  have f1_aRows := k1.below h1 (by omega)
  have f1_aOdd := k2.below h1 (by omega)
  by_cases hneg1 : n1 < 0
  · go_wp2
    go_ret
    exact ⟨rfl, hB1⟩
  have hz1 := nc1 (by omega)
  go_wp2_with fail
  refine (toInt64SS_any _ _ _ f1_aRows hz1 (by omega)).mono ?_
  rintro e w2 ⟨u2, rfl, g2, h2⟩
  have hn2 : w1.heap.size ≤ w2.heap.size := h2.size
  have hB2 : Below w.heap.size w w2 := hB1.trans (h2.mono (by omega))
  have f2_aRows := f1_aRows.below h2 (by omega)
  have f2_aOdd := f1_aOdd.below h2 (by omega)
  go_wp2_with fail
  refine (toBoolS_any _ _ _ f2_aOdd (by omega)).mono ?_
  rintro e w3 ⟨u3, rfl, g3, h3⟩
  have hn3 : w2.heap.size ≤ w3.heap.size := h3.size
  have hB3 : Below w.heap.size w w3 := hB2.trans (h3.mono (by omega))
  have f3_aRows := f2_aRows.below h3 (by omega)
  have f3_aOdd := f2_aOdd.below h3 (by omega)
  have f3__caRows := g2.below h3 (by omega)
  go_wp2_with fail
  refine (specOddModel_any w3 a0 _ _ _ _ k0 f3__caRows.rd (by omega) hz1 g3.rd (by omega) hz2).mono ?_
  rintro e w4 ⟨u4a, rfl, g4a, h4⟩
  have hn4 : w3.heap.size ≤ w4.heap.size := h4.size
  have hB4 : Below w.heap.size w w4 := hB3.trans (h4.mono (by omega))
  have f4_aRows := f3_aRows.below h4 (by omega)
  have f4_aOdd := f3_aOdd.below h4 (by omega)
  have f4__caRows := f3__caRows.below h4 (by omega)
  have f4__caOdd := g3.below h4 (by omega)
  go_wp2_with fail
  refine (toInt64SS_any _ _ _ f4_aRows hz1 (by omega)).mono ?_
  rintro e w5 ⟨u5, rfl, g5, h5⟩
  have hn5 : w4.heap.size ≤ w5.heap.size := h5.size
  have hB5 : Below w.heap.size w w5 := hB4.trans (h5.mono (by omega))
  have f5_aRows := f4_aRows.below h5 (by omega)
  have f5_aOdd := f4_aOdd.below h5 (by omega)
  have f5_w0 := g4a.below h5 (by omega)
  go_wp2_with fail
  refine (toBoolS_any _ _ _ f5_aOdd (by omega)).mono ?_
  rintro e w6 ⟨u6, rfl, g6, h6⟩
  have hn6 : w5.heap.size ≤ w6.heap.size := h6.size
  have hB6 : Below w.heap.size w w6 := hB5.trans (h6.mono (by omega))
  have f6_aRows := f5_aRows.below h6 (by omega)
  have f6_aOdd := f5_aOdd.below h6 (by omega)
  have f6_w0 := f5_w0.below h6 (by omega)
  have f6_x1 := g5.below h6 (by omega)
  go_wp2_with fail
  refine (implOddModel_any w6 a0 _ _ _ _ k0 f6_x1.rd (by omega) hz1 g6.rd (by omega) hz2).mono ?_
  rintro e w7 ⟨u7a, rfl, g7a, h7⟩
  have hn7 : w6.heap.size ≤ w7.heap.size := h7.size
  have hB7 : Below w.heap.size w w7 := hB6.trans (h7.mono (by omega))
  have f7_aRows := f6_aRows.below h7 (by omega)
  have f7_aOdd := f6_aOdd.below h7 (by omega)
  have f7_w0 := f6_w0.below h7 (by omega)
  have f7_x1 := f6_x1.below h7 (by omega)
  have f7_x2 := g6.below h7 (by omega)
  go_wp2_with fail
  refine (eqBoolS_any _ _ _ _ _ g7a.rd f7_w0.rd ).mono ?_
  rintro e w8 ⟨rfl, h8⟩
  have hn8 : w7.heap.size ≤ w8.heap.size := by rw [h8.heap]; exact Nat.le_refl _
  have hB8 : Below w.heap.size w w8 := hB7.trans (h8.below _)
  have f8_aRows := f7_aRows.drew h8
  have f8_aOdd := f7_aOdd.drew h8
  have f8_w0 := f7_w0.drew h8
  have f8_x1 := f7_x1.drew h8
  have f8_x2 := f7_x2.drew h8
  have f8_g0 := g7a.drew h8
  go_wp2_with fail
  refine (toInt64SS_any _ _ _ f8_aRows hz1 (by omega)).mono ?_
  rintro e w9 ⟨u9, rfl, g9, h9⟩
  have hn9 : w8.heap.size ≤ w9.heap.size := h9.size
  have hB9 : Below w.heap.size w w9 := hB8.trans (h9.mono (by omega))
  have f9_aRows := f8_aRows.below h9 (by omega)
  have f9_aOdd := f8_aOdd.below h9 (by omega)
  have f9_w0 := f8_w0.below h9 (by omega)
  have f9_x1 := f8_x1.below h9 (by omega)
  have f9_x2 := f8_x2.below h9 (by omega)
  have f9_g0 := f8_g0.below h9 (by omega)
  go_wp2_with fail
  refine (eqInt64SS_any _ _ _ _ _ f9_x1.rd g9.rd (by omega) (by omega)).mono ?_
  rintro e w10 ⟨rfl, h10⟩
  have hn10 : w9.heap.size ≤ w10.heap.size := h10.size
  have hB10 : Below w.heap.size w w10 := hB9.trans (h10.mono (by omega))
  have f10_aRows := f9_aRows.below h10 (by omega)
  have f10_aOdd := f9_aOdd.below h10 (by omega)
  have f10_w0 := f9_w0.below h10 (by omega)
  have f10_x1 := f9_x1.below h10 (by omega)
  have f10_x2 := f9_x2.below h10 (by omega)
  have f10_g0 := f9_g0.below h10 (by omega)
  go_wp2_with fail
  refine (toBoolS_any _ _ _ f10_aOdd (by omega)).mono ?_
  rintro e w11 ⟨u11, rfl, g11, h11⟩
  have hn11 : w10.heap.size ≤ w11.heap.size := h11.size
  have hB11 : Below w.heap.size w w11 := hB10.trans (h11.mono (by omega))
  have f11_aRows := f10_aRows.below h11 (by omega)
  have f11_aOdd := f10_aOdd.below h11 (by omega)
  have f11_w0 := f10_w0.below h11 (by omega)
  have f11_x1 := f10_x1.below h11 (by omega)
  have f11_x2 := f10_x2.below h11 (by omega)
  have f11_g0 := f10_g0.below h11 (by omega)
  go_wp2_with fail
  refine (eqBoolS_any _ _ _ _ _ f11_x2.rd g11.rd ).mono ?_
  rintro e w12 ⟨rfl, h12⟩
  have hn12 : w11.heap.size ≤ w12.heap.size := by rw [h12.heap]; exact Nat.le_refl _
  have hB12 : Below w.heap.size w w12 := hB11.trans (h12.below _)
  have f12_aRows := f11_aRows.drew h12
  have f12_aOdd := f11_aOdd.drew h12
  have f12_w0 := f11_w0.drew h12
  have f12_x1 := f11_x1.drew h12
  have f12_x2 := f11_x2.drew h12
  have f12_g0 := f11_g0.drew h12
  go_wp2_with fail
  have ln13 := f12_x1.len
  refine (markInt64SS_any _ _ _ _ f12_x1 (by omega) (by have := hz1.2; omega)).mono ?_
  rintro e w13 ⟨rfl, g13, h13⟩
  have hn13 : w12.heap.size ≤ w13.heap.size := h13.size
  have hB13 : Below w.heap.size w w13 := hB12.trans (h13.below (by omega) (by omega))
  have f13_aRows := f12_aRows.same h13 (.inl (by omega))
  have f13_aOdd := f12_aOdd.same h13 (.inl (by omega))
  have f13_w0 := f12_w0.same h13 (.inl (by omega))
  have f13_x2 := f12_x2.same h13 (.inr (by omega))
  have f13_g0 := f12_g0.same h13 (.inr (by omega))
  go_wp2_with fail
  have ln14 := f13_x2.len
  refine (markBoolS_any _ _ _ _ f13_x2 (by omega) (by omega)).mono ?_
  rintro e w14 ⟨rfl, g14, h14⟩
  have hn14 : w13.heap.size ≤ w14.heap.size := h14.size
  have hB14 : Below w.heap.size w w14 := hB13.trans (h14.below (by omega) (by omega))
  have f14_aRows := f13_aRows.same h14 (.inl (by omega))
  have f14_aOdd := f13_aOdd.same h14 (.inl (by omega))
  have f14_w0 := f13_w0.same h14 (.inl (by omega))
  have f14_g0 := f13_g0.same h14 (.inr (by omega))
  go_wp2_with fail
  refine (eqBoolS_any _ _ _ _ _ f14_g0.rd f14_w0.rd ).mono ?_
  rintro e w15 ⟨rfl, h15⟩
  have hn15 : w14.heap.size ≤ w15.heap.size := by rw [h15.heap]; exact Nat.le_refl _
  have hB15 : Below w.heap.size w w15 := hB14.trans (h15.below _)
  have f15_aRows := f14_aRows.drew h15
  have f15_aOdd := f14_aOdd.drew h15
  have f15_w0 := f14_w0.drew h15
  have f15_g0 := f14_g0.drew h15
  go_wp2_with fail
  have ln16 := f15_g0.len
  refine (markBoolS_any _ _ _ _ f15_g0 (by omega) (by omega)).mono ?_
  rintro e w16 ⟨rfl, g16, h16⟩
  have hn16 : w15.heap.size ≤ w16.heap.size := h16.size
  have hB16 : Below w.heap.size w w16 := hB15.trans (h16.below (by omega) (by omega))
  have f16_aRows := f15_aRows.same h16 (.inl (by omega))
  have f16_aOdd := f15_aOdd.same h16 (.inl (by omega))
  have f16_w0 := f15_w0.same h16 (.inl (by omega))
  go_wp2_with fail
  refine (heldBoolS_any _ _ _ _ g16.rd (by omega) (by omega)).mono ?_
  rintro e w17 ⟨rfl, h17⟩
  have hn17 : w16.heap.size ≤ w17.heap.size := by rw [h17.heap]; exact Nat.le_refl _
  have hB17 : Below w.heap.size w w17 := hB16.trans (h17.below _)
  have f17_aRows := f16_aRows.drew h17
  have f17_aOdd := f16_aOdd.drew h17
  have f17_w0 := f16_w0.drew h17
  have f17_g0 := g16.drew h17
  go_wp2_with fail
  refine (toInt64SS_any _ _ _ f17_aRows hz1 (by omega)).mono ?_
  rintro e w18 ⟨u18, rfl, g18, h18⟩
  have hn18 : w17.heap.size ≤ w18.heap.size := h18.size
  have hB18 : Below w.heap.size w w18 := hB17.trans (h18.mono (by omega))
  have f18_aRows := f17_aRows.below h18 (by omega)
  have f18_aOdd := f17_aOdd.below h18 (by omega)
  have f18_w0 := f17_w0.below h18 (by omega)
  have f18_g0 := f17_g0.below h18 (by omega)
  go_wp2_with fail
  refine (toBoolS_any _ _ _ f18_aOdd (by omega)).mono ?_
  rintro e w19 ⟨u19, rfl, g19, h19⟩
  have hn19 : w18.heap.size ≤ w19.heap.size := h19.size
  have hB19 : Below w.heap.size w w19 := hB18.trans (h19.mono (by omega))
  have f19_aRows := f18_aRows.below h19 (by omega)
  have f19_aOdd := f18_aOdd.below h19 (by omega)
  have f19_w0 := f18_w0.below h19 (by omega)
  have f19_g0 := f18_g0.below h19 (by omega)
  have f19__caRows := g18.below h19 (by omega)
  go_wp2_with fail
  refine (implOddModel_any w19 a0 _ _ _ _ k0 f19__caRows.rd (by omega) hz1 g19.rd (by omega) hz2).mono ?_
  rintro e w20 ⟨u20a, rfl, g20a, h20⟩
  have hn20 : w19.heap.size ≤ w20.heap.size := h20.size
  have hB20 : Below w.heap.size w w20 := hB19.trans (h20.mono (by omega))
  have f20_w0 := f19_w0.below h20 (by omega)
  have f20_g0 := f19_g0.below h20 (by omega)
  have f20__caRows := f19__caRows.below h20 (by omega)
  have f20__caOdd := g19.below h20 (by omega)
  go_wp2_with fail
  refine (eqBoolS_any _ _ _ _ _ g20a.rd f20_w0.rd ).mono ?_
  rintro e w21 ⟨rfl, h21⟩
  have hn21 : w20.heap.size ≤ w21.heap.size := by rw [h21.heap]; exact Nat.le_refl _
  have hB21 : Below w.heap.size w w21 := hB20.trans (h21.below _)
  have f21_w0 := f20_w0.drew h21
  have f21_g0 := f20_g0.drew h21
  have f21_h0 := g20a.drew h21
  go_wp2_with fail
  refine (heldBoolS_any _ _ _ _ f21_g0.rd (by omega) (by omega)).mono ?_
  rintro e w22 ⟨rfl, h22⟩
  have hn22 : w21.heap.size ≤ w22.heap.size := by rw [h22.heap]; exact Nat.le_refl _
  have hB22 : Below w.heap.size w w22 := hB21.trans (h22.below _)
  go_wp2_with fail
  go_ret
  exact ⟨rfl, hB22⟩

set_option maxRecDepth 100000 in
theorem FnExactOddModel_lifted (os : Os) (started : os.Started) (H : Type) (enc : TypeId × Value → H) :
    ReturnsInHanded {} Try.checked os 6 .any (Rows.fnExactOddModelSpec.pre6 enc Try.prog Try.f6 Rows.fnExactOddModelRow.domain false) (Rows.fnExactOddModelSpec.post enc Try.prog Try.f6 false true false false) := by
  refine returnsInHanded_of_change (C := Try.checked) own_knob started (by kernel_rfl) Try.func6
    (ChangeSpec.witness6 (enc := enc) (C := Try.checked) false ⟨#[], #[.int .i64 0, .slice none 0 0, .slice none 0 0], []⟩ 8 (by kernel_rfl) (by kernel_rfl) (by kernel_rfl) (by kernel_rfl)) ?_
  intro W base args ds gs before hval0 hW hcnd _
  have hval : ∀ (j : Nat) t v, Try.f6.params[j]? = some t → args[j]? = some v → Value.okWide Try.prog W .any base t v := hval0
  have hW' := hW
  obtain ⟨p, q, hA0, hV, rfl, hfz, hnd⟩ := hW
  have hA : DataW.TrodAll enc Try.prog W 0 (fun _ => true) true Try.f6.params.toList args.toList ds p := hA0
  rw [Try.params6] at hA hval
  obtain ⟨v0, vs0, d0, ds0, p0, q0, hargs, rfl, rfl, h0, r0⟩ := trodAll_cons hA
  obtain ⟨v1, vs1, d1, ds1, p1, q1, rfl, rfl, rfl, h1, r1⟩ := trodAll_cons r0
  obtain ⟨v2, vs2, d2, ds2, p2, q2, rfl, rfl, rfl, h2, r2⟩ := trodAll_cons r1
  obtain ⟨rfl, rfl, rfl⟩ := trodAll_nil r2
  obtain rfl : args = #[v0, v1, v2] := by cases args; simp_all
  obtain ⟨rfl, rfl⟩ := trodVars_none hV
  obtain ⟨a0, rfl, rfl, rfl, k0⟩ := open_int Try.underlying2 (hval 0 2 v0 rfl rfl) h0
  have lt1 : ∀ x ∈ p1, x.block < W.heap.size := by obtain ⟨m, hm⟩ := h1; exact DataW.trod_lt m _ _ _ hm
  obtain ⟨z1, k1⟩ := open_II (hval 1 22 v1 rfl rfl) h1
  have lt2 : ∀ x ∈ p2, x.block < W.heap.size := by obtain ⟨m, hm⟩ := h2; exact DataW.trod_lt m _ _ _ hm
  obtain ⟨z2, k2⟩ := open_B (hval 2 36 v2 rfl rfl) h2
  clear hA0 hval0
  refine (FnExactOddModel_walk W a0 (I64_of_wf k0) v1 z1 k1 v2 z2 k2).mono fun e W' ⟨he, bel⟩ => ?_
  subst he
  exact ⟨_, rfl, _, _, _, [], _, [], hW', trodAll_mk1 (shut_bool Try.underlying4 _), (trodAll_cons_mk (shut_int Try.underlying2 k0) (trodAll_cons_mk (Below.trod laid_out (by kernel_rfl) (of_decide_eq_true (by kernel_rfl)) h1 bel lt1) (trodAll_cons_mk (Below.trod laid_out (by kernel_rfl) (of_decide_eq_true (by kernel_rfl)) h2 bel lt2) trodAll_mk0))), rfl, bel.frame _, fun h => by cases h⟩

theorem FnExactOddModel_over : Rows.fnExactOddModelRow.holds Try.pinned (OpenSpec.ofChange Rows.fnExactOddModelSpec) :=
  OpenClaim.holds_of_wide 6 Try.f6 rfl rfl rfl rfl rfl rfl rfl ⟨rfl, rfl, rfl, rfl, rfl⟩ rfl rfl rfl rfl rfl (by kernel_rfl) Try.func6 (by kernel_rfl)
    (of_decide_eq_true (by kernel_rfl)) (by unfold Func.isWrapper; first | (rw [if_pos (by decide +kernel)]; kernel_rfl) | (rw [if_neg (by decide +kernel)]; exact ⟨rfl, rfl⟩))
    (fun os started H enc _ => FnExactOddModel_lifted os started H enc)

/-- The statement. -/
theorem FnExactOddModel_proved : Rows.FnExactOddModelSaid := FnExactOddModel_over

end Go.Proofs.Ytmmpgnddaajbjaa
