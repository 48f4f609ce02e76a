/-
  The law FnExactCountLate returns true for all arguments, and writes nothing that was there.
  There are no conditions.
-/
import Derived.Test.YtgbomnhidfejbaaOpen
import Derived.Test.YtgbomnhidfejbaaOpenJ
import Derived.Test.YtgbomnhidfejbaaJobB
namespace Go.Proofs.Ytgbomnhidfejbaa
open Go.ChangeShapes Go.WideShapes Go.ChangeAt Go.RowKit
set_option linter.unusedVariables false

set_option maxHeartbeats 4000000 in
set_option maxRecDepth 100000 in
theorem FnExactCountLate_walk (w : World) (v0 : Value) (z0 : List JobD) (k0 : Jobs w 0 w.heap.size v0 z0) (v1 : Value) (z1 : List Int) (k1 : Ints w 0 w.heap.size v1 z1) :
    Calls Try.prog 6 #[v0, v1] w fun e w' => e = .returned (.bool true) ∧ Below w.heap.size w w' := by
  obtain ⟨b1, c1, rfl, q1, r1, s1⟩ := k1.out
  clear q1 r1 s1
  by_cases hz1 : z1.length ≤ 1048576
  case neg =>
    go_enter Try.func6, Try.ntmps6
    go_wp2
    go_ret
    exact ⟨rfl, Below.refl _ _⟩
  have hB0 : Below w.heap.size w w := Below.refl _ _
  have hn0 : w.heap.size ≤ w.heap.size := Nat.le_refl _
  go_enter Try.func6, Try.ntmps6
  go_wp2_with fail
  refine (szJobS_any _ _ _ _ k0 (by omega) (by omega)).mono ?_
  rintro e w' ⟨n1, rfl, rfl, na1, nb1, nc1⟩
  by_cases hneg1 : n1 < 0
  · go_wp2
    go_ret
    exact ⟨rfl, hB0⟩
  have hz0 : z0.length ≤ 1048576 := by have := nc1 (by omega); omega
  go_wp2_with fail
  refine (toJobS_any _ _ _ k0 hz0 (by omega)).mono ?_
  rintro e w1 ⟨u1, rfl, g1, h1⟩
  have hn1 : w.heap.size ≤ w1.heap.size := h1.size
  have hB1 : Below w.heap.size w w1 := hB0.trans (h1.mono (by omega))
  have f1_aJobs := k0.below h1 (by omega)
  have f1_aOrder := k1.below h1 (by omega)
  go_wp2_with fail
  refine (toInt64S_any _ _ _ f1_aOrder (by omega)).mono ?_
  rintro e w2 ⟨u2, rfl, g2, h2⟩
  have hn2 : w1.heap.size ≤ w2.heap.size := h2.size
  have hB2 : Below w.heap.size w w2 := hB1.trans (h2.mono (by omega))
  have f2_aJobs := f1_aJobs.below h2 (by omega)
  have f2_aOrder := f1_aOrder.below h2 (by omega)
  have f2__caJobs := g1.below h2 (by omega)
  go_wp2_with fail
  refine (specCountLate_any w2 _ _ _ _ f2__caJobs.rd (by omega) hz0 g2.rd (by omega) hz1).mono ?_
  rintro e w3 ⟨rfl, h3⟩
  have hn3 : w2.heap.size ≤ w3.heap.size := h3.size
  have hB3 : Below w.heap.size w w3 := hB2.trans (h3.mono (by omega))
  have f3_aJobs := f2_aJobs.below h3 (by omega)
  have f3_aOrder := f2_aOrder.below h3 (by omega)
  have f3__caJobs := f2__caJobs.below h3 (by omega)
  have f3__caOrder := g2.below h3 (by omega)
  go_wp2_with fail
  refine (toJobS_any _ _ _ f3_aJobs hz0 (by omega)).mono ?_
  rintro e w4 ⟨u4, rfl, g4, h4⟩
  have hn4 : w3.heap.size ≤ w4.heap.size := h4.size
  have hB4 : Below w.heap.size w w4 := hB3.trans (h4.mono (by omega))
  have f4_aJobs := f3_aJobs.below h4 (by omega)
  have f4_aOrder := f3_aOrder.below h4 (by omega)
  go_wp2_with fail
  refine (toInt64S_any _ _ _ f4_aOrder (by omega)).mono ?_
  rintro e w5 ⟨u5, rfl, g5, h5⟩
  have hn5 : w4.heap.size ≤ w5.heap.size := h5.size
  have hB5 : Below w.heap.size w w5 := hB4.trans (h5.mono (by omega))
  have f5_aJobs := f4_aJobs.below h5 (by omega)
  have f5_aOrder := f4_aOrder.below h5 (by omega)
  have f5_x0 := g4.below h5 (by omega)
  go_wp2_with fail
  refine (implCountLate_any w5 _ _ _ _ f5_x0.rd (by omega) hz0 g5.rd (by omega) hz1).mono ?_
  rintro e w6 ⟨rfl, h6⟩
  have hn6 : w5.heap.size ≤ w6.heap.size := h6.size
  have hB6 : Below w.heap.size w w6 := hB5.trans (h6.mono (by omega))
  have f6_aJobs := f5_aJobs.below h6 (by omega)
  have f6_aOrder := f5_aOrder.below h6 (by omega)
  have f6_x0 := f5_x0.below h6 (by omega)
  have f6_x1 := g5.below h6 (by omega)
  go_wp2_with fail
  refine (toJobS_any _ _ _ f6_aJobs hz0 (by omega)).mono ?_
  rintro e w7 ⟨u7, rfl, g7, h7⟩
  have hn7 : w6.heap.size ≤ w7.heap.size := h7.size
  have hB7 : Below w.heap.size w w7 := hB6.trans (h7.mono (by omega))
  have f7_aJobs := f6_aJobs.below h7 (by omega)
  have f7_aOrder := f6_aOrder.below h7 (by omega)
  have f7_x0 := f6_x0.below h7 (by omega)
  have f7_x1 := f6_x1.below h7 (by omega)
  go_wp2_with fail
  refine (eqJobS_any _ _ _ _ _ f7_x0.rd g7.rd (by omega) (by omega)).mono ?_
  rintro e w8 ⟨rfl, h8⟩
  have hn8 : w7.heap.size ≤ w8.heap.size := h8.size
  have hB8 : Below w.heap.size w w8 := hB7.trans (h8.mono (by omega))
  have f8_aOrder := f7_aOrder.below h8 (by omega)
  have f8_x1 := f7_x1.below h8 (by omega)
  go_wp2_with fail
  refine (toInt64S_any _ _ _ f8_aOrder (by omega)).mono ?_
  rintro e w9 ⟨u9, rfl, g9, h9⟩
  have hn9 : w8.heap.size ≤ w9.heap.size := h9.size
  have hB9 : Below w.heap.size w w9 := hB8.trans (h9.mono (by omega))
  have f9_aOrder := f8_aOrder.below h9 (by omega)
  have f9_x1 := f8_x1.below h9 (by omega)
  go_wp2_with fail
  refine (eqInt64S_any _ _ _ _ _ f9_x1.rd g9.rd ).mono ?_
  rintro e w10 ⟨rfl, h10⟩
  have hn10 : w9.heap.size ≤ w10.heap.size := by rw [h10.heap]; exact Nat.le_refl _
  have hB10 : Below w.heap.size w w10 := hB9.trans (h10.below _)
  go_wp2_with fail
  go_ret
  exact ⟨rfl, hB10⟩

set_option maxRecDepth 100000 in
theorem FnExactCountLate_lifted (os : Os) (started : os.Started) (H : Type) (enc : TypeId × Value → H) :
    ReturnsInHanded {} Try.checked os 6 .any (Rows.fnExactCountLateSpec.pre6 enc Try.prog Try.f6 Rows.fnExactCountLateRow.domain false) (Rows.fnExactCountLateSpec.post enc Try.prog Try.f6 false true false false) := by
  refine returnsInHanded_of_change (C := Try.checked) own_knob started (by kernel_rfl) Try.func6
    (ChangeSpec.witness6 (enc := enc) (C := Try.checked) false ⟨#[], #[.slice none 0 0, .slice none 0 0], []⟩ 8 (by kernel_rfl) (by kernel_rfl) (by kernel_rfl) (by kernel_rfl)) ?_
  intro W base args ds gs before hval0 hW hcnd _
  have hval : ∀ (j : Nat) t v, Try.f6.params[j]? = some t → args[j]? = some v → Value.okWide Try.prog W .any base t v := hval0
  have hW' := hW
  obtain ⟨p, q, hA0, hV, rfl, hfz, hnd⟩ := hW
  have hA : DataW.TrodAll enc Try.prog W 0 (fun _ => true) true Try.f6.params.toList args.toList ds p := hA0
  rw [Try.params6] at hA hval
  obtain ⟨v0, vs0, d0, ds0, p0, q0, hargs, rfl, rfl, h0, r0⟩ := trodAll_cons hA
  obtain ⟨v1, vs1, d1, ds1, p1, q1, rfl, rfl, rfl, h1, r1⟩ := trodAll_cons r0
  obtain ⟨rfl, rfl, rfl⟩ := trodAll_nil r1
  obtain rfl : args = #[v0, v1] := by cases args; simp_all
  obtain ⟨rfl, rfl⟩ := trodVars_none hV
  have lt0 : ∀ x ∈ p0, x.block < W.heap.size := by obtain ⟨m, hm⟩ := h0; exact DataW.trod_lt m _ _ _ hm
  obtain ⟨z0, k0⟩ := open_J (hval 0 22 v0 rfl rfl) h0
  have lt1 : ∀ x ∈ p1, x.block < W.heap.size := by obtain ⟨m, hm⟩ := h1; exact DataW.trod_lt m _ _ _ hm
  obtain ⟨z1, k1⟩ := open_I (hval 1 30 v1 rfl rfl) h1
  clear hA0 hval0
  refine (FnExactCountLate_walk W v0 z0 k0 v1 z1 k1).mono fun e W' ⟨he, bel⟩ => ?_
  subst he
  exact ⟨_, rfl, _, _, _, [], _, [], hW', trodAll_mk1 (shut_bool Try.underlying4 _), (trodAll_cons_mk (Below.trod laid_out (by kernel_rfl) (of_decide_eq_true (by kernel_rfl)) h0 bel lt0) (trodAll_cons_mk (Below.trod laid_out (by kernel_rfl) (of_decide_eq_true (by kernel_rfl)) h1 bel lt1) trodAll_mk0)), rfl, bel.frame _, fun h => by cases h⟩

theorem FnExactCountLate_over : Rows.fnExactCountLateRow.holds Try.pinned (OpenSpec.ofChange Rows.fnExactCountLateSpec) :=
  OpenClaim.holds_of_wide 6 Try.f6 rfl rfl rfl rfl rfl rfl rfl ⟨rfl, rfl, rfl, rfl, rfl⟩ rfl rfl rfl rfl rfl (by kernel_rfl) Try.func6 (by kernel_rfl)
    (of_decide_eq_true (by kernel_rfl)) (by unfold Func.isWrapper; first | (rw [if_pos (by decide +kernel)]; kernel_rfl) | (rw [if_neg (by decide +kernel)]; exact ⟨rfl, rfl⟩))
    (fun os started H enc _ => FnExactCountLate_lifted os started H enc)

/-- The statement. -/
theorem FnExactCountLate_proved : Rows.FnExactCountLateSaid := FnExactCountLate_over

end Go.Proofs.Ytgbomnhidfejbaa
