/-
  The law FnExactLeastSpan returns true for all arguments, and writes nothing that was there.
  There are no conditions.
-/
import Derived.Test.YteoikfddebbakaaLspanS
import Derived.Test.YteoikfddebbakaaLspanI
import Derived.Test.YteoikfddebbakaaNum
import Derived.Test.YteoikfddebbakaaOpen
import Derived.Test.YteoikfddebbakaaOpenJ
namespace Go.Proofs.Yteoikfddebbakaa
open Go.ChangeShapes Go.WideShapes Go.ChangeAt Go.RowKit
set_option linter.unusedVariables false
set_option maxRecDepth 100000

set_option maxHeartbeats 2000000 in
set_option maxRecDepth 100000 in
theorem FnExactLeastSpan_walk (w : World) (v0 : Value) (z0 : List JobD) (k0 : Jobs w 0 w.heap.size v0 z0) (a1 : Int) (k1 : I64 a1) :
    Calls Try.prog 5 #[v0, .int .i64 a1] w fun e w' => e = .returned (.bool true) ∧ Below w.heap.size w w' := by
  have hB0 : Below w.heap.size w w := Below.refl _ _
  have hn0 : w.heap.size ≤ w.heap.size := Nat.le_refl _
  go_enter Try.func5, Try.ntmps5
  go_wp2_with fail
  refine (szJobS_any _ _ _ _ k0 (by omega) (by omega)).mono ?_
  rintro e w' ⟨n1, rfl, rfl, na1, nb1, nc1⟩
  by_cases hneg1 : n1 < 0
  · go_wp2
    go_ret
    exact ⟨rfl, hB0⟩
  have hz0 : z0.length ≤ 1048576 := by have := nc1 (by omega); omega
  go_wp2_with fail
  refine (toJobS_any _ _ _ k0 hz0 (by omega)).mono ?_
  rintro e w1 ⟨u1, rfl, g1, h1⟩
  have hn1 : w.heap.size ≤ w1.heap.size := h1.size
  have hB1 : Below w.heap.size w w1 := hB0.trans (h1.mono (by omega))
  have f1_aJobs := k0.below h1 (by omega)
  go_wp2_with fail
  refine (specLeastSpan_any w1 _ _ a1 g1.rd (by omega) hz0 k1).mono ?_
  rintro e w2 ⟨rfl, h2⟩
  have hn2 : w1.heap.size ≤ w2.heap.size := h2.size
  have hB2 : Below w.heap.size w w2 := hB1.trans (h2.mono (by omega))
  have f2_aJobs := f1_aJobs.below h2 (by omega)
  have f2__caJobs := g1.below h2 (by omega)
  go_wp2_with fail
  refine (toJobS_any _ _ _ f2_aJobs hz0 (by omega)).mono ?_
  rintro e w3 ⟨u3, rfl, g3, h3⟩
  have hn3 : w2.heap.size ≤ w3.heap.size := h3.size
  have hB3 : Below w.heap.size w w3 := hB2.trans (h3.mono (by omega))
  have f3_aJobs := f2_aJobs.below h3 (by omega)
  go_wp2_with fail
  refine (implLeastSpan_any w3 _ _ a1 g3.rd (by omega) hz0 k1).mono ?_
  rintro e w4 ⟨rfl, h4⟩
  have hn4 : w3.heap.size ≤ w4.heap.size := h4.size
  have hB4 : Below w.heap.size w w4 := hB3.trans (h4.mono (by omega))
  have f4_aJobs := f3_aJobs.below h4 (by omega)
  have f4_x0 := g3.below h4 (by omega)
  go_wp2_with fail
  refine (toJobS_any _ _ _ f4_aJobs hz0 (by omega)).mono ?_
  rintro e w5 ⟨u5, rfl, g5, h5⟩
  have hn5 : w4.heap.size ≤ w5.heap.size := h5.size
  have hB5 : Below w.heap.size w w5 := hB4.trans (h5.mono (by omega))
  have f5_aJobs := f4_aJobs.below h5 (by omega)
  have f5_x0 := f4_x0.below h5 (by omega)
  go_wp2_with fail
  refine (eqJobS_any _ _ _ _ _ f5_x0.rd g5.rd (by omega) (by omega)).mono ?_
  rintro e w6 ⟨rfl, h6⟩
  have hn6 : w5.heap.size ≤ w6.heap.size := h6.size
  have hB6 : Below w.heap.size w w6 := hB5.trans (h6.mono (by omega))
  go_wp2_with fail
  go_ret
  exact ⟨rfl, hB6⟩

set_option maxRecDepth 100000 in
theorem FnExactLeastSpan_lifted (os : Os) (started : os.Started) (H : Type) (enc : TypeId × Value → H) :
    ReturnsInHanded {} Try.checked os 5 .any (Rows.fnExactLeastSpanSpec.pre6 enc Try.prog Try.f5 Rows.fnExactLeastSpanRow.domain false) (Rows.fnExactLeastSpanSpec.post enc Try.prog Try.f5 false true false false) := by
  refine returnsInHanded_of_change (C := Try.checked) own_knob started (by kernel_rfl) Try.func5
    (ChangeSpec.witness6 (enc := enc) (C := Try.checked) false ⟨#[], #[.slice none 0 0, .int .i64 0], []⟩ 8 (by kernel_rfl) (by kernel_rfl) (by kernel_rfl) (by kernel_rfl)) ?_
  intro W base args ds gs before hval0 hW hcnd _
  have hval : ∀ (j : Nat) t v, Try.f5.params[j]? = some t → args[j]? = some v → Value.okWide Try.prog W .any base t v := hval0
  have hW' := hW
  obtain ⟨p, q, hA0, hV, rfl, hfz, hnd⟩ := hW
  have hA : DataW.TrodAll enc Try.prog W 0 (fun _ => true) true Try.f5.params.toList args.toList ds p := hA0
  rw [Try.params5] at hA hval
  obtain ⟨v0, vs0, d0, ds0, p0, q0, hargs, rfl, rfl, h0, r0⟩ := trodAll_cons hA
  obtain ⟨v1, vs1, d1, ds1, p1, q1, rfl, rfl, rfl, h1, r1⟩ := trodAll_cons r0
  obtain ⟨rfl, rfl, rfl⟩ := trodAll_nil r1
  obtain rfl : args = #[v0, v1] := by cases args; simp_all
  obtain ⟨rfl, rfl⟩ := trodVars_none hV
  have lt0 : ∀ x ∈ p0, x.block < W.heap.size := by obtain ⟨m, hm⟩ := h0; exact DataW.trod_lt m _ _ _ hm
  obtain ⟨z0, k0⟩ := open_J (hval 0 30 v0 rfl rfl) h0
  obtain ⟨a1, rfl, rfl, rfl, k1⟩ := open_int Try.underlying2 (hval 1 2 v1 rfl rfl) h1
  clear hA0 hval0
  refine (FnExactLeastSpan_walk W v0 z0 k0 a1 (I64_of_wf k1)).mono fun e W' ⟨he, bel⟩ => ?_
  subst he
  exact ⟨_, rfl, _, _, _, [], _, [], hW', trodAll_mk1 (shut_bool Try.underlying4 _), (trodAll_cons_mk (Below.trod laid_out (by kernel_rfl) (of_decide_eq_true (by kernel_rfl)) h0 bel lt0) (trodAll_cons_mk (shut_int Try.underlying2 k1) trodAll_mk0)), rfl, bel.frame _, fun h => by cases h⟩

theorem FnExactLeastSpan_over : Rows.fnExactLeastSpanRow.holds Try.pinned (OpenSpec.ofChange Rows.fnExactLeastSpanSpec) :=
  OpenClaim.holds_of_wide 5 Try.f5 rfl rfl rfl rfl rfl rfl rfl ⟨rfl, rfl, rfl, rfl, rfl⟩ rfl rfl rfl rfl rfl (by kernel_rfl) Try.func5 (by kernel_rfl)
    (of_decide_eq_true (by kernel_rfl)) (by unfold Func.isWrapper; first | (rw [if_pos (by decide +kernel)]; kernel_rfl) | (rw [if_neg (by decide +kernel)]; exact ⟨rfl, rfl⟩))
    (fun os started H enc _ => FnExactLeastSpan_lifted os started H enc)

/-- The statement. -/
theorem FnExactLeastSpan_proved : Rows.FnExactLeastSpanSaid := FnExactLeastSpan_over

end Go.Proofs.Yteoikfddebbakaa
