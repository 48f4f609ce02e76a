/-
  The law FnExactTourBound returns true for all arguments, and writes nothing that was there.
  There are no conditions.
-/
import Derived.Test.YteoikfddebbakaaBoundS
import Derived.Test.YteoikfddebbakaaMarkI
import Derived.Test.YteoikfddebbakaaOpen
namespace Go.Proofs.Yteoikfddebbakaa
open Go.ChangeShapes Go.WideShapes Go.ChangeAt Go.RowKit
set_option linter.unusedVariables false
set_option maxRecDepth 100000

set_option maxHeartbeats 2000000 in
set_option maxRecDepth 100000 in
theorem FnExactTourBound_walk (w : World) (v0 : Value) (z0 : List Int) (k0 : Ints w 0 w.heap.size v0 z0) :
    Calls Try.prog 7 #[v0] w fun e w' => e = .returned (.bool true) ∧ Below w.heap.size w w' := by
  obtain ⟨b0, c0, rfl, q0, r0, s0⟩ := k0.out
  clear q0 r0 s0
  by_cases hz0 : z0.length ≤ 1048576
  case neg =>
    go_enter Try.func7, Try.ntmps7
    go_wp2
    go_ret
    exact ⟨rfl, Below.refl _ _⟩
  have hB0 : Below w.heap.size w w := Below.refl _ _
  have hn0 : w.heap.size ≤ w.heap.size := Nat.le_refl _
  go_enter Try.func7, Try.ntmps7
  go_wp2_with fail
  refine (toInt64S_any _ _ _ k0 (by omega)).mono ?_
  rintro e w1 ⟨u1, rfl, g1, h1⟩
  have hn1 : w.heap.size ≤ w1.heap.size := h1.size
  have hB1 : Below w.heap.size w w1 := hB0.trans (h1.mono (by omega))
  have f1_aWays := k0.below h1 (by omega)
  go_wp2_with fail
  refine (specTourBound_any w1 _ _ g1.rd (by omega) hz0).mono ?_
  rintro e w2 ⟨rfl, h2⟩
  have hn2 : w1.heap.size ≤ w2.heap.size := h2.size
  have hB2 : Below w.heap.size w w2 := hB1.trans (h2.mono (by omega))
  have f2_aWays := f1_aWays.below h2 (by omega)
  have f2__caWays := g1.below h2 (by omega)
  go_wp2_with fail
  refine (toInt64S_any _ _ _ f2_aWays (by omega)).mono ?_
  rintro e w3 ⟨u3, rfl, g3, h3⟩
  have hn3 : w2.heap.size ≤ w3.heap.size := h3.size
  have hB3 : Below w.heap.size w w3 := hB2.trans (h3.mono (by omega))
  have f3_aWays := f2_aWays.below h3 (by omega)
  go_wp2_with fail
  refine (implTourBound_any w3 _ _ g3.rd (by omega) hz0).mono ?_
  rintro e w4 ⟨rfl, h4⟩
  have hn4 : w3.heap.size ≤ w4.heap.size := h4.size
  have hB4 : Below w.heap.size w w4 := hB3.trans (h4.mono (by omega))
  have f4_aWays := f3_aWays.below h4 (by omega)
  have f4_x0 := g3.below h4 (by omega)
  go_wp2_with fail
  refine (toInt64S_any _ _ _ f4_aWays (by omega)).mono ?_
  rintro e w5 ⟨u5, rfl, g5, h5⟩
  have hn5 : w4.heap.size ≤ w5.heap.size := h5.size
  have hB5 : Below w.heap.size w w5 := hB4.trans (h5.mono (by omega))
  have f5_aWays := f4_aWays.below h5 (by omega)
  have f5_x0 := f4_x0.below h5 (by omega)
  go_wp2_with fail
  refine (eqInt64S_any _ _ _ _ _ f5_x0.rd g5.rd ).mono ?_
  rintro e w6 ⟨rfl, h6⟩
  have hn6 : w5.heap.size ≤ w6.heap.size := by rw [h6.heap]; exact Nat.le_refl _
  have hB6 : Below w.heap.size w w6 := hB5.trans (h6.below _)
  go_wp2_with fail
  go_ret
  exact ⟨rfl, hB6⟩

set_option maxRecDepth 100000 in
theorem FnExactTourBound_lifted (os : Os) (started : os.Started) (H : Type) (enc : TypeId × Value → H) :
    ReturnsInHanded {} Try.checked os 7 .any (Rows.fnExactTourBoundSpec.pre6 enc Try.prog Try.f7 Rows.fnExactTourBoundRow.domain false) (Rows.fnExactTourBoundSpec.post enc Try.prog Try.f7 false true false false) := by
  refine returnsInHanded_of_change (C := Try.checked) own_knob started (by kernel_rfl) Try.func7
    (ChangeSpec.witness6 (enc := enc) (C := Try.checked) false ⟨#[], #[.slice none 0 0], []⟩ 8 (by kernel_rfl) (by kernel_rfl) (by kernel_rfl) (by kernel_rfl)) ?_
  intro W base args ds gs before hval0 hW hcnd _
  have hval : ∀ (j : Nat) t v, Try.f7.params[j]? = some t → args[j]? = some v → Value.okWide Try.prog W .any base t v := hval0
  have hW' := hW
  obtain ⟨p, q, hA0, hV, rfl, hfz, hnd⟩ := hW
  have hA : DataW.TrodAll enc Try.prog W 0 (fun _ => true) true Try.f7.params.toList args.toList ds p := hA0
  rw [Try.params7] at hA hval
  obtain ⟨v0, vs0, d0, ds0, p0, q0, hargs, rfl, rfl, h0, r0⟩ := trodAll_cons hA
  obtain ⟨rfl, rfl, rfl⟩ := trodAll_nil r0
  obtain rfl : args = #[v0] := by cases args; simp_all
  obtain ⟨rfl, rfl⟩ := trodVars_none hV
  have lt0 : ∀ x ∈ p0, x.block < W.heap.size := by obtain ⟨m, hm⟩ := h0; exact DataW.trod_lt m _ _ _ hm
  obtain ⟨z0, k0⟩ := open_I (hval 0 32 v0 rfl rfl) h0
  clear hA0 hval0
  refine (FnExactTourBound_walk W v0 z0 k0).mono fun e W' ⟨he, bel⟩ => ?_
  subst he
  exact ⟨_, rfl, _, _, _, [], _, [], hW', trodAll_mk1 (shut_bool Try.underlying4 _), (trodAll_cons_mk (Below.trod laid_out (by kernel_rfl) (of_decide_eq_true (by kernel_rfl)) h0 bel lt0) trodAll_mk0), rfl, bel.frame _, fun h => by cases h⟩

theorem FnExactTourBound_over : Rows.fnExactTourBoundRow.holds Try.pinned (OpenSpec.ofChange Rows.fnExactTourBoundSpec) :=
  OpenClaim.holds_of_wide 7 Try.f7 rfl rfl rfl rfl rfl rfl rfl ⟨rfl, rfl, rfl, rfl, rfl⟩ rfl rfl rfl rfl rfl (by kernel_rfl) Try.func7 (by kernel_rfl)
    (of_decide_eq_true (by kernel_rfl)) (by unfold Func.isWrapper; first | (rw [if_pos (by decide +kernel)]; kernel_rfl) | (rw [if_neg (by decide +kernel)]; exact ⟨rfl, rfl⟩))
    (fun os started H enc _ => FnExactTourBound_lifted os started H enc)

/-- The statement. -/
theorem FnExactTourBound_proved : Rows.FnExactTourBoundSaid := FnExactTourBound_over

end Go.Proofs.Yteoikfddebbakaa
