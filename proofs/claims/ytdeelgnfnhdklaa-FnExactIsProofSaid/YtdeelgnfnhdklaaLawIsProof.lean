/-
  The law FnExactIsProof returns true for all arguments, and writes nothing that was there.
  There are no conditions.
-/
import Derived.Test.YtdeelgnfnhdklaaProof
import Derived.Test.YtdeelgnfnhdklaaMarkI
import Derived.Test.YtdeelgnfnhdklaaOpenF
import Derived.Test.YtdeelgnfnhdklaaOpen
import Derived.Deep.RegionHeld3
namespace Go.Proofs.Ytdeelgnfnhdklaa
open Go.ChangeShapes Go.WideShapes Go.ChangeAt Go.RowKit
set_option linter.unusedVariables false

set_option maxHeartbeats 2000000 in
set_option maxRecDepth 100000 in
theorem FnExactIsProof_walk (w : World) (v0 : Value) (z0 : FormD) (k0 : FormR w 0 w.heap.size v0 z0) (v1 : Value) (z1 : List (List Int)) (k1 : Intss w 0 w.heap.size v1 z1) :
    Calls Try.prog 5 #[v0, v1] w fun e w' => e = .returned (.bool true) ∧ Below w.heap.size w w' := by
  obtain ⟨x0, rfl, y0⟩ := k0.ex
  clear y0
  have hB0 : Below w.heap.size w w := Below.refl _ _
  have hn0 : w.heap.size ≤ w.heap.size := Nat.le_refl _
  go_enter Try.func5, Try.ntmps5
  go_wp2_with fail
  obtain ⟨w1, hw1⟩ : ∃ W, W = w.alloc (.cells #[.int .i64 z0.letters, x0] 24) := ⟨_, rfl⟩
  rw [← hw1]
  have h1 : Below w.heap.size w w1 := by rw [hw1]; exact alloc_below _ _
  have hs1 : w1.heap.size = w.heap.size + 1 := by rw [hw1]; simp
  have bx1 : BoxF w1 w.heap.size (z0.letters) (x0) := by rw [hw1]; exact BoxF.new _ _ _ _
  clear hw1
  have hn1 : w.heap.size ≤ w1.heap.size := h1.size
  have hB1 : Below w.heap.size w w1 := hB0.trans (h1.mono (by omega))
  have f1_aF := k0.below h1 (by omega)
  have f1_aProof := k1.below h1 (by omega)
  refine (szForm_any _ _ (1048576) w1 f1_aF (by omega) (by omega) (by omega)).mono ?_
  rintro e w2 ⟨n1, rfl, h2, na1, nb1, nc1⟩
  have hn2 : w1.heap.size ≤ w2.heap.size := h2.size
  have hB2 : Below w.heap.size w w2 := hB1.trans (h2.mono (by omega))
  have f2_aF := f1_aF.below h2 (by omega)
  have f2_aProof := f1_aProof.below h2 (by omega)
  have f2_box_aF := bx1.below h2 bx1.lt
  by_cases hneg1 : n1 < 0
  · go_wp2
    go_ret
    exact ⟨rfl, hB2⟩
  have hz0 := nc1 (by omega)
  have q0 := f2_box_aF.c0
  have q1 := f2_box_aF.c1
  go_wp2_with fail
  clear q0 q1
  refine (szInt64SS_any _ _ (n1) w2 f2_aProof (by omega) (by omega) (by omega)).mono ?_
  rintro e w3 ⟨n2, rfl, h3, na2, nb2, nc2⟩
  have hn3 : w2.heap.size ≤ w3.heap.size := h3.size
  have hB3 : Below w.heap.size w w3 := hB2.trans (h3.mono (by omega))
  have f3_aF := f2_aF.below h3 (by omega)
  have f3_aProof := f2_aProof.below h3 (by omega)
  have f3_box_aF := f2_box_aF.below h3 f2_box_aF.lt
  by_cases hneg2 : n2 < 0
  · go_wp2
    go_ret
    exact ⟨rfl, hB3⟩
  have hz1 := nc2 (by omega)
  have q0 := f3_box_aF.c0
  have q1 := f3_box_aF.c1
  go_wp2_with fail
  clear q0 q1
  refine (toForm_any _ _ _ f3_aF hz0 (by omega)).mono ?_
  rintro e w4 ⟨u4, rfl, g4, h4⟩
  have hn4 : w3.heap.size ≤ w4.heap.size := h4.size
  have hB4 : Below w.heap.size w w4 := hB3.trans (h4.mono (by omega))
  have f4_aF := f3_aF.below h4 (by omega)
  have f4_aProof := f3_aProof.below h4 (by omega)
  have f4_box_aF := f3_box_aF.below h4 f3_box_aF.lt
  have q0 := f4_box_aF.c0
  have q1 := f4_box_aF.c1
  go_wp2_with fail
  clear q0 q1
  refine (toInt64SS_any _ _ _ f4_aProof hz1 (by omega)).mono ?_
  rintro e w5 ⟨u5, rfl, g5, h5⟩
  have hn5 : w4.heap.size ≤ w5.heap.size := h5.size
  have hB5 : Below w.heap.size w w5 := hB4.trans (h5.mono (by omega))
  have f5_aF := f4_aF.below h5 (by omega)
  have f5_aProof := f4_aProof.below h5 (by omega)
  have f5_box_aF := f4_box_aF.below h5 f4_box_aF.lt
  have f5__caF := g4.below h5 (by omega)
  have q0 := f5_box_aF.c0
  have q1 := f5_box_aF.c1
  go_wp2_with fail
  clear q0 q1
  refine (specIsProof_any w5 _ _ _ _ f5__caF.rd (by omega) hz0 g5.rd (by omega) hz1).mono ?_
  rintro e w6 ⟨rfl, h6⟩
  have hn6 : w5.heap.size ≤ w6.heap.size := h6.size
  have hB6 : Below w.heap.size w w6 := hB5.trans (h6.mono (by omega))
  have f6_aF := f5_aF.below h6 (by omega)
  have f6_aProof := f5_aProof.below h6 (by omega)
  have f6_box_aF := f5_box_aF.below h6 f5_box_aF.lt
  have f6__caF := f5__caF.below h6 (by omega)
  have f6__caProof := g5.below h6 (by omega)
  have q0 := f6_box_aF.c0
  have q1 := f6_box_aF.c1
  go_wp2_with fail
  clear q0 q1
  refine (toForm_any _ _ _ f6_aF hz0 (by omega)).mono ?_
  rintro e w7 ⟨u7, rfl, g7, h7⟩
  obtain ⟨ra7, rc7, rfl⟩ := g7.shape
  have hn7 : w6.heap.size ≤ w7.heap.size := h7.size
  have hB7 : Below w.heap.size w w7 := hB6.trans (h7.mono (by omega))
  have f7_aF := f6_aF.below h7 (by omega)
  have f7_aProof := f6_aProof.below h7 (by omega)
  have f7_box_aF := f6_box_aF.below h7 f6_box_aF.lt
  have q0 := f7_box_aF.c0
  have q1 := f7_box_aF.c1
  go_wp2_with fail
  clear q0 q1
  obtain ⟨w8, hw8⟩ : ∃ W, W = w7.alloc (.cells #[.int .i64 z0.letters, .slice ra7 z0.clauses.length rc7] 29) := ⟨_, rfl⟩
  rw [← hw8]
  have h8 : Below w7.heap.size w7 w8 := by rw [hw8]; exact alloc_below _ _
  have hs8 : w8.heap.size = w7.heap.size + 1 := by rw [hw8]; simp
  have bx8 : BoxF w8 w7.heap.size (z0.letters) (.slice ra7 z0.clauses.length rc7) := by rw [hw8]; exact BoxF.new _ _ _ _
  clear hw8
  have hn8 : w7.heap.size ≤ w8.heap.size := h8.size
  have hB8 : Below w.heap.size w w8 := hB7.trans (h8.mono (by omega))
  have f8_aF := f7_aF.below h8 (by omega)
  have f8_aProof := f7_aProof.below h8 (by omega)
  have f8_box_aF := f7_box_aF.below h8 f7_box_aF.lt
  have f8_x0 := g7.below h8 (by omega)
  refine (toInt64SS_any _ _ _ f8_aProof hz1 (by omega)).mono ?_
  rintro e w9 ⟨u9, rfl, g9, h9⟩
  have hn9 : w8.heap.size ≤ w9.heap.size := h9.size
  have hB9 : Below w.heap.size w w9 := hB8.trans (h9.mono (by omega))
  have f9_aF := f8_aF.below h9 (by omega)
  have f9_aProof := f8_aProof.below h9 (by omega)
  have f9_box_aF := f8_box_aF.below h9 f8_box_aF.lt
  have f9_x0 := f8_x0.below h9 (by omega)
  have f9_box_x0 := bx8.below h9 bx8.lt
  have q0 := f9_box_aF.c0
  have q1 := f9_box_aF.c1
  have q2 := f9_box_x0.c0
  have q3 := f9_box_x0.c1
  go_wp2_with fail
  clear q0 q1 q2 q3
  refine (implIsProof_any w9 _ _ _ _ f9_x0.rd (by omega) hz0 g9.rd (by omega) hz1).mono ?_
  rintro e w10 ⟨rfl, h10⟩
  have hn10 : w9.heap.size ≤ w10.heap.size := h10.size
  have hB10 : Below w.heap.size w w10 := hB9.trans (h10.mono (by omega))
  have f10_aF := f9_aF.below h10 (by omega)
  have f10_aProof := f9_aProof.below h10 (by omega)
  have f10_box_aF := f9_box_aF.below h10 f9_box_aF.lt
  have f10_x0 := f9_x0.below h10 (by omega)
  have f10_box_x0 := f9_box_x0.below h10 f9_box_x0.lt
  have f10_x1 := g9.below h10 (by omega)
  have q0 := f10_box_aF.c0
  have q1 := f10_box_aF.c1
  have q2 := f10_box_x0.c0
  have q3 := f10_box_x0.c1
  go_wp2_with fail
  clear q0 q1 q2 q3
  have hdD : Drew w10 w10.drew := ⟨1, rfl⟩
  have bxd_x0 := f10_box_x0
  have bxd_aF := f10_box_aF
  have hK : Hid (∀ w' : World, Below w10.heap.size w10 w' → w'.cell? ⟨w7.heap.size, 0, none⟩ = some (.int .i64 z0.letters) ∧ w'.cell? ⟨w7.heap.size, 1, none⟩ = some (.slice ra7 z0.clauses.length rc7) ∧ w'.cell? ⟨w.heap.size, 0, none⟩ = some (.int .i64 z0.letters) ∧ w'.cell? ⟨w.heap.size, 1, none⟩ = some (x0)) := fun w' hb => ⟨(bxd_x0.below hb bxd_x0.lt).c0, (bxd_x0.below hb bxd_x0.lt).c1, (bxd_aF.below hb bxd_aF.lt).c0, (bxd_aF.below hb bxd_aF.lt).c1⟩
  go_region_held3 (fun w' => w'.cell? ⟨w7.heap.size, 0, none⟩ = some (.int .i64 z0.letters) ∧ w'.cell? ⟨w7.heap.size, 1, none⟩ = some (.slice ra7 z0.clauses.length rc7) ∧ w'.cell? ⟨w.heap.size, 0, none⟩ = some (.int .i64 z0.letters) ∧ w'.cell? ⟨w.heap.size, 1, none⟩ = some (x0)) (first | exact hK.out _ (hdD.below _) | exact hK.out _ j11 | exact hK.out _ h12) (first | (go_at_call 17; refine (toForm_any _ _ w10.drew (f10_aF.drew hdD) hz0 (by rw [hdD.heap]; omega)).mono ?_; rintro e w11 ⟨u11, rfl, g11, i11⟩; have j11 : Below w10.heap.size w10 w11 := (hdD.below _).trans i11; have k11 := j11.size; have l11 := f10_x0.rd.below j11 (by omega)) | (go_at_call 20; refine (eqForm_any _ _ _ _ w11 l11 g11.rd (by omega) (Nat.le_refl _)).mono ?_; rintro e w12 ⟨rfl, i12⟩; have h12 : Below w10.heap.size w10 w12 := j11.trans (i12.mono k11)))
  clear hdD hK
  have hn12 : w10.heap.size ≤ w12.heap.size := h12.size
  have hB12 : Below w.heap.size w w12 := hB10.trans (h12.mono (by omega))
  have f12_aProof := f10_aProof.below h12 (by omega)
  have f12_x1 := f10_x1.below h12 (by omega)
  go_wp2_with fail
  refine (toInt64SS_any _ _ _ f12_aProof hz1 (by omega)).mono ?_
  rintro e w13 ⟨u13, rfl, g13, h13⟩
  have hn13 : w12.heap.size ≤ w13.heap.size := h13.size
  have hB13 : Below w.heap.size w w13 := hB12.trans (h13.mono (by omega))
  have f13_aProof := f12_aProof.below h13 (by omega)
  have f13_x1 := f12_x1.below h13 (by omega)
  go_wp2_with fail
  refine (eqInt64SS_any _ _ _ _ _ f13_x1.rd g13.rd (by omega) (by omega)).mono ?_
  rintro e w14 ⟨rfl, h14⟩
  have hn14 : w13.heap.size ≤ w14.heap.size := h14.size
  have hB14 : Below w.heap.size w w14 := hB13.trans (h14.mono (by omega))
  go_wp2_with fail
  go_ret
  exact ⟨rfl, hB14⟩

set_option maxRecDepth 100000 in
theorem FnExactIsProof_lifted (os : Os) (started : os.Started) (H : Type) (enc : TypeId × Value → H) :
    ReturnsInHanded {} Try.checked os 5 .any (Rows.fnExactIsProofSpec.pre6 enc Try.prog Try.f5 Rows.fnExactIsProofRow.domain false) (Rows.fnExactIsProofSpec.post enc Try.prog Try.f5 false true false false) := by
  refine returnsInHanded_of_change (C := Try.checked) own_knob started (by kernel_rfl) Try.func5
    (ChangeSpec.witness6 (enc := enc) (C := Try.checked) false ⟨#[], #[.agg #[.int .i64 0, .slice none 0 0], .slice none 0 0], []⟩ 8 (by kernel_rfl) (by kernel_rfl) (by kernel_rfl) (by kernel_rfl)) ?_
  intro W base args ds gs before hval0 hW hcnd _
  have hval : ∀ (j : Nat) t v, Try.f5.params[j]? = some t → args[j]? = some v → Value.okWide Try.prog W .any base t v := hval0
  have hW' := hW
  obtain ⟨p, q, hA0, hV, rfl, hfz, hnd⟩ := hW
  have hA : DataW.TrodAll enc Try.prog W 0 (fun _ => true) true Try.f5.params.toList args.toList ds p := hA0
  rw [Try.params5] at hA hval
  obtain ⟨v0, vs0, d0, ds0, p0, q0, hargs, rfl, rfl, h0, r0⟩ := trodAll_cons hA
  obtain ⟨v1, vs1, d1, ds1, p1, q1, rfl, rfl, rfl, h1, r1⟩ := trodAll_cons r0
  obtain ⟨rfl, rfl, rfl⟩ := trodAll_nil r1
  obtain rfl : args = #[v0, v1] := by cases args; simp_all
  obtain ⟨rfl, rfl⟩ := trodVars_none hV
  have lt0 : ∀ x ∈ p0, x.block < W.heap.size := by obtain ⟨m, hm⟩ := h0; exact DataW.trod_lt m _ _ _ hm
  obtain ⟨z0, k0⟩ := open_F (hval 0 24 v0 rfl rfl) h0
  have lt1 : ∀ x ∈ p1, x.block < W.heap.size := by obtain ⟨m, hm⟩ := h1; exact DataW.trod_lt m _ _ _ hm
  obtain ⟨z1, k1⟩ := open_II (hval 1 22 v1 rfl rfl) h1
  clear hA0 hval0
  refine (FnExactIsProof_walk W v0 z0 k0 v1 z1 k1).mono fun e W' ⟨he, bel⟩ => ?_
  subst he
  exact ⟨_, rfl, _, _, _, [], _, [], hW', trodAll_mk1 (shut_bool Try.underlying4 _), (trodAll_cons_mk (Below.trod laid_out (by kernel_rfl) (of_decide_eq_true (by kernel_rfl)) h0 bel lt0) (trodAll_cons_mk (Below.trod laid_out (by kernel_rfl) (of_decide_eq_true (by kernel_rfl)) h1 bel lt1) trodAll_mk0)), rfl, bel.frame _, fun h => by cases h⟩

theorem FnExactIsProof_over : Rows.fnExactIsProofRow.holds Try.pinned (OpenSpec.ofChange Rows.fnExactIsProofSpec) :=
  OpenClaim.holds_of_wide 5 Try.f5 rfl rfl rfl rfl rfl rfl rfl ⟨rfl, rfl, rfl, rfl, rfl⟩ rfl rfl rfl rfl rfl (by kernel_rfl) Try.func5 (by kernel_rfl)
    (of_decide_eq_true (by kernel_rfl)) (by unfold Func.isWrapper; first | (rw [if_pos (by decide +kernel)]; kernel_rfl) | (rw [if_neg (by decide +kernel)]; exact ⟨rfl, rfl⟩))
    (fun os started H enc _ => FnExactIsProof_lifted os started H enc)

/-- The statement. -/
theorem FnExactIsProof_proved : Rows.FnExactIsProofSaid := FnExactIsProof_over

end Go.Proofs.Ytdeelgnfnhdklaa
