/-
  The law FnExactProveNo returns true for all arguments, and writes nothing that was there.
  There are no conditions.
-/
import Derived.Test.YtdeelgnfnhdklaaProveNo
import Derived.Test.YtdeelgnfnhdklaaOpenF
import Derived.Deep.RegionHeld3
namespace Go.Proofs.Ytdeelgnfnhdklaa
open Go.ChangeShapes Go.WideShapes Go.ChangeAt Go.RowKit
set_option linter.unusedVariables false

set_option maxHeartbeats 2000000 in
set_option maxRecDepth 100000 in
theorem FnExactProveNo_walk (w : World) (v0 : Value) (z0 : FormD) (k0 : FormR w 0 w.heap.size v0 z0) :
    Calls Try.prog 14 #[v0] w fun e w' => e = .returned (.bool true) ∧ Below w.heap.size w w' := by
  obtain ⟨x0, rfl, y0⟩ := k0.ex
  clear y0
  have hB0 : Below w.heap.size w w := Below.refl _ _
  have hn0 : w.heap.size ≤ w.heap.size := Nat.le_refl _
  go_enter Try.func14, Try.ntmps14
  go_wp2_with fail
  obtain ⟨w1, hw1⟩ : ∃ W, W = w.alloc (.cells #[.int .i64 z0.letters, x0] 24) := ⟨_, rfl⟩
  rw [← hw1]
  have h1 : Below w.heap.size w w1 := by rw [hw1]; exact alloc_below _ _
  have hs1 : w1.heap.size = w.heap.size + 1 := by rw [hw1]; simp
  have bx1 : BoxF w1 w.heap.size (z0.letters) (x0) := by rw [hw1]; exact BoxF.new _ _ _ _
  clear hw1
  have hn1 : w.heap.size ≤ w1.heap.size := h1.size
  have hB1 : Below w.heap.size w w1 := hB0.trans (h1.mono (by omega))
  have f1_aF := k0.below h1 (by omega)
  refine (szForm_any _ _ (1048576) w1 f1_aF (by omega) (by omega) (by omega)).mono ?_
  rintro e w2 ⟨n1, rfl, h2, na1, nb1, nc1⟩
  have hn2 : w1.heap.size ≤ w2.heap.size := h2.size
  have hB2 : Below w.heap.size w w2 := hB1.trans (h2.mono (by omega))
  have f2_aF := f1_aF.below h2 (by omega)
  have f2_box_aF := bx1.below h2 bx1.lt
  by_cases hneg1 : n1 < 0
  · go_wp2
    go_ret
    exact ⟨rfl, hB2⟩
  have hz0 := nc1 (by omega)
  have q0 := f2_box_aF.c0
  have q1 := f2_box_aF.c1
  go_wp2_with fail
  clear q0 q1
  refine (toForm_any _ _ _ f2_aF hz0 (by omega)).mono ?_
  rintro e w3 ⟨u3, rfl, g3, h3⟩
  have hn3 : w2.heap.size ≤ w3.heap.size := h3.size
  have hB3 : Below w.heap.size w w3 := hB2.trans (h3.mono (by omega))
  have f3_aF := f2_aF.below h3 (by omega)
  have f3_box_aF := f2_box_aF.below h3 f2_box_aF.lt
  have q0 := f3_box_aF.c0
  have q1 := f3_box_aF.c1
  go_wp2_with fail
  clear q0 q1
  refine (specProveNo_any w3 _ _ g3.rd (by omega) hz0).mono ?_
  rintro e w4 ⟨u4a, rfl, g4a, h4⟩
  have hn4 : w3.heap.size ≤ w4.heap.size := h4.size
  have hB4 : Below w.heap.size w w4 := hB3.trans (h4.mono (by omega))
  have f4_aF := f3_aF.below h4 (by omega)
  have f4_box_aF := f3_box_aF.below h4 f3_box_aF.lt
  have f4__caF := g3.below h4 (by omega)
  have q0 := f4_box_aF.c0
  have q1 := f4_box_aF.c1
  go_wp2_with fail
  clear q0 q1
  refine (toForm_any _ _ _ f4_aF hz0 (by omega)).mono ?_
  rintro e w5 ⟨u5, rfl, g5, h5⟩
  obtain ⟨ra5, rc5, rfl⟩ := g5.shape
  have hn5 : w4.heap.size ≤ w5.heap.size := h5.size
  have hB5 : Below w.heap.size w w5 := hB4.trans (h5.mono (by omega))
  have f5_aF := f4_aF.below h5 (by omega)
  have f5_box_aF := f4_box_aF.below h5 f4_box_aF.lt
  have f5_w0 := g4a.below h5 (by omega)
  have q0 := f5_box_aF.c0
  have q1 := f5_box_aF.c1
  go_wp2_with fail
  clear q0 q1
  obtain ⟨w6, hw6⟩ : ∃ W, W = w5.alloc (.cells #[.int .i64 z0.letters, .slice ra5 z0.clauses.length rc5] 29) := ⟨_, rfl⟩
  rw [← hw6]
  have h6 : Below w5.heap.size w5 w6 := by rw [hw6]; exact alloc_below _ _
  have hs6 : w6.heap.size = w5.heap.size + 1 := by rw [hw6]; simp
  have bx6 : BoxF w6 w5.heap.size (z0.letters) (.slice ra5 z0.clauses.length rc5) := by rw [hw6]; exact BoxF.new _ _ _ _
  clear hw6
  have hn6 : w5.heap.size ≤ w6.heap.size := h6.size
  have hB6 : Below w.heap.size w w6 := hB5.trans (h6.mono (by omega))
  have f6_aF := f5_aF.below h6 (by omega)
  have f6_box_aF := f5_box_aF.below h6 f5_box_aF.lt
  have f6_w0 := f5_w0.below h6 (by omega)
  have f6_x0 := g5.below h6 (by omega)
  refine (implProveNo_any w6 _ _ f6_x0.rd (by omega) hz0).mono ?_
  rintro e w7 ⟨u7a, rfl, g7a, h7⟩
  have hn7 : w6.heap.size ≤ w7.heap.size := h7.size
  have hB7 : Below w.heap.size w w7 := hB6.trans (h7.mono (by omega))
  have f7_aF := f6_aF.below h7 (by omega)
  have f7_box_aF := f6_box_aF.below h7 f6_box_aF.lt
  have f7_w0 := f6_w0.below h7 (by omega)
  have f7_x0 := f6_x0.below h7 (by omega)
  have f7_box_x0 := bx6.below h7 bx6.lt
  have q0 := f7_box_aF.c0
  have q1 := f7_box_aF.c1
  have q2 := f7_box_x0.c0
  have q3 := f7_box_x0.c1
  go_wp2_with fail
  clear q0 q1 q2 q3
  refine (eqInt64SS_any _ _ _ _ _ g7a.rd f7_w0.rd (by omega) (by omega)).mono ?_
  rintro e w8 ⟨rfl, h8⟩
  have hn8 : w7.heap.size ≤ w8.heap.size := h8.size
  have hB8 : Below w.heap.size w w8 := hB7.trans (h8.mono (by omega))
  have f8_aF := f7_aF.below h8 (by omega)
  have f8_box_aF := f7_box_aF.below h8 f7_box_aF.lt
  have f8_w0 := f7_w0.below h8 (by omega)
  have f8_x0 := f7_x0.below h8 (by omega)
  have f8_box_x0 := f7_box_x0.below h8 f7_box_x0.lt
  have f8_g0 := g7a.below h8 (by omega)
  have q0 := f8_box_aF.c0
  have q1 := f8_box_aF.c1
  have q2 := f8_box_x0.c0
  have q3 := f8_box_x0.c1
  go_wp2_with fail
  clear q0 q1 q2 q3
  have hdD : Drew w8 w8.drew := ⟨1, rfl⟩
  have bxd_x0 := f8_box_x0
  have bxd_aF := f8_box_aF
  have hK : Hid (∀ w' : World, Below w8.heap.size w8 w' → w'.cell? ⟨w5.heap.size, 0, none⟩ = some (.int .i64 z0.letters) ∧ w'.cell? ⟨w5.heap.size, 1, none⟩ = some (.slice ra5 z0.clauses.length rc5) ∧ w'.cell? ⟨w.heap.size, 0, none⟩ = some (.int .i64 z0.letters) ∧ w'.cell? ⟨w.heap.size, 1, none⟩ = some (x0)) := fun w' hb => ⟨(bxd_x0.below hb bxd_x0.lt).c0, (bxd_x0.below hb bxd_x0.lt).c1, (bxd_aF.below hb bxd_aF.lt).c0, (bxd_aF.below hb bxd_aF.lt).c1⟩
  go_region_held3 (fun w' => w'.cell? ⟨w5.heap.size, 0, none⟩ = some (.int .i64 z0.letters) ∧ w'.cell? ⟨w5.heap.size, 1, none⟩ = some (.slice ra5 z0.clauses.length rc5) ∧ w'.cell? ⟨w.heap.size, 0, none⟩ = some (.int .i64 z0.letters) ∧ w'.cell? ⟨w.heap.size, 1, none⟩ = some (x0)) (first | exact hK.out _ (hdD.below _) | exact hK.out _ j9 | exact hK.out _ h10) (first | (go_at_call 17; refine (toForm_any _ _ w8.drew (f8_aF.drew hdD) hz0 (by rw [hdD.heap]; omega)).mono ?_; rintro e w9 ⟨u9, rfl, g9, i9⟩; have j9 : Below w8.heap.size w8 w9 := (hdD.below _).trans i9; have k9 := j9.size; have l9 := f8_x0.rd.below j9 (by omega)) | (go_at_call 20; refine (eqForm_any _ _ _ _ w9 l9 g9.rd (by omega) (Nat.le_refl _)).mono ?_; rintro e w10 ⟨rfl, i10⟩; have h10 : Below w8.heap.size w8 w10 := j9.trans (i10.mono k9)))
  clear hdD hK
  have hn10 : w8.heap.size ≤ w10.heap.size := h10.size
  have hB10 : Below w.heap.size w w10 := hB8.trans (h10.mono (by omega))
  have f10_aF := f8_aF.below h10 (by omega)
  have f10_box_aF := f8_box_aF.below h10 f8_box_aF.lt
  have f10_w0 := f8_w0.below h10 (by omega)
  have f10_x0 := f8_x0.below h10 (by omega)
  have f10_box_x0 := f8_box_x0.below h10 f8_box_x0.lt
  have f10_g0 := f8_g0.below h10 (by omega)
  have q0 := f10_box_aF.c0
  have q1 := f10_box_aF.c1
  have q2 := f10_box_x0.c0
  have q3 := f10_box_x0.c1
  go_wp2_with fail
  clear q0 q1 q2 q3
  have ln11 := f10_x0.len
  refine (markForm_any _ _ _ _ f10_x0 (by omega) (by omega) (by have := hz0.2; omega)).mono ?_
  rintro e w11 ⟨rfl, g11, h11⟩
  have hn11 : w10.heap.size ≤ w11.heap.size := h11.size
  have hB11 : Below w.heap.size w w11 := hB10.trans (h11.below (by omega) (by omega))
  have f11_aF := f10_aF.same h11 (.inl (by omega))
  have f11_box_aF := f10_box_aF.same h11 (by omega)
  have f11_w0 := f10_w0.same h11 (.inl (by omega))
  have f11_g0 := f10_g0.same h11 (.inr (by omega))
  have q0 := f11_box_aF.c0
  have q1 := f11_box_aF.c1
  go_wp2_with fail
  clear q0 q1
  refine (eqInt64SS_any _ _ _ _ _ f11_g0.rd f11_w0.rd (by omega) (by omega)).mono ?_
  rintro e w12 ⟨rfl, h12⟩
  have hn12 : w11.heap.size ≤ w12.heap.size := h12.size
  have hB12 : Below w.heap.size w w12 := hB11.trans (h12.mono (by omega))
  have f12_aF := f11_aF.below h12 (by omega)
  have f12_box_aF := f11_box_aF.below h12 f11_box_aF.lt
  have f12_w0 := f11_w0.below h12 (by omega)
  have f12_g0 := f11_g0.below h12 (by omega)
  have q0 := f12_box_aF.c0
  have q1 := f12_box_aF.c1
  go_wp2_with fail
  clear q0 q1
  have ln13 := f12_g0.len
  refine (markInt64SS_any _ _ _ _ f12_g0 (by omega) (by have := f12_g0.len; omega)).mono ?_
  rintro e w13 ⟨rfl, g13, h13⟩
  have hn13 : w12.heap.size ≤ w13.heap.size := h13.size
  have hB13 : Below w.heap.size w w13 := hB12.trans (h13.below (by omega) (by omega))
  have f13_aF := f12_aF.same h13 (.inl (by omega))
  have f13_box_aF := f12_box_aF.same h13 (by omega)
  have f13_w0 := f12_w0.same h13 (.inl (by omega))
  have q0 := f13_box_aF.c0
  have q1 := f13_box_aF.c1
  go_wp2_with fail
  clear q0 q1
  refine (heldInt64SS_any _ _ _ _ g13.rd (by omega) (by omega)).mono ?_
  rintro e w14 ⟨rfl, h14⟩
  have hn14 : w13.heap.size ≤ w14.heap.size := by rw [h14.heap]; exact Nat.le_refl _
  have hB14 : Below w.heap.size w w14 := hB13.trans (h14.below _)
  have f14_aF := f13_aF.drew h14
  have f14_box_aF := f13_box_aF.drew h14
  have f14_w0 := f13_w0.drew h14
  have f14_g0 := g13.drew h14
  have q0 := f14_box_aF.c0
  have q1 := f14_box_aF.c1
  go_wp2_with fail
  clear q0 q1
  refine (toForm_any _ _ _ f14_aF hz0 (by omega)).mono ?_
  rintro e w15 ⟨u15, rfl, g15, h15⟩
  have hn15 : w14.heap.size ≤ w15.heap.size := h15.size
  have hB15 : Below w.heap.size w w15 := hB14.trans (h15.mono (by omega))
  have f15_aF := f14_aF.below h15 (by omega)
  have f15_box_aF := f14_box_aF.below h15 f14_box_aF.lt
  have f15_w0 := f14_w0.below h15 (by omega)
  have f15_g0 := f14_g0.below h15 (by omega)
  have q0 := f15_box_aF.c0
  have q1 := f15_box_aF.c1
  go_wp2_with fail
  clear q0 q1
  refine (implProveNo_any w15 _ _ g15.rd (by omega) hz0).mono ?_
  rintro e w16 ⟨u16a, rfl, g16a, h16⟩
  have hn16 : w15.heap.size ≤ w16.heap.size := h16.size
  have hB16 : Below w.heap.size w w16 := hB15.trans (h16.mono (by omega))
  have f16_w0 := f15_w0.below h16 (by omega)
  have f16_g0 := f15_g0.below h16 (by omega)
  have f16__caF := g15.below h16 (by omega)
  go_wp2_with fail
  refine (eqInt64SS_any _ _ _ _ _ g16a.rd f16_w0.rd (by omega) (by omega)).mono ?_
  rintro e w17 ⟨rfl, h17⟩
  have hn17 : w16.heap.size ≤ w17.heap.size := h17.size
  have hB17 : Below w.heap.size w w17 := hB16.trans (h17.mono (by omega))
  have f17_w0 := f16_w0.below h17 (by omega)
  have f17_g0 := f16_g0.below h17 (by omega)
  have f17_h0 := g16a.below h17 (by omega)
  go_wp2_with fail
  refine (heldInt64SS_any _ _ _ _ f17_g0.rd (by omega) (by omega)).mono ?_
  rintro e w18 ⟨rfl, h18⟩
  have hn18 : w17.heap.size ≤ w18.heap.size := by rw [h18.heap]; exact Nat.le_refl _
  have hB18 : Below w.heap.size w w18 := hB17.trans (h18.below _)
  go_wp2_with fail
  go_ret
  exact ⟨rfl, hB18⟩

set_option maxRecDepth 100000 in
theorem FnExactProveNo_lifted (os : Os) (started : os.Started) (H : Type) (enc : TypeId × Value → H) :
    ReturnsInHanded {} Try.checked os 14 .any (Rows.fnExactProveNoSpec.pre6 enc Try.prog Try.f14 Rows.fnExactProveNoRow.domain false) (Rows.fnExactProveNoSpec.post enc Try.prog Try.f14 false true false false) := by
  refine returnsInHanded_of_change (C := Try.checked) own_knob started (by kernel_rfl) Try.func14
    (ChangeSpec.witness6 (enc := enc) (C := Try.checked) false ⟨#[], #[.agg #[.int .i64 0, .slice none 0 0]], []⟩ 8 (by kernel_rfl) (by kernel_rfl) (by kernel_rfl) (by kernel_rfl)) ?_
  intro W base args ds gs before hval0 hW hcnd _
  have hval : ∀ (j : Nat) t v, Try.f14.params[j]? = some t → args[j]? = some v → Value.okWide Try.prog W .any base t v := hval0
  have hW' := hW
  obtain ⟨p, q, hA0, hV, rfl, hfz, hnd⟩ := hW
  have hA : DataW.TrodAll enc Try.prog W 0 (fun _ => true) true Try.f14.params.toList args.toList ds p := hA0
  rw [Try.params14] at hA hval
  obtain ⟨v0, vs0, d0, ds0, p0, q0, hargs, rfl, rfl, h0, r0⟩ := trodAll_cons hA
  obtain ⟨rfl, rfl, rfl⟩ := trodAll_nil r0
  obtain rfl : args = #[v0] := by cases args; simp_all
  obtain ⟨rfl, rfl⟩ := trodVars_none hV
  have lt0 : ∀ x ∈ p0, x.block < W.heap.size := by obtain ⟨m, hm⟩ := h0; exact DataW.trod_lt m _ _ _ hm
  obtain ⟨z0, k0⟩ := open_F (hval 0 24 v0 rfl rfl) h0
  clear hA0 hval0
  refine (FnExactProveNo_walk W v0 z0 k0).mono fun e W' ⟨he, bel⟩ => ?_
  subst he
  exact ⟨_, rfl, _, _, _, [], _, [], hW', trodAll_mk1 (shut_bool Try.underlying4 _), (trodAll_cons_mk (Below.trod laid_out (by kernel_rfl) (of_decide_eq_true (by kernel_rfl)) h0 bel lt0) trodAll_mk0), rfl, bel.frame _, fun h => by cases h⟩

theorem FnExactProveNo_over : Rows.fnExactProveNoRow.holds Try.pinned (OpenSpec.ofChange Rows.fnExactProveNoSpec) :=
  OpenClaim.holds_of_wide 14 Try.f14 rfl rfl rfl rfl rfl rfl rfl ⟨rfl, rfl, rfl, rfl, rfl⟩ rfl rfl rfl rfl rfl (by kernel_rfl) Try.func14 (by kernel_rfl)
    (of_decide_eq_true (by kernel_rfl)) (by unfold Func.isWrapper; first | (rw [if_pos (by decide +kernel)]; kernel_rfl) | (rw [if_neg (by decide +kernel)]; exact ⟨rfl, rfl⟩))
    (fun os started H enc _ => FnExactProveNo_lifted os started H enc)

/-- The statement. -/
theorem FnExactProveNo_proved : Rows.FnExactProveNoSaid := FnExactProveNo_over

end Go.Proofs.Ytdeelgnfnhdklaa
