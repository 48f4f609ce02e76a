/-
  The law FnExactShrinkSteps returns true for all arguments, and writes nothing that was there.
  There are no conditions.
-/
import Derived.Test.YtocngcpdpeflnaaStepI2
import Derived.Test.YtocngcpdpeflnaaOpenR
import Derived.Deep.RegionHeld3
namespace Go.Proofs.Ytocngcpdpeflnaa
open Go.ChangeShapes Go.WideShapes Go.ChangeAt Go.RowKit
set_option linter.unusedVariables false
set_option maxRecDepth 100000

set_option maxHeartbeats 2000000 in
set_option maxRecDepth 100000 in
theorem FnExactShrinkSteps_walk (w : World) (v0 : Value) (z0 : RowsD) (k0 : RowsR w 0 w.heap.size v0 z0) (a1 : Nat) (k1 : F32 a1) (a2 : Nat) (k2 : F32 a2) (a3 : Int) (k3 : I64 a3) :
    Calls Try.prog 5 #[v0, .float .f32 a1, .float .f32 a2, .int .i64 a3] w fun e w' => e = .returned (.bool true) ∧ Below w.heap.size w w' := by
  obtain ⟨xa0, xb0, xc0, rfl, ya0, yb0, yc0⟩ := k0.ex
  clear ya0 yb0 yc0
  have hB0 : Below w.heap.size w w := Below.refl _ _
  have hn0 : w.heap.size ≤ w.heap.size := Nat.le_refl _
  go_enter Try.func5, Try.ntmps5
  go_wp2_with fail
  obtain ⟨w1, hw1⟩ : ∃ W, W = w.alloc (.cells #[.int .i64 z0.vars, xa0, xb0, xc0] 31) := ⟨_, rfl⟩
  rw [← hw1]
  have h1 : Below w.heap.size w w1 := by rw [hw1]; exact alloc_belowR _ _
  have hs1 : w1.heap.size = w.heap.size + 1 := by rw [hw1]; simp
  have bx1 : QuadC w1 w.heap.size 31 (.int .i64 z0.vars) (xa0) (xb0) (xc0) := by rw [hw1]; exact QuadC.new _ _ _ _ _ _
  clear hw1
  have hn1 : w.heap.size ≤ w1.heap.size := h1.size
  have hB1 : Below w.heap.size w w1 := hB0.trans (h1.mono (by omega))
  have f1_aRows := k0.below h1 (by omega)
  refine (szRows_any _ _ (1048576) w1 f1_aRows (by omega) (by omega) (by omega)).mono ?_
  rintro e w2 ⟨n1, rfl, h2, na1, nb1, nc1⟩
  have hn2 : w1.heap.size ≤ w2.heap.size := h2.size
  have hB2 : Below w.heap.size w w2 := hB1.trans (h2.mono (by omega))
  have f2_aRows := f1_aRows.below h2 (by omega)
  have f2_box_aRows := bx1.below h2 bx1.lt
  by_cases hneg1 : n1 < 0
  · go_wp2
    go_ret
    exact ⟨rfl, hB2⟩
  have hz0 := nc1 (by omega)
  have q0_0 := f2_box_aRows.c0
  have q0_1 := f2_box_aRows.c1
  have q0_2 := f2_box_aRows.c2
  have q0_3 := f2_box_aRows.c3
  go_wp2_with fail
  clear q0_0 q0_1 q0_2 q0_3
  refine (toRows_any _ _ _ f2_aRows hz0 (by omega)).mono ?_
  rintro e w3 ⟨u3, rfl, g3, h3⟩
  have hn3 : w2.heap.size ≤ w3.heap.size := h3.size
  have hB3 : Below w.heap.size w w3 := hB2.trans (h3.mono (by omega))
  have f3_aRows := f2_aRows.below h3 (by omega)
  have f3_box_aRows := f2_box_aRows.below h3 f2_box_aRows.lt
  have q0_0 := f3_box_aRows.c0
  have q0_1 := f3_box_aRows.c1
  have q0_2 := f3_box_aRows.c2
  have q0_3 := f3_box_aRows.c3
  go_wp2_with fail
  clear q0_0 q0_1 q0_2 q0_3
  refine (specShrinkSteps_any w3 _ _ a1 a2 a3 g3.rd (by omega) hz0 k1 k2 k3).mono ?_
  rintro e w4 ⟨u4a, rfl, g4a, h4⟩
  have hn4 : w3.heap.size ≤ w4.heap.size := h4.size
  have hB4 : Below w.heap.size w w4 := hB3.trans (h4.mono (by omega))
  have f4_aRows := f3_aRows.below h4 (by omega)
  have f4_box_aRows := f3_box_aRows.below h4 f3_box_aRows.lt
  have f4__caRows := g3.below h4 (by omega)
  have q0_0 := f4_box_aRows.c0
  have q0_1 := f4_box_aRows.c1
  have q0_2 := f4_box_aRows.c2
  have q0_3 := f4_box_aRows.c3
  go_wp2_with fail
  clear q0_0 q0_1 q0_2 q0_3
  refine (toRows_any _ _ _ f4_aRows hz0 (by omega)).mono ?_
  rintro e w5 ⟨u5, rfl, g5, h5⟩
  obtain ⟨ra5, rc5, rd5, re5, rf5, rg5, rfl⟩ := g5.shape
  have hn5 : w4.heap.size ≤ w5.heap.size := h5.size
  have hB5 : Below w.heap.size w w5 := hB4.trans (h5.mono (by omega))
  have f5_aRows := f4_aRows.below h5 (by omega)
  have f5_box_aRows := f4_box_aRows.below h5 f4_box_aRows.lt
  have f5_w0 := g4a.below h5 (by omega)
  have q0_0 := f5_box_aRows.c0
  have q0_1 := f5_box_aRows.c1
  have q0_2 := f5_box_aRows.c2
  have q0_3 := f5_box_aRows.c3
  go_wp2_with fail
  clear q0_0 q0_1 q0_2 q0_3
  obtain ⟨w6, hw6⟩ : ∃ W, W = w5.alloc (.cells #[.int .i64 z0.vars, .slice ra5 z0.numbers.length rc5, .slice rd5 z0.bounds.length re5, .slice rf5 z0.gains.length rg5] 33) := ⟨_, rfl⟩
  rw [← hw6]
  have h6 : Below w5.heap.size w5 w6 := by rw [hw6]; exact alloc_belowR _ _
  have hs6 : w6.heap.size = w5.heap.size + 1 := by rw [hw6]; simp
  have bx6 : QuadC w6 w5.heap.size 33 (.int .i64 z0.vars) (.slice ra5 z0.numbers.length rc5) (.slice rd5 z0.bounds.length re5) (.slice rf5 z0.gains.length rg5) := by rw [hw6]; exact QuadC.new _ _ _ _ _ _
  clear hw6
  have hn6 : w5.heap.size ≤ w6.heap.size := h6.size
  have hB6 : Below w.heap.size w w6 := hB5.trans (h6.mono (by omega))
  have f6_aRows := f5_aRows.below h6 (by omega)
  have f6_box_aRows := f5_box_aRows.below h6 f5_box_aRows.lt
  have f6_w0 := f5_w0.below h6 (by omega)
  have f6_x0 := g5.below h6 (by omega)
  refine (implShrinkSteps_any w6 _ _ a1 a2 a3 f6_x0.rd (by omega) hz0 k1 k2 k3).mono ?_
  rintro e w7 ⟨u7a, rfl, g7a, h7⟩
  have hn7 : w6.heap.size ≤ w7.heap.size := h7.size
  have hB7 : Below w.heap.size w w7 := hB6.trans (h7.mono (by omega))
  have f7_aRows := f6_aRows.below h7 (by omega)
  have f7_box_aRows := f6_box_aRows.below h7 f6_box_aRows.lt
  have f7_w0 := f6_w0.below h7 (by omega)
  have f7_x0 := f6_x0.below h7 (by omega)
  have f7_box_x0 := bx6.below h7 bx6.lt
  have q0_0 := f7_box_aRows.c0
  have q0_1 := f7_box_aRows.c1
  have q0_2 := f7_box_aRows.c2
  have q0_3 := f7_box_aRows.c3
  have q1_0 := f7_box_x0.c0
  have q1_1 := f7_box_x0.c1
  have q1_2 := f7_box_x0.c2
  have q1_3 := f7_box_x0.c3
  go_wp2_with fail
  clear q0_0 q0_1 q0_2 q0_3 q1_0 q1_1 q1_2 q1_3
  refine (eqFloat32S_any _ _ _ _ g7a.rd f7_w0.rd ).mono ?_
  rintro e w8 ⟨rfl, h8⟩
  have hn8 : w7.heap.size ≤ w8.heap.size := by rw [h8.heap]; exact Nat.le_refl _
  have hB8 : Below w.heap.size w w8 := hB7.trans (h8.below _)
  have f8_aRows := f7_aRows.drew h8
  have f8_box_aRows := f7_box_aRows.drew h8
  have f8_w0 := f7_w0.drew h8
  have f8_x0 := f7_x0.drew h8
  have f8_box_x0 := f7_box_x0.drew h8
  have f8_g0 := g7a.drew h8
  have q0_0 := f8_box_aRows.c0
  have q0_1 := f8_box_aRows.c1
  have q0_2 := f8_box_aRows.c2
  have q0_3 := f8_box_aRows.c3
  have q1_0 := f8_box_x0.c0
  have q1_1 := f8_box_x0.c1
  have q1_2 := f8_box_x0.c2
  have q1_3 := f8_box_x0.c3
  go_wp2_with fail
  clear q0_0 q0_1 q0_2 q0_3 q1_0 q1_1 q1_2 q1_3
  have hdD : Drew w8 w8.drew := ⟨1, rfl⟩
  have bxd_x0 := f8_box_x0
  have bxd_aRows := f8_box_aRows
  have hK : Hid (∀ w' : World, Below w8.heap.size w8 w' → w'.cell? ⟨w5.heap.size, 0, none⟩ = some (.int .i64 z0.vars) ∧ w'.cell? ⟨w5.heap.size, 1, none⟩ = some (.slice ra5 z0.numbers.length rc5) ∧ w'.cell? ⟨w5.heap.size, 2, none⟩ = some (.slice rd5 z0.bounds.length re5) ∧ w'.cell? ⟨w5.heap.size, 3, none⟩ = some (.slice rf5 z0.gains.length rg5) ∧ w'.cell? ⟨w.heap.size, 0, none⟩ = some (.int .i64 z0.vars) ∧ w'.cell? ⟨w.heap.size, 1, none⟩ = some (xa0) ∧ w'.cell? ⟨w.heap.size, 2, none⟩ = some (xb0) ∧ w'.cell? ⟨w.heap.size, 3, none⟩ = some (xc0)) := fun w' hb => ⟨(bxd_x0.below hb bxd_x0.lt).c0, (bxd_x0.below hb bxd_x0.lt).c1, (bxd_x0.below hb bxd_x0.lt).c2, (bxd_x0.below hb bxd_x0.lt).c3, (bxd_aRows.below hb bxd_aRows.lt).c0, (bxd_aRows.below hb bxd_aRows.lt).c1, (bxd_aRows.below hb bxd_aRows.lt).c2, (bxd_aRows.below hb bxd_aRows.lt).c3⟩
  go_region_held3 (fun w' => w'.cell? ⟨w5.heap.size, 0, none⟩ = some (.int .i64 z0.vars) ∧ w'.cell? ⟨w5.heap.size, 1, none⟩ = some (.slice ra5 z0.numbers.length rc5) ∧ w'.cell? ⟨w5.heap.size, 2, none⟩ = some (.slice rd5 z0.bounds.length re5) ∧ w'.cell? ⟨w5.heap.size, 3, none⟩ = some (.slice rf5 z0.gains.length rg5) ∧ w'.cell? ⟨w.heap.size, 0, none⟩ = some (.int .i64 z0.vars) ∧ w'.cell? ⟨w.heap.size, 1, none⟩ = some (xa0) ∧ w'.cell? ⟨w.heap.size, 2, none⟩ = some (xb0) ∧ w'.cell? ⟨w.heap.size, 3, none⟩ = some (xc0)) (first | exact hK.out _ (hdD.below _) | exact hK.out _ j9 | exact hK.out _ h10) (first | (go_at_call 14; refine (toRows_any _ _ w8.drew (f8_aRows.drew hdD) hz0 (by rw [hdD.heap]; omega)).mono ?_; rintro e w9 ⟨u9, rfl, g9, i9⟩; have j9 : Below w8.heap.size w8 w9 := (hdD.below _).trans i9; have k9 := j9.size; have l9 := f8_x0.rd.below j9 (by omega)) | (go_at_call 16; refine (eqRows_any _ _ _ w9 l9 g9.rd (by omega) (Nat.le_refl _)).mono ?_; rintro e w10 ⟨rfl, i10⟩; have h10 : Below w8.heap.size w8 w10 := j9.trans (i10.mono k9)))
  clear hdD hK
  have hn10 : w8.heap.size ≤ w10.heap.size := h10.size
  have hB10 : Below w.heap.size w w10 := hB8.trans (h10.mono (by omega))
  have f10_aRows := f8_aRows.below h10 (by omega)
  have f10_box_aRows := f8_box_aRows.below h10 f8_box_aRows.lt
  have f10_w0 := f8_w0.below h10 (by omega)
  have f10_x0 := f8_x0.below h10 (by omega)
  have f10_box_x0 := f8_box_x0.below h10 f8_box_x0.lt
  have f10_g0 := f8_g0.below h10 (by omega)
  have q0_0 := f10_box_aRows.c0
  have q0_1 := f10_box_aRows.c1
  have q0_2 := f10_box_aRows.c2
  have q0_3 := f10_box_aRows.c3
  have q1_0 := f10_box_x0.c0
  have q1_1 := f10_box_x0.c1
  have q1_2 := f10_box_x0.c2
  have q1_3 := f10_box_x0.c3
  go_wp2_with fail
  clear q0_0 q0_1 q0_2 q0_3 q1_0 q1_1 q1_2 q1_3
  have ln11 := f10_x0.len
  refine (markRows_any _ _ _ _ f10_x0 (by omega) (by omega) (by have := hz0; omega)).mono ?_
  rintro e w11 ⟨rfl, g11, h11⟩
  have hn11 : w10.heap.size ≤ w11.heap.size := h11.size
  have hB11 : Below w.heap.size w w11 := hB10.trans (h11.below (by omega) (by omega))
  have f11_aRows := f10_aRows.same h11 (.inl (by omega))
  have f11_box_aRows := f10_box_aRows.same h11 (by omega)
  have f11_w0 := f10_w0.same h11 (.inl (by omega))
  have f11_g0 := f10_g0.same h11 (.inr (by omega))
  have q0_0 := f11_box_aRows.c0
  have q0_1 := f11_box_aRows.c1
  have q0_2 := f11_box_aRows.c2
  have q0_3 := f11_box_aRows.c3
  go_wp2_with fail
  clear q0_0 q0_1 q0_2 q0_3
  refine (eqFloat32S_any _ _ _ _ f11_g0.rd f11_w0.rd ).mono ?_
  rintro e w12 ⟨rfl, h12⟩
  have hn12 : w11.heap.size ≤ w12.heap.size := by rw [h12.heap]; exact Nat.le_refl _
  have hB12 : Below w.heap.size w w12 := hB11.trans (h12.below _)
  have f12_aRows := f11_aRows.drew h12
  have f12_box_aRows := f11_box_aRows.drew h12
  have f12_w0 := f11_w0.drew h12
  have f12_g0 := f11_g0.drew h12
  have q0_0 := f12_box_aRows.c0
  have q0_1 := f12_box_aRows.c1
  have q0_2 := f12_box_aRows.c2
  have q0_3 := f12_box_aRows.c3
  go_wp2_with fail
  clear q0_0 q0_1 q0_2 q0_3
  have ln13 := f12_g0.len
  refine (markFloat32S_any _ _ _ _ f12_g0 (by omega) (by omega)).mono ?_
  rintro e w13 ⟨rfl, g13, h13⟩
  have hn13 : w12.heap.size ≤ w13.heap.size := h13.size
  have hB13 : Below w.heap.size w w13 := hB12.trans (h13.below (by omega) (by omega))
  have f13_aRows := f12_aRows.same h13 (.inl (by omega))
  have f13_box_aRows := f12_box_aRows.same h13 (by omega)
  have f13_w0 := f12_w0.same h13 (.inl (by omega))
  have q0_0 := f13_box_aRows.c0
  have q0_1 := f13_box_aRows.c1
  have q0_2 := f13_box_aRows.c2
  have q0_3 := f13_box_aRows.c3
  go_wp2_with fail
  clear q0_0 q0_1 q0_2 q0_3
  refine (heldFloat32S_any _ _ _ _ g13.rd (by omega) (by omega)).mono ?_
  rintro e w14 ⟨rfl, h14⟩
  have hn14 : w13.heap.size ≤ w14.heap.size := by rw [h14.heap]; exact Nat.le_refl _
  have hB14 : Below w.heap.size w w14 := hB13.trans (h14.below _)
  have f14_aRows := f13_aRows.drew h14
  have f14_box_aRows := f13_box_aRows.drew h14
  have f14_w0 := f13_w0.drew h14
  have f14_g0 := g13.drew h14
  have q0_0 := f14_box_aRows.c0
  have q0_1 := f14_box_aRows.c1
  have q0_2 := f14_box_aRows.c2
  have q0_3 := f14_box_aRows.c3
  go_wp2_with fail
  clear q0_0 q0_1 q0_2 q0_3
  refine (toRows_any _ _ _ f14_aRows hz0 (by omega)).mono ?_
  rintro e w15 ⟨u15, rfl, g15, h15⟩
  have hn15 : w14.heap.size ≤ w15.heap.size := h15.size
  have hB15 : Below w.heap.size w w15 := hB14.trans (h15.mono (by omega))
  have f15_aRows := f14_aRows.below h15 (by omega)
  have f15_box_aRows := f14_box_aRows.below h15 f14_box_aRows.lt
  have f15_w0 := f14_w0.below h15 (by omega)
  have f15_g0 := f14_g0.below h15 (by omega)
  have q0_0 := f15_box_aRows.c0
  have q0_1 := f15_box_aRows.c1
  have q0_2 := f15_box_aRows.c2
  have q0_3 := f15_box_aRows.c3
  go_wp2_with fail
  clear q0_0 q0_1 q0_2 q0_3
  refine (implShrinkSteps_any w15 _ _ a1 a2 a3 g15.rd (by omega) hz0 k1 k2 k3).mono ?_
  rintro e w16 ⟨u16a, rfl, g16a, h16⟩
  have hn16 : w15.heap.size ≤ w16.heap.size := h16.size
  have hB16 : Below w.heap.size w w16 := hB15.trans (h16.mono (by omega))
  have f16_w0 := f15_w0.below h16 (by omega)
  have f16_g0 := f15_g0.below h16 (by omega)
  have f16__caRows := g15.below h16 (by omega)
  go_wp2_with fail
  refine (eqFloat32S_any _ _ _ _ g16a.rd f16_w0.rd ).mono ?_
  rintro e w17 ⟨rfl, h17⟩
  have hn17 : w16.heap.size ≤ w17.heap.size := by rw [h17.heap]; exact Nat.le_refl _
  have hB17 : Below w.heap.size w w17 := hB16.trans (h17.below _)
  have f17_w0 := f16_w0.drew h17
  have f17_g0 := f16_g0.drew h17
  have f17_h0 := g16a.drew h17
  go_wp2_with fail
  refine (heldFloat32S_any _ _ _ _ f17_g0.rd (by omega) (by omega)).mono ?_
  rintro e w18 ⟨rfl, h18⟩
  have hn18 : w17.heap.size ≤ w18.heap.size := by rw [h18.heap]; exact Nat.le_refl _
  have hB18 : Below w.heap.size w w18 := hB17.trans (h18.below _)
  go_wp2_with fail
  go_ret
  exact ⟨rfl, hB18⟩

set_option maxRecDepth 100000 in
theorem FnExactShrinkSteps_lifted (os : Os) (started : os.Started) (H : Type) (enc : TypeId × Value → H) :
    ReturnsInHanded {} Try.checked os 5 .any (Rows.fnExactShrinkStepsSpec.pre6 enc Try.prog Try.f5 Rows.fnExactShrinkStepsRow.domain false) (Rows.fnExactShrinkStepsSpec.post enc Try.prog Try.f5 false true false false) := by
  refine returnsInHanded_of_change (C := Try.checked) own_knob started (by kernel_rfl) Try.func5
    (ChangeSpec.witness6 (enc := enc) (C := Try.checked) false ⟨#[], #[.agg #[.int .i64 0, .slice none 0 0, .slice none 0 0, .slice none 0 0], .float .f32 0, .float .f32 0, .int .i64 0], []⟩ 8 (by kernel_rfl) (by kernel_rfl) (by kernel_rfl) (by kernel_rfl)) ?_
  intro W base args ds gs before hval0 hW hcnd _
  have hval : ∀ (j : Nat) t v, Try.f5.params[j]? = some t → args[j]? = some v → Value.okWide Try.prog W .any base t v := hval0
  have hW' := hW
  obtain ⟨p, q, hA0, hV, rfl, hfz, hnd⟩ := hW
  have hA : DataW.TrodAll enc Try.prog W 0 (fun _ => true) true Try.f5.params.toList args.toList ds p := hA0
  rw [Try.params5] at hA hval
  obtain ⟨v0, vs0, d0, ds0, p0, q0, hargs, rfl, rfl, h0, r0⟩ := trodAll_cons hA
  obtain ⟨v1, vs1, d1, ds1, p1, q1, rfl, rfl, rfl, h1, r1⟩ := trodAll_cons r0
  obtain ⟨v2, vs2, d2, ds2, p2, q2, rfl, rfl, rfl, h2, r2⟩ := trodAll_cons r1
  obtain ⟨v3, vs3, d3, ds3, p3, q3, rfl, rfl, rfl, h3, r3⟩ := trodAll_cons r2
  obtain ⟨rfl, rfl, rfl⟩ := trodAll_nil r3
  obtain rfl : args = #[v0, v1, v2, v3] := by cases args; simp_all
  obtain ⟨rfl, rfl⟩ := trodVars_none hV
  have lt0 : ∀ x ∈ p0, x.block < W.heap.size := by obtain ⟨m, hm⟩ := h0; exact DataW.trod_lt m _ _ _ hm
  obtain ⟨z0, k0⟩ := open_R (hval 0 31 v0 rfl rfl) h0
  obtain ⟨a1, rfl, rfl, rfl, k1⟩ := open_float Try.underlying23 (hval 1 23 v1 rfl rfl) h1
  obtain ⟨a2, rfl, rfl, rfl, k2⟩ := open_float Try.underlying23 (hval 2 23 v2 rfl rfl) h2
  obtain ⟨a3, rfl, rfl, rfl, k3⟩ := open_int Try.underlying2 (hval 3 2 v3 rfl rfl) h3
  clear hA0 hval0
  refine (FnExactShrinkSteps_walk W v0 z0 k0 a1 k1 a2 k2 a3 (I64_of_wf k3)).mono fun e W' ⟨he, bel⟩ => ?_
  subst he
  exact ⟨_, rfl, _, _, _, [], _, [], hW', trodAll_mk1 (shut_bool Try.underlying4 _), (trodAll_cons_mk (Below.trod laid_out (by kernel_rfl) (of_decide_eq_true (by kernel_rfl)) h0 bel lt0) (trodAll_cons_mk (shut_float Try.underlying23 k1) (trodAll_cons_mk (shut_float Try.underlying23 k2) (trodAll_cons_mk (shut_int Try.underlying2 k3) trodAll_mk0)))), rfl, bel.frame _, fun h => by cases h⟩

theorem FnExactShrinkSteps_over : Rows.fnExactShrinkStepsRow.holds Try.pinned (OpenSpec.ofChange Rows.fnExactShrinkStepsSpec) :=
  OpenClaim.holds_of_wide 5 Try.f5 rfl rfl rfl rfl rfl rfl rfl ⟨rfl, rfl, rfl, rfl, rfl⟩ rfl rfl rfl rfl rfl (by kernel_rfl) Try.func5 (by kernel_rfl)
    (of_decide_eq_true (by kernel_rfl)) (by unfold Func.isWrapper; first | (rw [if_pos (by decide +kernel)]; kernel_rfl) | (rw [if_neg (by decide +kernel)]; exact ⟨rfl, rfl⟩))
    (fun os started H enc _ => FnExactShrinkSteps_lifted os started H enc)

/-- The statement. -/
theorem FnExactShrinkSteps_proved : Rows.FnExactShrinkStepsSaid := FnExactShrinkSteps_over

end Go.Proofs.Ytocngcpdpeflnaa
