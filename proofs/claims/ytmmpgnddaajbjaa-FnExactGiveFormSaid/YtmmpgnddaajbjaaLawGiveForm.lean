/-
  The law FnExactGiveForm returns true for all arguments, and writes nothing that was there.
  There are no conditions.
-/
import Derived.Test.YtmmpgnddaajbjaaGive
import Derived.Test.YtmmpgnddaajbjaaMarkI
import Derived.Test.YtmmpgnddaajbjaaOpen
import Derived.Test.YtmmpgnddaajbjaaOpenF
import Derived.Deep.RegionHeld3
namespace Go.Proofs.Ytmmpgnddaajbjaa
open Go.ChangeShapes Go.WideShapes Go.ChangeAt Go.RowKit
set_option linter.unusedVariables false

set_option maxHeartbeats 2000000 in
set_option maxRecDepth 100000 in
theorem FnExactGiveForm_walk (w : World) (v0 : Value) (z0 : FormD) (k0 : FormR w 0 w.heap.size v0 z0) (v1 : Value) (z1 : List Int) (k1 : Ints w 0 w.heap.size v1 z1) :
    Calls Try.prog 10 #[v0, v1] w fun e w' => e = .returned (.bool true) ∧ Below w.heap.size w w' := by
  obtain ⟨b1, c1, rfl, q1, r1, s1⟩ := k1.out
  clear q1 r1 s1
  obtain ⟨x0, rfl, y0⟩ := k0.ex
  clear y0
  by_cases hz1 : z1.length ≤ 1048576
  case neg =>
    go_enter Try.func10, Try.ntmps10
    go_wp2
    go_ret
    exact ⟨rfl, (Below.refl _ _).alloc (by first | exact Nat.le_refl _ | (simp; done) | (simp only [World.size_alloc]; omega)) _⟩
  have hB0 : Below w.heap.size w w := Below.refl _ _
  have hn0 : w.heap.size ≤ w.heap.size := Nat.le_refl _
  go_enter Try.func10, Try.ntmps10
  go_wp2_with fail
  obtain ⟨w1, hw1⟩ : ∃ W, W = w.alloc (.cells #[.int .i64 z0.letters, x0] 24) := ⟨_, rfl⟩
  rw [← hw1]
  have h1 : Below w.heap.size w w1 := by rw [hw1]; exact alloc_below _ _
  have hs1 : w1.heap.size = w.heap.size + 1 := by rw [hw1]; simp
  have bx1 : BoxF w1 w.heap.size (z0.letters) (x0) := by rw [hw1]; exact BoxF.new _ _ _ _
  clear hw1
  have hn1 : w.heap.size ≤ w1.heap.size := h1.size
  have hB1 : Below w.heap.size w w1 := hB0.trans (h1.mono (by omega))
  have f1_aF := k0.below h1 (by omega)
  have f1_aGiven := k1.below h1 (by omega)
  refine (szForm_any _ _ (1048576) w1 f1_aF (by omega) (by omega) (by omega)).mono ?_
  rintro e w2 ⟨n1, rfl, h2, na1, nb1, nc1⟩
  have hn2 : w1.heap.size ≤ w2.heap.size := h2.size
  have hB2 : Below w.heap.size w w2 := hB1.trans (h2.mono (by omega))
  have f2_aF := f1_aF.below h2 (by omega)
  have f2_aGiven := f1_aGiven.below h2 (by omega)
  have f2_box_aF := bx1.below h2 bx1.lt
  by_cases hneg1 : n1 < 0
  · go_wp2
    go_ret
    exact ⟨rfl, hB2⟩
  have hz0 := nc1 (by omega)
  have q0 := f2_box_aF.c0
  have q1 := f2_box_aF.c1
  go_wp2_with fail
  clear q0 q1
  refine (toForm_any _ _ _ f2_aF hz0 (by omega)).mono ?_
  rintro e w3 ⟨u3, rfl, g3, h3⟩
  have hn3 : w2.heap.size ≤ w3.heap.size := h3.size
  have hB3 : Below w.heap.size w w3 := hB2.trans (h3.mono (by omega))
  have f3_aF := f2_aF.below h3 (by omega)
  have f3_aGiven := f2_aGiven.below h3 (by omega)
  have f3_box_aF := f2_box_aF.below h3 f2_box_aF.lt
  have q0 := f3_box_aF.c0
  have q1 := f3_box_aF.c1
  go_wp2_with fail
  clear q0 q1
  refine (toInt64S_any _ _ _ f3_aGiven (by omega)).mono ?_
  rintro e w4 ⟨u4, rfl, g4, h4⟩
  have hn4 : w3.heap.size ≤ w4.heap.size := h4.size
  have hB4 : Below w.heap.size w w4 := hB3.trans (h4.mono (by omega))
  have f4_aF := f3_aF.below h4 (by omega)
  have f4_aGiven := f3_aGiven.below h4 (by omega)
  have f4_box_aF := f3_box_aF.below h4 f3_box_aF.lt
  have f4__caF := g3.below h4 (by omega)
  have q0 := f4_box_aF.c0
  have q1 := f4_box_aF.c1
  go_wp2_with fail
  clear q0 q1
  refine (specGiveForm_any w4 _ _ _ _ f4__caF.rd (by omega) hz0 g4.rd (by omega) hz1).mono ?_
  rintro e w5 ⟨u5a, rfl, g5a, h5⟩
  obtain ⟨fm0, g5a, E0⟩ := g5a.name
  obtain ⟨rg5a, cg5a, rfl⟩ := g5a.shape
  have hn5 : w4.heap.size ≤ w5.heap.size := h5.size
  have hB5 : Below w.heap.size w w5 := hB4.trans (h5.mono (by omega))
  have f5_aF := f4_aF.below h5 (by omega)
  have f5_aGiven := f4_aGiven.below h5 (by omega)
  have f5_box_aF := f4_box_aF.below h5 f4_box_aF.lt
  have f5__caF := f4__caF.below h5 (by omega)
  have f5__caGiven := g4.below h5 (by omega)
  have p0 : (w5.alloc (.cells #[.int .i64 fm0.letters, .slice rg5a fm0.clauses.length cg5a] 27)).cell? ⟨w.heap.size, 0, none⟩ = some (.int .i64 z0.letters) := by rw [World.cell?_alloc_past _ _ _ f5_box_aF.lt]; exact f5_box_aF.c0
  have p1 : (w5.alloc (.cells #[.int .i64 fm0.letters, .slice rg5a fm0.clauses.length cg5a] 27)).cell? ⟨w.heap.size, 1, none⟩ = some (x0) := by rw [World.cell?_alloc_past _ _ _ f5_box_aF.lt]; exact f5_box_aF.c1
  have q0 := f5_box_aF.c0
  have q1 := f5_box_aF.c1
  go_wp2_with fail
  clear q0 q1
  clear p0 p1
  obtain ⟨w6, hw6⟩ : ∃ W, W = w5.alloc (.cells #[.int .i64 fm0.letters, .slice rg5a fm0.clauses.length cg5a] 27) := ⟨_, rfl⟩
  rw [← hw6]
  have h6 : Below w5.heap.size w5 w6 := by rw [hw6]; exact alloc_below _ _
  have hs6 : w6.heap.size = w5.heap.size + 1 := by rw [hw6]; simp
  have bx6 : BoxF w6 w5.heap.size (fm0.letters) (.slice rg5a fm0.clauses.length cg5a) := by rw [hw6]; exact BoxF.new _ _ _ _
  clear hw6
  have hn6 : w5.heap.size ≤ w6.heap.size := h6.size
  have hB6 : Below w.heap.size w w6 := hB5.trans (h6.mono (by omega))
  have f6_aF := f5_aF.below h6 (by omega)
  have f6_aGiven := f5_aGiven.below h6 (by omega)
  have f6_box_aF := f5_box_aF.below h6 f5_box_aF.lt
  have f6__caF := f5__caF.below h6 (by omega)
  have f6__caGiven := f5__caGiven.below h6 (by omega)
  have f6_w0 := g5a.below h6 (by omega)
  refine (toForm_any _ _ _ f6_aF hz0 (by omega)).mono ?_
  rintro e w7 ⟨u7, rfl, g7, h7⟩
  obtain ⟨ra7, rc7, rfl⟩ := g7.shape
  have hn7 : w6.heap.size ≤ w7.heap.size := h7.size
  have hB7 : Below w.heap.size w w7 := hB6.trans (h7.mono (by omega))
  have f7_aF := f6_aF.below h7 (by omega)
  have f7_aGiven := f6_aGiven.below h7 (by omega)
  have f7_box_aF := f6_box_aF.below h7 f6_box_aF.lt
  have f7_w0 := f6_w0.below h7 (by omega)
  have f7_box_w0 := bx6.below h7 bx6.lt
  have q0 := f7_box_aF.c0
  have q1 := f7_box_aF.c1
  have q2 := f7_box_w0.c0
  have q3 := f7_box_w0.c1
  go_wp2_with fail
  clear q0 q1 q2 q3
  obtain ⟨w8, hw8⟩ : ∃ W, W = w7.alloc (.cells #[.int .i64 z0.letters, .slice ra7 z0.clauses.length rc7] 27) := ⟨_, rfl⟩
  rw [← hw8]
  have h8 : Below w7.heap.size w7 w8 := by rw [hw8]; exact alloc_below _ _
  have hs8 : w8.heap.size = w7.heap.size + 1 := by rw [hw8]; simp
  have bx8 : BoxF w8 w7.heap.size (z0.letters) (.slice ra7 z0.clauses.length rc7) := by rw [hw8]; exact BoxF.new _ _ _ _
  clear hw8
  have hn8 : w7.heap.size ≤ w8.heap.size := h8.size
  have hB8 : Below w.heap.size w w8 := hB7.trans (h8.mono (by omega))
  have f8_aF := f7_aF.below h8 (by omega)
  have f8_aGiven := f7_aGiven.below h8 (by omega)
  have f8_box_aF := f7_box_aF.below h8 f7_box_aF.lt
  have f8_w0 := f7_w0.below h8 (by omega)
  have f8_box_w0 := f7_box_w0.below h8 f7_box_w0.lt
  have f8_x0 := g7.below h8 (by omega)
  refine (toInt64S_any _ _ _ f8_aGiven (by omega)).mono ?_
  rintro e w9 ⟨u9, rfl, g9, h9⟩
  have hn9 : w8.heap.size ≤ w9.heap.size := h9.size
  have hB9 : Below w.heap.size w w9 := hB8.trans (h9.mono (by omega))
  have f9_aF := f8_aF.below h9 (by omega)
  have f9_aGiven := f8_aGiven.below h9 (by omega)
  have f9_box_aF := f8_box_aF.below h9 f8_box_aF.lt
  have f9_w0 := f8_w0.below h9 (by omega)
  have f9_box_w0 := f8_box_w0.below h9 f8_box_w0.lt
  have f9_x0 := f8_x0.below h9 (by omega)
  have f9_box_x0 := bx8.below h9 bx8.lt
  have q0 := f9_box_aF.c0
  have q1 := f9_box_aF.c1
  have q2 := f9_box_w0.c0
  have q3 := f9_box_w0.c1
  have q4 := f9_box_x0.c0
  have q5 := f9_box_x0.c1
  go_wp2_with fail
  clear q0 q1 q2 q3 q4 q5
  refine (implGiveForm_any w9 _ _ _ _ f9_x0.rd (by omega) hz0 g9.rd (by omega) hz1).mono ?_
  rintro e w10 ⟨u10a, rfl, g10a, h10⟩
  rw [← E0.out] at g10a
  obtain ⟨rg10a, cg10a, rfl⟩ := g10a.shape
  have hn10 : w9.heap.size ≤ w10.heap.size := h10.size
  have hB10 : Below w.heap.size w w10 := hB9.trans (h10.mono (by omega))
  have f10_aF := f9_aF.below h10 (by omega)
  have f10_aGiven := f9_aGiven.below h10 (by omega)
  have f10_box_aF := f9_box_aF.below h10 f9_box_aF.lt
  have f10_w0 := f9_w0.below h10 (by omega)
  have f10_box_w0 := f9_box_w0.below h10 f9_box_w0.lt
  have f10_x0 := f9_x0.below h10 (by omega)
  have f10_box_x0 := f9_box_x0.below h10 f9_box_x0.lt
  have f10_x1 := g9.below h10 (by omega)
  have p0 : (w10.alloc (.cells #[.int .i64 fm0.letters, .slice rg10a fm0.clauses.length cg10a] 27)).cell? ⟨w.heap.size, 0, none⟩ = some (.int .i64 z0.letters) := by rw [World.cell?_alloc_past _ _ _ f10_box_aF.lt]; exact f10_box_aF.c0
  have p1 : (w10.alloc (.cells #[.int .i64 fm0.letters, .slice rg10a fm0.clauses.length cg10a] 27)).cell? ⟨w.heap.size, 1, none⟩ = some (x0) := by rw [World.cell?_alloc_past _ _ _ f10_box_aF.lt]; exact f10_box_aF.c1
  have p2 : (w10.alloc (.cells #[.int .i64 fm0.letters, .slice rg10a fm0.clauses.length cg10a] 27)).cell? ⟨w5.heap.size, 0, none⟩ = some (.int .i64 fm0.letters) := by rw [World.cell?_alloc_past _ _ _ f10_box_w0.lt]; exact f10_box_w0.c0
  have p3 : (w10.alloc (.cells #[.int .i64 fm0.letters, .slice rg10a fm0.clauses.length cg10a] 27)).cell? ⟨w5.heap.size, 1, none⟩ = some (.slice rg5a fm0.clauses.length cg5a) := by rw [World.cell?_alloc_past _ _ _ f10_box_w0.lt]; exact f10_box_w0.c1
  have p4 : (w10.alloc (.cells #[.int .i64 fm0.letters, .slice rg10a fm0.clauses.length cg10a] 27)).cell? ⟨w7.heap.size, 0, none⟩ = some (.int .i64 z0.letters) := by rw [World.cell?_alloc_past _ _ _ f10_box_x0.lt]; exact f10_box_x0.c0
  have p5 : (w10.alloc (.cells #[.int .i64 fm0.letters, .slice rg10a fm0.clauses.length cg10a] 27)).cell? ⟨w7.heap.size, 1, none⟩ = some (.slice ra7 z0.clauses.length rc7) := by rw [World.cell?_alloc_past _ _ _ f10_box_x0.lt]; exact f10_box_x0.c1
  have q0 := f10_box_aF.c0
  have q1 := f10_box_aF.c1
  have q2 := f10_box_w0.c0
  have q3 := f10_box_w0.c1
  have q4 := f10_box_x0.c0
  have q5 := f10_box_x0.c1
  go_wp2_with fail
  clear q0 q1 q2 q3 q4 q5
  clear p0 p1 p2 p3 p4 p5
  obtain ⟨w11, hw11⟩ : ∃ W, W = w10.alloc (.cells #[.int .i64 fm0.letters, .slice rg10a fm0.clauses.length cg10a] 27) := ⟨_, rfl⟩
  rw [← hw11]
  have h11 : Below w10.heap.size w10 w11 := by rw [hw11]; exact alloc_below _ _
  have hs11 : w11.heap.size = w10.heap.size + 1 := by rw [hw11]; simp
  have bx11 : BoxF w11 w10.heap.size (fm0.letters) (.slice rg10a fm0.clauses.length cg10a) := by rw [hw11]; exact BoxF.new _ _ _ _
  clear hw11
  have hn11 : w10.heap.size ≤ w11.heap.size := h11.size
  have hB11 : Below w.heap.size w w11 := hB10.trans (h11.mono (by omega))
  have f11_aF := f10_aF.below h11 (by omega)
  have f11_aGiven := f10_aGiven.below h11 (by omega)
  have f11_box_aF := f10_box_aF.below h11 f10_box_aF.lt
  have f11_w0 := f10_w0.below h11 (by omega)
  have f11_box_w0 := f10_box_w0.below h11 f10_box_w0.lt
  have f11_x0 := f10_x0.below h11 (by omega)
  have f11_box_x0 := f10_box_x0.below h11 f10_box_x0.lt
  have f11_x1 := f10_x1.below h11 (by omega)
  have f11_g0 := g10a.below h11 (by omega)
  refine (eqForm_any _ _ _ _ _ f11_g0.rd f11_w0.rd (by omega) (by omega)).mono ?_
  rintro e w12 ⟨rfl, h12⟩
  have hn12 : w11.heap.size ≤ w12.heap.size := h12.size
  have hB12 : Below w.heap.size w w12 := hB11.trans (h12.mono (by omega))
  have f12_aF := f11_aF.below h12 (by omega)
  have f12_aGiven := f11_aGiven.below h12 (by omega)
  have f12_box_aF := f11_box_aF.below h12 f11_box_aF.lt
  have f12_w0 := f11_w0.below h12 (by omega)
  have f12_box_w0 := f11_box_w0.below h12 f11_box_w0.lt
  have f12_x0 := f11_x0.below h12 (by omega)
  have f12_box_x0 := f11_box_x0.below h12 f11_box_x0.lt
  have f12_x1 := f11_x1.below h12 (by omega)
  have f12_g0 := f11_g0.below h12 (by omega)
  have f12_box_g0 := bx11.below h12 bx11.lt
  have q0 := f12_box_aF.c0
  have q1 := f12_box_aF.c1
  have q2 := f12_box_w0.c0
  have q3 := f12_box_w0.c1
  have q4 := f12_box_x0.c0
  have q5 := f12_box_x0.c1
  have q6 := f12_box_g0.c0
  have q7 := f12_box_g0.c1
  go_wp2_with fail
  clear q0 q1 q2 q3 q4 q5 q6 q7
  have hdD : Drew w12 w12.drew := ⟨1, rfl⟩
  have bxd_x0 := f12_box_x0
  have bxd_aF := f12_box_aF
  have hK : Hid (∀ w' : World, Below w12.heap.size w12 w' → w'.cell? ⟨w7.heap.size, 0, none⟩ = some (.int .i64 z0.letters) ∧ w'.cell? ⟨w7.heap.size, 1, none⟩ = some (.slice ra7 z0.clauses.length rc7) ∧ w'.cell? ⟨w.heap.size, 0, none⟩ = some (.int .i64 z0.letters) ∧ w'.cell? ⟨w.heap.size, 1, none⟩ = some (x0)) := fun w' hb => ⟨(bxd_x0.below hb bxd_x0.lt).c0, (bxd_x0.below hb bxd_x0.lt).c1, (bxd_aF.below hb bxd_aF.lt).c0, (bxd_aF.below hb bxd_aF.lt).c1⟩
  go_region_held3 (fun w' => w'.cell? ⟨w7.heap.size, 0, none⟩ = some (.int .i64 z0.letters) ∧ w'.cell? ⟨w7.heap.size, 1, none⟩ = some (.slice ra7 z0.clauses.length rc7) ∧ w'.cell? ⟨w.heap.size, 0, none⟩ = some (.int .i64 z0.letters) ∧ w'.cell? ⟨w.heap.size, 1, none⟩ = some (x0)) (first | exact hK.out _ (hdD.below _) | exact hK.out _ j13 | exact hK.out _ h14) (first | (go_at_call 17; refine (toForm_any _ _ w12.drew (f12_aF.drew hdD) hz0 (by rw [hdD.heap]; omega)).mono ?_; rintro e w13 ⟨u13, rfl, g13, i13⟩; have j13 : Below w12.heap.size w12 w13 := (hdD.below _).trans i13; have k13 := j13.size; have l13 := f12_x0.rd.below j13 (by omega)) | (go_at_call 19; refine (eqForm_any _ _ _ _ w13 l13 g13.rd (by omega) (Nat.le_refl _)).mono ?_; rintro e w14 ⟨rfl, i14⟩; have h14 : Below w12.heap.size w12 w14 := j13.trans (i14.mono k13)))
  clear hdD hK
  have hn14 : w12.heap.size ≤ w14.heap.size := h14.size
  have hB14 : Below w.heap.size w w14 := hB12.trans (h14.mono (by omega))
  have f14_aF := f12_aF.below h14 (by omega)
  have f14_aGiven := f12_aGiven.below h14 (by omega)
  have f14_box_aF := f12_box_aF.below h14 f12_box_aF.lt
  have f14_w0 := f12_w0.below h14 (by omega)
  have f14_box_w0 := f12_box_w0.below h14 f12_box_w0.lt
  have f14_x0 := f12_x0.below h14 (by omega)
  have f14_box_x0 := f12_box_x0.below h14 f12_box_x0.lt
  have f14_x1 := f12_x1.below h14 (by omega)
  have f14_g0 := f12_g0.below h14 (by omega)
  have f14_box_g0 := f12_box_g0.below h14 f12_box_g0.lt
  have q0 := f14_box_aF.c0
  have q1 := f14_box_aF.c1
  have q2 := f14_box_w0.c0
  have q3 := f14_box_w0.c1
  have q4 := f14_box_x0.c0
  have q5 := f14_box_x0.c1
  have q6 := f14_box_g0.c0
  have q7 := f14_box_g0.c1
  go_wp2_with fail
  clear q0 q1 q2 q3 q4 q5 q6 q7
  refine (toInt64S_any _ _ _ f14_aGiven (by omega)).mono ?_
  rintro e w15 ⟨u15, rfl, g15, h15⟩
  have hn15 : w14.heap.size ≤ w15.heap.size := h15.size
  have hB15 : Below w.heap.size w w15 := hB14.trans (h15.mono (by omega))
  have f15_aF := f14_aF.below h15 (by omega)
  have f15_aGiven := f14_aGiven.below h15 (by omega)
  have f15_box_aF := f14_box_aF.below h15 f14_box_aF.lt
  have f15_w0 := f14_w0.below h15 (by omega)
  have f15_box_w0 := f14_box_w0.below h15 f14_box_w0.lt
  have f15_x0 := f14_x0.below h15 (by omega)
  have f15_box_x0 := f14_box_x0.below h15 f14_box_x0.lt
  have f15_x1 := f14_x1.below h15 (by omega)
  have f15_g0 := f14_g0.below h15 (by omega)
  have f15_box_g0 := f14_box_g0.below h15 f14_box_g0.lt
  have q0 := f15_box_aF.c0
  have q1 := f15_box_aF.c1
  have q2 := f15_box_w0.c0
  have q3 := f15_box_w0.c1
  have q4 := f15_box_x0.c0
  have q5 := f15_box_x0.c1
  have q6 := f15_box_g0.c0
  have q7 := f15_box_g0.c1
  go_wp2_with fail
  clear q0 q1 q2 q3 q4 q5 q6 q7
  refine (eqInt64S_any _ _ _ _ _ f15_x1.rd g15.rd ).mono ?_
  rintro e w16 ⟨rfl, h16⟩
  have hn16 : w15.heap.size ≤ w16.heap.size := by rw [h16.heap]; exact Nat.le_refl _
  have hB16 : Below w.heap.size w w16 := hB15.trans (h16.below _)
  have f16_aF := f15_aF.drew h16
  have f16_aGiven := f15_aGiven.drew h16
  have f16_box_aF := f15_box_aF.drew h16
  have f16_w0 := f15_w0.drew h16
  have f16_box_w0 := f15_box_w0.drew h16
  have f16_x0 := f15_x0.drew h16
  have f16_box_x0 := f15_box_x0.drew h16
  have f16_x1 := f15_x1.drew h16
  have f16_g0 := f15_g0.drew h16
  have f16_box_g0 := f15_box_g0.drew h16
  have q0 := f16_box_aF.c0
  have q1 := f16_box_aF.c1
  have q2 := f16_box_w0.c0
  have q3 := f16_box_w0.c1
  have q4 := f16_box_x0.c0
  have q5 := f16_box_x0.c1
  have q6 := f16_box_g0.c0
  have q7 := f16_box_g0.c1
  go_wp2_with fail
  clear q0 q1 q2 q3 q4 q5 q6 q7
  have ln17 := f16_x0.len
  refine (markForm_any _ _ _ _ f16_x0 (by omega) (by omega) (by have := hz0.2; omega)).mono ?_
  rintro e w17 ⟨rfl, g17, h17⟩
  have hn17 : w16.heap.size ≤ w17.heap.size := h17.size
  have hB17 : Below w.heap.size w w17 := hB16.trans (h17.below (by omega) (by omega))
  have f17_aF := f16_aF.same h17 (.inl (by omega))
  have f17_aGiven := f16_aGiven.same h17 (.inl (by omega))
  have f17_box_aF := f16_box_aF.same h17 (by omega)
  have f17_w0 := f16_w0.same h17 (.inl (by omega))
  have f17_box_w0 := f16_box_w0.same h17 (by omega)
  have f17_x1 := f16_x1.same h17 (.inr (by omega))
  have f17_g0 := f16_g0.same h17 (.inr (by omega))
  have f17_box_g0 := f16_box_g0.same h17 (by omega)
  have q0 := f17_box_aF.c0
  have q1 := f17_box_aF.c1
  have q2 := f17_box_w0.c0
  have q3 := f17_box_w0.c1
  have q4 := f17_box_g0.c0
  have q5 := f17_box_g0.c1
  go_wp2_with fail
  clear q0 q1 q2 q3 q4 q5
  have ln18 := f17_x1.len
  refine (markInt64S_any _ _ _ _ f17_x1 (by omega) (by omega)).mono ?_
  rintro e w18 ⟨rfl, g18, h18⟩
  have hn18 : w17.heap.size ≤ w18.heap.size := h18.size
  have hB18 : Below w.heap.size w w18 := hB17.trans (h18.below (by omega) (by omega))
  have f18_aF := f17_aF.same h18 (.inl (by omega))
  have f18_aGiven := f17_aGiven.same h18 (.inl (by omega))
  have f18_box_aF := f17_box_aF.same h18 (by omega)
  have f18_w0 := f17_w0.same h18 (.inl (by omega))
  have f18_box_w0 := f17_box_w0.same h18 (by omega)
  have f18_g0 := f17_g0.same h18 (.inr (by omega))
  have f18_box_g0 := f17_box_g0.same h18 (by omega)
  have q0 := f18_box_aF.c0
  have q1 := f18_box_aF.c1
  have q2 := f18_box_w0.c0
  have q3 := f18_box_w0.c1
  have q4 := f18_box_g0.c0
  have q5 := f18_box_g0.c1
  go_wp2_with fail
  clear q0 q1 q2 q3 q4 q5
  refine (eqForm_any _ _ _ _ _ f18_g0.rd f18_w0.rd (by omega) (by omega)).mono ?_
  rintro e w19 ⟨rfl, h19⟩
  have hn19 : w18.heap.size ≤ w19.heap.size := h19.size
  have hB19 : Below w.heap.size w w19 := hB18.trans (h19.mono (by omega))
  have f19_aF := f18_aF.below h19 (by omega)
  have f19_aGiven := f18_aGiven.below h19 (by omega)
  have f19_box_aF := f18_box_aF.below h19 f18_box_aF.lt
  have f19_w0 := f18_w0.below h19 (by omega)
  have f19_box_w0 := f18_box_w0.below h19 f18_box_w0.lt
  have f19_g0 := f18_g0.below h19 (by omega)
  have f19_box_g0 := f18_box_g0.below h19 f18_box_g0.lt
  have q0 := f19_box_aF.c0
  have q1 := f19_box_aF.c1
  have q2 := f19_box_w0.c0
  have q3 := f19_box_w0.c1
  have q4 := f19_box_g0.c0
  have q5 := f19_box_g0.c1
  go_wp2_with fail
  clear q0 q1 q2 q3 q4 q5
  have ln20 := f19_g0.len
  refine (markForm_any _ _ _ _ f19_g0 (by omega) (by omega) (by have := f19_g0.len; omega)).mono ?_
  rintro e w20 ⟨rfl, g20, h20⟩
  have hn20 : w19.heap.size ≤ w20.heap.size := h20.size
  have hB20 : Below w.heap.size w w20 := hB19.trans (h20.below (by omega) (by omega))
  have f20_aF := f19_aF.same h20 (.inl (by omega))
  have f20_aGiven := f19_aGiven.same h20 (.inl (by omega))
  have f20_box_aF := f19_box_aF.same h20 (by omega)
  have f20_w0 := f19_w0.same h20 (.inl (by omega))
  have f20_box_w0 := f19_box_w0.same h20 (by omega)
  have f20_box_g0 := f19_box_g0.same h20 (by omega)
  have q0 := f20_box_aF.c0
  have q1 := f20_box_aF.c1
  have q2 := f20_box_w0.c0
  have q3 := f20_box_w0.c1
  have q4 := f20_box_g0.c0
  have q5 := f20_box_g0.c1
  go_wp2_with fail
  clear q0 q1 q2 q3 q4 q5
  refine (heldForm_any _ _ _ _ g20.rd (by omega) (by omega) (by omega)).mono ?_
  rintro e w21 ⟨rfl, h21⟩
  have hn21 : w20.heap.size ≤ w21.heap.size := h21.size
  have hB21 : Below w.heap.size w w21 := hB20.trans (h21.mono (by omega))
  have f21_aF := f20_aF.below h21 (by omega)
  have f21_aGiven := f20_aGiven.below h21 (by omega)
  have f21_box_aF := f20_box_aF.below h21 f20_box_aF.lt
  have f21_w0 := f20_w0.below h21 (by omega)
  have f21_box_w0 := f20_box_w0.below h21 f20_box_w0.lt
  have f21_g0 := g20.below h21 (by omega)
  have f21_box_g0 := f20_box_g0.below h21 f20_box_g0.lt
  have q0 := f21_box_aF.c0
  have q1 := f21_box_aF.c1
  have q2 := f21_box_w0.c0
  have q3 := f21_box_w0.c1
  have q4 := f21_box_g0.c0
  have q5 := f21_box_g0.c1
  go_wp2_with fail
  clear q0 q1 q2 q3 q4 q5
  refine (toForm_any _ _ _ f21_aF hz0 (by omega)).mono ?_
  rintro e w22 ⟨u22, rfl, g22, h22⟩
  have hn22 : w21.heap.size ≤ w22.heap.size := h22.size
  have hB22 : Below w.heap.size w w22 := hB21.trans (h22.mono (by omega))
  have f22_aF := f21_aF.below h22 (by omega)
  have f22_aGiven := f21_aGiven.below h22 (by omega)
  have f22_box_aF := f21_box_aF.below h22 f21_box_aF.lt
  have f22_w0 := f21_w0.below h22 (by omega)
  have f22_box_w0 := f21_box_w0.below h22 f21_box_w0.lt
  have f22_g0 := f21_g0.below h22 (by omega)
  have f22_box_g0 := f21_box_g0.below h22 f21_box_g0.lt
  have q0 := f22_box_aF.c0
  have q1 := f22_box_aF.c1
  have q2 := f22_box_w0.c0
  have q3 := f22_box_w0.c1
  have q4 := f22_box_g0.c0
  have q5 := f22_box_g0.c1
  go_wp2_with fail
  clear q0 q1 q2 q3 q4 q5
  refine (toInt64S_any _ _ _ f22_aGiven (by omega)).mono ?_
  rintro e w23 ⟨u23, rfl, g23, h23⟩
  have hn23 : w22.heap.size ≤ w23.heap.size := h23.size
  have hB23 : Below w.heap.size w w23 := hB22.trans (h23.mono (by omega))
  have f23_aF := f22_aF.below h23 (by omega)
  have f23_aGiven := f22_aGiven.below h23 (by omega)
  have f23_box_aF := f22_box_aF.below h23 f22_box_aF.lt
  have f23_w0 := f22_w0.below h23 (by omega)
  have f23_box_w0 := f22_box_w0.below h23 f22_box_w0.lt
  have f23_g0 := f22_g0.below h23 (by omega)
  have f23_box_g0 := f22_box_g0.below h23 f22_box_g0.lt
  have f23__caF := g22.below h23 (by omega)
  have q0 := f23_box_aF.c0
  have q1 := f23_box_aF.c1
  have q2 := f23_box_w0.c0
  have q3 := f23_box_w0.c1
  have q4 := f23_box_g0.c0
  have q5 := f23_box_g0.c1
  go_wp2_with fail
  clear q0 q1 q2 q3 q4 q5
  refine (implGiveForm_any w23 _ _ _ _ f23__caF.rd (by omega) hz0 g23.rd (by omega) hz1).mono ?_
  rintro e w24 ⟨u24a, rfl, g24a, h24⟩
  rw [← E0.out] at g24a
  obtain ⟨rg24a, cg24a, rfl⟩ := g24a.shape
  have hn24 : w23.heap.size ≤ w24.heap.size := h24.size
  have hB24 : Below w.heap.size w w24 := hB23.trans (h24.mono (by omega))
  have f24_w0 := f23_w0.below h24 (by omega)
  have f24_box_w0 := f23_box_w0.below h24 f23_box_w0.lt
  have f24_g0 := f23_g0.below h24 (by omega)
  have f24_box_g0 := f23_box_g0.below h24 f23_box_g0.lt
  have f24__caF := f23__caF.below h24 (by omega)
  have f24__caGiven := g23.below h24 (by omega)
  have p0 : (w24.alloc (.cells #[.int .i64 fm0.letters, .slice rg24a fm0.clauses.length cg24a] 27)).cell? ⟨w5.heap.size, 0, none⟩ = some (.int .i64 fm0.letters) := by rw [World.cell?_alloc_past _ _ _ f24_box_w0.lt]; exact f24_box_w0.c0
  have p1 : (w24.alloc (.cells #[.int .i64 fm0.letters, .slice rg24a fm0.clauses.length cg24a] 27)).cell? ⟨w5.heap.size, 1, none⟩ = some (.slice rg5a fm0.clauses.length cg5a) := by rw [World.cell?_alloc_past _ _ _ f24_box_w0.lt]; exact f24_box_w0.c1
  have p2 : (w24.alloc (.cells #[.int .i64 fm0.letters, .slice rg24a fm0.clauses.length cg24a] 27)).cell? ⟨w10.heap.size, 0, none⟩ = some (.int .i64 fm0.letters) := by rw [World.cell?_alloc_past _ _ _ f24_box_g0.lt]; exact f24_box_g0.c0
  have p3 : (w24.alloc (.cells #[.int .i64 fm0.letters, .slice rg24a fm0.clauses.length cg24a] 27)).cell? ⟨w10.heap.size, 1, none⟩ = some (.slice rg10a fm0.clauses.length cg10a) := by rw [World.cell?_alloc_past _ _ _ f24_box_g0.lt]; exact f24_box_g0.c1
  have q0 := f24_box_w0.c0
  have q1 := f24_box_w0.c1
  have q2 := f24_box_g0.c0
  have q3 := f24_box_g0.c1
  go_wp2_with fail
  clear q0 q1 q2 q3
  clear p0 p1 p2 p3
  obtain ⟨w25, hw25⟩ : ∃ W, W = w24.alloc (.cells #[.int .i64 fm0.letters, .slice rg24a fm0.clauses.length cg24a] 27) := ⟨_, rfl⟩
  rw [← hw25]
  have h25 : Below w24.heap.size w24 w25 := by rw [hw25]; exact alloc_below _ _
  have hs25 : w25.heap.size = w24.heap.size + 1 := by rw [hw25]; simp
  have bx25 : BoxF w25 w24.heap.size (fm0.letters) (.slice rg24a fm0.clauses.length cg24a) := by rw [hw25]; exact BoxF.new _ _ _ _
  clear hw25
  have hn25 : w24.heap.size ≤ w25.heap.size := h25.size
  have hB25 : Below w.heap.size w w25 := hB24.trans (h25.mono (by omega))
  have f25_w0 := f24_w0.below h25 (by omega)
  have f25_box_w0 := f24_box_w0.below h25 f24_box_w0.lt
  have f25_g0 := f24_g0.below h25 (by omega)
  have f25_box_g0 := f24_box_g0.below h25 f24_box_g0.lt
  have f25__caF := f24__caF.below h25 (by omega)
  have f25__caGiven := f24__caGiven.below h25 (by omega)
  have f25_h0 := g24a.below h25 (by omega)
  refine (eqForm_any _ _ _ _ _ f25_h0.rd f25_w0.rd (by omega) (by omega)).mono ?_
  rintro e w26 ⟨rfl, h26⟩
  have hn26 : w25.heap.size ≤ w26.heap.size := h26.size
  have hB26 : Below w.heap.size w w26 := hB25.trans (h26.mono (by omega))
  have f26_w0 := f25_w0.below h26 (by omega)
  have f26_box_w0 := f25_box_w0.below h26 f25_box_w0.lt
  have f26_g0 := f25_g0.below h26 (by omega)
  have f26_box_g0 := f25_box_g0.below h26 f25_box_g0.lt
  have f26_h0 := f25_h0.below h26 (by omega)
  have f26_box_h0 := bx25.below h26 bx25.lt
  have q0 := f26_box_w0.c0
  have q1 := f26_box_w0.c1
  have q2 := f26_box_g0.c0
  have q3 := f26_box_g0.c1
  have q4 := f26_box_h0.c0
  have q5 := f26_box_h0.c1
  go_wp2_with fail
  clear q0 q1 q2 q3 q4 q5
  refine (heldForm_any _ _ _ _ f26_g0.rd (by omega) (by omega) (by omega)).mono ?_
  rintro e w27 ⟨rfl, h27⟩
  have hn27 : w26.heap.size ≤ w27.heap.size := h27.size
  have hB27 : Below w.heap.size w w27 := hB26.trans (h27.mono (by omega))
  go_wp2_with fail
  go_ret
  exact ⟨rfl, hB27⟩

set_option maxRecDepth 100000 in
theorem FnExactGiveForm_lifted (os : Os) (started : os.Started) (H : Type) (enc : TypeId × Value → H) :
    ReturnsInHanded {} Try.checked os 10 .any (Rows.fnExactGiveFormSpec.pre6 enc Try.prog Try.f10 Rows.fnExactGiveFormRow.domain false) (Rows.fnExactGiveFormSpec.post enc Try.prog Try.f10 false true false false) := by
  refine returnsInHanded_of_change (C := Try.checked) own_knob started (by kernel_rfl) Try.func10
    (ChangeSpec.witness6 (enc := enc) (C := Try.checked) false ⟨#[], #[.agg #[.int .i64 0, .slice none 0 0], .slice none 0 0], []⟩ 8 (by kernel_rfl) (by kernel_rfl) (by kernel_rfl) (by kernel_rfl)) ?_
  intro W base args ds gs before hval0 hW hcnd _
  have hval : ∀ (j : Nat) t v, Try.f10.params[j]? = some t → args[j]? = some v → Value.okWide Try.prog W .any base t v := hval0
  have hW' := hW
  obtain ⟨p, q, hA0, hV, rfl, hfz, hnd⟩ := hW
  have hA : DataW.TrodAll enc Try.prog W 0 (fun _ => true) true Try.f10.params.toList args.toList ds p := hA0
  rw [Try.params10] at hA hval
  obtain ⟨v0, vs0, d0, ds0, p0, q0, hargs, rfl, rfl, h0, r0⟩ := trodAll_cons hA
  obtain ⟨v1, vs1, d1, ds1, p1, q1, rfl, rfl, rfl, h1, r1⟩ := trodAll_cons r0
  obtain ⟨rfl, rfl, rfl⟩ := trodAll_nil r1
  obtain rfl : args = #[v0, v1] := by cases args; simp_all
  obtain ⟨rfl, rfl⟩ := trodVars_none hV
  have lt0 : ∀ x ∈ p0, x.block < W.heap.size := by obtain ⟨m, hm⟩ := h0; exact DataW.trod_lt m _ _ _ hm
  obtain ⟨z0, k0⟩ := open_F (hval 0 24 v0 rfl rfl) h0
  have lt1 : ∀ x ∈ p1, x.block < W.heap.size := by obtain ⟨m, hm⟩ := h1; exact DataW.trod_lt m _ _ _ hm
  obtain ⟨z1, k1⟩ := open_I (hval 1 51 v1 rfl rfl) h1
  clear hA0 hval0
  refine (FnExactGiveForm_walk W v0 z0 k0 v1 z1 k1).mono fun e W' ⟨he, bel⟩ => ?_
  subst he
  exact ⟨_, rfl, _, _, _, [], _, [], hW', trodAll_mk1 (shut_bool Try.underlying4 _), (trodAll_cons_mk (Below.trod laid_out (by kernel_rfl) (of_decide_eq_true (by kernel_rfl)) h0 bel lt0) (trodAll_cons_mk (Below.trod laid_out (by kernel_rfl) (of_decide_eq_true (by kernel_rfl)) h1 bel lt1) trodAll_mk0)), rfl, bel.frame _, fun h => by cases h⟩

theorem FnExactGiveForm_over : Rows.fnExactGiveFormRow.holds Try.pinned (OpenSpec.ofChange Rows.fnExactGiveFormSpec) :=
  OpenClaim.holds_of_wide 10 Try.f10 rfl rfl rfl rfl rfl rfl rfl ⟨rfl, rfl, rfl, rfl, rfl⟩ rfl rfl rfl rfl rfl (by kernel_rfl) Try.func10 (by kernel_rfl)
    (of_decide_eq_true (by kernel_rfl)) (by unfold Func.isWrapper; first | (rw [if_pos (by decide +kernel)]; kernel_rfl) | (rw [if_neg (by decide +kernel)]; exact ⟨rfl, rfl⟩))
    (fun os started H enc _ => FnExactGiveForm_lifted os started H enc)

/-- The statement. -/
theorem FnExactGiveForm_proved : Rows.FnExactGiveFormSaid := FnExactGiveForm_over

end Go.Proofs.Ytmmpgnddaajbjaa
