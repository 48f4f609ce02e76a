/-
  The law FnExactDropRow returns true for all arguments, and writes nothing that was there.
  There are no conditions.
-/
import Derived.Test.YtocngcpdpeflnaaDropI
import Derived.Test.YtocngcpdpeflnaaOpenR
import Derived.Deep.RegionHeld3
namespace Go.Proofs.Ytocngcpdpeflnaa
open Go.ChangeShapes Go.WideShapes Go.ChangeAt Go.RowKit
set_option linter.unusedVariables false
set_option maxRecDepth 100000

set_option maxHeartbeats 2000000 in
set_option maxRecDepth 100000 in
theorem FnExactDropRow_walk (w : World) (v0 : Value) (z0 : RowsD) (k0 : RowsR w 0 w.heap.size v0 z0) (a1 : Int) (k1 : I64 a1) :
    Calls Try.prog 4 #[v0, .int .i64 a1] w fun e w' => e = .returned (.bool true) ∧ Below w.heap.size w w' := by
  obtain ⟨xa0, xb0, xc0, rfl, ya0, yb0, yc0⟩ := k0.ex
  clear ya0 yb0 yc0
  have hB0 : Below w.heap.size w w := Below.refl _ _
  have hn0 : w.heap.size ≤ w.heap.size := Nat.le_refl _
  go_enter Try.func4, Try.ntmps4
  go_wp2_with fail
  obtain ⟨w1, hw1⟩ : ∃ W, W = w.alloc (.cells #[.int .i64 z0.vars, xa0, xb0, xc0] 31) := ⟨_, rfl⟩
  rw [← hw1]
  have h1 : Below w.heap.size w w1 := by rw [hw1]; exact alloc_belowR _ _
  have hs1 : w1.heap.size = w.heap.size + 1 := by rw [hw1]; simp
  have bx1 : QuadC w1 w.heap.size 31 (.int .i64 z0.vars) (xa0) (xb0) (xc0) := by rw [hw1]; exact QuadC.new _ _ _ _ _ _
  clear hw1
  have hn1 : w.heap.size ≤ w1.heap.size := h1.size
  have hB1 : Below w.heap.size w w1 := hB0.trans (h1.mono (by omega))
  have f1_aR := k0.below h1 (by omega)
  refine (szRows_any _ _ (1048576) w1 f1_aR (by omega) (by omega) (by omega)).mono ?_
  rintro e w2 ⟨n1, rfl, h2, na1, nb1, nc1⟩
  have hn2 : w1.heap.size ≤ w2.heap.size := h2.size
  have hB2 : Below w.heap.size w w2 := hB1.trans (h2.mono (by omega))
  have f2_aR := f1_aR.below h2 (by omega)
  have f2_box_aR := bx1.below h2 bx1.lt
  by_cases hneg1 : n1 < 0
  · go_wp2
    go_ret
    exact ⟨rfl, hB2⟩
  have hz0 := nc1 (by omega)
  have q0_0 := f2_box_aR.c0
  have q0_1 := f2_box_aR.c1
  have q0_2 := f2_box_aR.c2
  have q0_3 := f2_box_aR.c3
  go_wp2_with fail
  clear q0_0 q0_1 q0_2 q0_3
  refine (toRows_any _ _ _ f2_aR hz0 (by omega)).mono ?_
  rintro e w3 ⟨u3, rfl, g3, h3⟩
  have hn3 : w2.heap.size ≤ w3.heap.size := h3.size
  have hB3 : Below w.heap.size w w3 := hB2.trans (h3.mono (by omega))
  have f3_aR := f2_aR.below h3 (by omega)
  have f3_box_aR := f2_box_aR.below h3 f2_box_aR.lt
  have q0_0 := f3_box_aR.c0
  have q0_1 := f3_box_aR.c1
  have q0_2 := f3_box_aR.c2
  have q0_3 := f3_box_aR.c3
  go_wp2_with fail
  clear q0_0 q0_1 q0_2 q0_3
  refine (specDropRow_any w3 _ _ a1 g3.rd (by omega) hz0 k1).mono ?_
  rintro e w4 ⟨u4a, rfl, g4a, h4⟩
  obtain ⟨fm0, g4a, E0⟩ := g4a.name
  obtain ⟨rag4a, rcg4a, rdg4a, reg4a, rfg4a, rgg4a, rfl⟩ := g4a.shape
  have hn4 : w3.heap.size ≤ w4.heap.size := h4.size
  have hB4 : Below w.heap.size w w4 := hB3.trans (h4.mono (by omega))
  have f4_aR := f3_aR.below h4 (by omega)
  have f4_box_aR := f3_box_aR.below h4 f3_box_aR.lt
  have f4__caR := g3.below h4 (by omega)
  have p0 : (w4.alloc (.cells #[.int .i64 fm0.vars, .slice rag4a fm0.numbers.length rcg4a, .slice rdg4a fm0.bounds.length reg4a, .slice rfg4a fm0.gains.length rgg4a] 33)).cell? ⟨w.heap.size, 0, none⟩ = some (.int .i64 z0.vars) := by rw [World.cell?_alloc_past _ _ _ f4_box_aR.lt]; exact f4_box_aR.c0
  have p1 : (w4.alloc (.cells #[.int .i64 fm0.vars, .slice rag4a fm0.numbers.length rcg4a, .slice rdg4a fm0.bounds.length reg4a, .slice rfg4a fm0.gains.length rgg4a] 33)).cell? ⟨w.heap.size, 1, none⟩ = some (xa0) := by rw [World.cell?_alloc_past _ _ _ f4_box_aR.lt]; exact f4_box_aR.c1
  have p2 : (w4.alloc (.cells #[.int .i64 fm0.vars, .slice rag4a fm0.numbers.length rcg4a, .slice rdg4a fm0.bounds.length reg4a, .slice rfg4a fm0.gains.length rgg4a] 33)).cell? ⟨w.heap.size, 2, none⟩ = some (xb0) := by rw [World.cell?_alloc_past _ _ _ f4_box_aR.lt]; exact f4_box_aR.c2
  have p3 : (w4.alloc (.cells #[.int .i64 fm0.vars, .slice rag4a fm0.numbers.length rcg4a, .slice rdg4a fm0.bounds.length reg4a, .slice rfg4a fm0.gains.length rgg4a] 33)).cell? ⟨w.heap.size, 3, none⟩ = some (xc0) := by rw [World.cell?_alloc_past _ _ _ f4_box_aR.lt]; exact f4_box_aR.c3
  have q0_0 := f4_box_aR.c0
  have q0_1 := f4_box_aR.c1
  have q0_2 := f4_box_aR.c2
  have q0_3 := f4_box_aR.c3
  go_wp2_with fail
  clear q0_0 q0_1 q0_2 q0_3
  clear p0 p1 p2 p3
  obtain ⟨w5, hw5⟩ : ∃ W, W = w4.alloc (.cells #[.int .i64 fm0.vars, .slice rag4a fm0.numbers.length rcg4a, .slice rdg4a fm0.bounds.length reg4a, .slice rfg4a fm0.gains.length rgg4a] 33) := ⟨_, rfl⟩
  rw [← hw5]
  have h5 : Below w4.heap.size w4 w5 := by rw [hw5]; exact alloc_belowR _ _
  have hs5 : w5.heap.size = w4.heap.size + 1 := by rw [hw5]; simp
  have bx5 : QuadC w5 w4.heap.size 33 (.int .i64 fm0.vars) (.slice rag4a fm0.numbers.length rcg4a) (.slice rdg4a fm0.bounds.length reg4a) (.slice rfg4a fm0.gains.length rgg4a) := by rw [hw5]; exact QuadC.new _ _ _ _ _ _
  clear hw5
  have hn5 : w4.heap.size ≤ w5.heap.size := h5.size
  have hB5 : Below w.heap.size w w5 := hB4.trans (h5.mono (by omega))
  have f5_aR := f4_aR.below h5 (by omega)
  have f5_box_aR := f4_box_aR.below h5 f4_box_aR.lt
  have f5__caR := f4__caR.below h5 (by omega)
  have f5_w0 := g4a.below h5 (by omega)
  refine (toRows_any _ _ _ f5_aR hz0 (by omega)).mono ?_
  rintro e w6 ⟨u6, rfl, g6, h6⟩
  obtain ⟨ra6, rc6, rd6, re6, rf6, rg6, rfl⟩ := g6.shape
  have hn6 : w5.heap.size ≤ w6.heap.size := h6.size
  have hB6 : Below w.heap.size w w6 := hB5.trans (h6.mono (by omega))
  have f6_aR := f5_aR.below h6 (by omega)
  have f6_box_aR := f5_box_aR.below h6 f5_box_aR.lt
  have f6_w0 := f5_w0.below h6 (by omega)
  have f6_box_w0 := bx5.below h6 bx5.lt
  have q0_0 := f6_box_aR.c0
  have q0_1 := f6_box_aR.c1
  have q0_2 := f6_box_aR.c2
  have q0_3 := f6_box_aR.c3
  have q1_0 := f6_box_w0.c0
  have q1_1 := f6_box_w0.c1
  have q1_2 := f6_box_w0.c2
  have q1_3 := f6_box_w0.c3
  go_wp2_with fail
  clear q0_0 q0_1 q0_2 q0_3 q1_0 q1_1 q1_2 q1_3
  obtain ⟨w7, hw7⟩ : ∃ W, W = w6.alloc (.cells #[.int .i64 z0.vars, .slice ra6 z0.numbers.length rc6, .slice rd6 z0.bounds.length re6, .slice rf6 z0.gains.length rg6] 33) := ⟨_, rfl⟩
  rw [← hw7]
  have h7 : Below w6.heap.size w6 w7 := by rw [hw7]; exact alloc_belowR _ _
  have hs7 : w7.heap.size = w6.heap.size + 1 := by rw [hw7]; simp
  have bx7 : QuadC w7 w6.heap.size 33 (.int .i64 z0.vars) (.slice ra6 z0.numbers.length rc6) (.slice rd6 z0.bounds.length re6) (.slice rf6 z0.gains.length rg6) := by rw [hw7]; exact QuadC.new _ _ _ _ _ _
  clear hw7
  have hn7 : w6.heap.size ≤ w7.heap.size := h7.size
  have hB7 : Below w.heap.size w w7 := hB6.trans (h7.mono (by omega))
  have f7_aR := f6_aR.below h7 (by omega)
  have f7_box_aR := f6_box_aR.below h7 f6_box_aR.lt
  have f7_w0 := f6_w0.below h7 (by omega)
  have f7_box_w0 := f6_box_w0.below h7 f6_box_w0.lt
  have f7_x0 := g6.below h7 (by omega)
  refine (implDropRow_any w7 _ _ a1 f7_x0.rd (by omega) hz0 k1).mono ?_
  rintro e w8 ⟨u8a, rfl, g8a, h8⟩
  rw [← E0.out] at g8a
  obtain ⟨rag8a, rcg8a, rdg8a, reg8a, rfg8a, rgg8a, rfl⟩ := g8a.shape
  have hn8 : w7.heap.size ≤ w8.heap.size := h8.size
  have hB8 : Below w.heap.size w w8 := hB7.trans (h8.mono (by omega))
  have f8_aR := f7_aR.below h8 (by omega)
  have f8_box_aR := f7_box_aR.below h8 f7_box_aR.lt
  have f8_w0 := f7_w0.below h8 (by omega)
  have f8_box_w0 := f7_box_w0.below h8 f7_box_w0.lt
  have f8_x0 := f7_x0.below h8 (by omega)
  have f8_box_x0 := bx7.below h8 bx7.lt
  have p0 : (w8.alloc (.cells #[.int .i64 fm0.vars, .slice rag8a fm0.numbers.length rcg8a, .slice rdg8a fm0.bounds.length reg8a, .slice rfg8a fm0.gains.length rgg8a] 33)).cell? ⟨w.heap.size, 0, none⟩ = some (.int .i64 z0.vars) := by rw [World.cell?_alloc_past _ _ _ f8_box_aR.lt]; exact f8_box_aR.c0
  have p1 : (w8.alloc (.cells #[.int .i64 fm0.vars, .slice rag8a fm0.numbers.length rcg8a, .slice rdg8a fm0.bounds.length reg8a, .slice rfg8a fm0.gains.length rgg8a] 33)).cell? ⟨w.heap.size, 1, none⟩ = some (xa0) := by rw [World.cell?_alloc_past _ _ _ f8_box_aR.lt]; exact f8_box_aR.c1
  have p2 : (w8.alloc (.cells #[.int .i64 fm0.vars, .slice rag8a fm0.numbers.length rcg8a, .slice rdg8a fm0.bounds.length reg8a, .slice rfg8a fm0.gains.length rgg8a] 33)).cell? ⟨w.heap.size, 2, none⟩ = some (xb0) := by rw [World.cell?_alloc_past _ _ _ f8_box_aR.lt]; exact f8_box_aR.c2
  have p3 : (w8.alloc (.cells #[.int .i64 fm0.vars, .slice rag8a fm0.numbers.length rcg8a, .slice rdg8a fm0.bounds.length reg8a, .slice rfg8a fm0.gains.length rgg8a] 33)).cell? ⟨w.heap.size, 3, none⟩ = some (xc0) := by rw [World.cell?_alloc_past _ _ _ f8_box_aR.lt]; exact f8_box_aR.c3
  have p4 : (w8.alloc (.cells #[.int .i64 fm0.vars, .slice rag8a fm0.numbers.length rcg8a, .slice rdg8a fm0.bounds.length reg8a, .slice rfg8a fm0.gains.length rgg8a] 33)).cell? ⟨w4.heap.size, 0, none⟩ = some (.int .i64 fm0.vars) := by rw [World.cell?_alloc_past _ _ _ f8_box_w0.lt]; exact f8_box_w0.c0
  have p5 : (w8.alloc (.cells #[.int .i64 fm0.vars, .slice rag8a fm0.numbers.length rcg8a, .slice rdg8a fm0.bounds.length reg8a, .slice rfg8a fm0.gains.length rgg8a] 33)).cell? ⟨w4.heap.size, 1, none⟩ = some (.slice rag4a fm0.numbers.length rcg4a) := by rw [World.cell?_alloc_past _ _ _ f8_box_w0.lt]; exact f8_box_w0.c1
  have p6 : (w8.alloc (.cells #[.int .i64 fm0.vars, .slice rag8a fm0.numbers.length rcg8a, .slice rdg8a fm0.bounds.length reg8a, .slice rfg8a fm0.gains.length rgg8a] 33)).cell? ⟨w4.heap.size, 2, none⟩ = some (.slice rdg4a fm0.bounds.length reg4a) := by rw [World.cell?_alloc_past _ _ _ f8_box_w0.lt]; exact f8_box_w0.c2
  have p7 : (w8.alloc (.cells #[.int .i64 fm0.vars, .slice rag8a fm0.numbers.length rcg8a, .slice rdg8a fm0.bounds.length reg8a, .slice rfg8a fm0.gains.length rgg8a] 33)).cell? ⟨w4.heap.size, 3, none⟩ = some (.slice rfg4a fm0.gains.length rgg4a) := by rw [World.cell?_alloc_past _ _ _ f8_box_w0.lt]; exact f8_box_w0.c3
  have p8 : (w8.alloc (.cells #[.int .i64 fm0.vars, .slice rag8a fm0.numbers.length rcg8a, .slice rdg8a fm0.bounds.length reg8a, .slice rfg8a fm0.gains.length rgg8a] 33)).cell? ⟨w6.heap.size, 0, none⟩ = some (.int .i64 z0.vars) := by rw [World.cell?_alloc_past _ _ _ f8_box_x0.lt]; exact f8_box_x0.c0
  have p9 : (w8.alloc (.cells #[.int .i64 fm0.vars, .slice rag8a fm0.numbers.length rcg8a, .slice rdg8a fm0.bounds.length reg8a, .slice rfg8a fm0.gains.length rgg8a] 33)).cell? ⟨w6.heap.size, 1, none⟩ = some (.slice ra6 z0.numbers.length rc6) := by rw [World.cell?_alloc_past _ _ _ f8_box_x0.lt]; exact f8_box_x0.c1
  have p10 : (w8.alloc (.cells #[.int .i64 fm0.vars, .slice rag8a fm0.numbers.length rcg8a, .slice rdg8a fm0.bounds.length reg8a, .slice rfg8a fm0.gains.length rgg8a] 33)).cell? ⟨w6.heap.size, 2, none⟩ = some (.slice rd6 z0.bounds.length re6) := by rw [World.cell?_alloc_past _ _ _ f8_box_x0.lt]; exact f8_box_x0.c2
  have p11 : (w8.alloc (.cells #[.int .i64 fm0.vars, .slice rag8a fm0.numbers.length rcg8a, .slice rdg8a fm0.bounds.length reg8a, .slice rfg8a fm0.gains.length rgg8a] 33)).cell? ⟨w6.heap.size, 3, none⟩ = some (.slice rf6 z0.gains.length rg6) := by rw [World.cell?_alloc_past _ _ _ f8_box_x0.lt]; exact f8_box_x0.c3
  have q0_0 := f8_box_aR.c0
  have q0_1 := f8_box_aR.c1
  have q0_2 := f8_box_aR.c2
  have q0_3 := f8_box_aR.c3
  have q1_0 := f8_box_w0.c0
  have q1_1 := f8_box_w0.c1
  have q1_2 := f8_box_w0.c2
  have q1_3 := f8_box_w0.c3
  have q2_0 := f8_box_x0.c0
  have q2_1 := f8_box_x0.c1
  have q2_2 := f8_box_x0.c2
  have q2_3 := f8_box_x0.c3
  go_wp2_with fail
  clear q0_0 q0_1 q0_2 q0_3 q1_0 q1_1 q1_2 q1_3 q2_0 q2_1 q2_2 q2_3
  clear p0 p1 p2 p3 p4 p5 p6 p7 p8 p9 p10 p11
  obtain ⟨w9, hw9⟩ : ∃ W, W = w8.alloc (.cells #[.int .i64 fm0.vars, .slice rag8a fm0.numbers.length rcg8a, .slice rdg8a fm0.bounds.length reg8a, .slice rfg8a fm0.gains.length rgg8a] 33) := ⟨_, rfl⟩
  rw [← hw9]
  have h9 : Below w8.heap.size w8 w9 := by rw [hw9]; exact alloc_belowR _ _
  have hs9 : w9.heap.size = w8.heap.size + 1 := by rw [hw9]; simp
  have bx9 : QuadC w9 w8.heap.size 33 (.int .i64 fm0.vars) (.slice rag8a fm0.numbers.length rcg8a) (.slice rdg8a fm0.bounds.length reg8a) (.slice rfg8a fm0.gains.length rgg8a) := by rw [hw9]; exact QuadC.new _ _ _ _ _ _
  clear hw9
  have hn9 : w8.heap.size ≤ w9.heap.size := h9.size
  have hB9 : Below w.heap.size w w9 := hB8.trans (h9.mono (by omega))
  have f9_aR := f8_aR.below h9 (by omega)
  have f9_box_aR := f8_box_aR.below h9 f8_box_aR.lt
  have f9_w0 := f8_w0.below h9 (by omega)
  have f9_box_w0 := f8_box_w0.below h9 f8_box_w0.lt
  have f9_x0 := f8_x0.below h9 (by omega)
  have f9_box_x0 := f8_box_x0.below h9 f8_box_x0.lt
  have f9_g0 := g8a.below h9 (by omega)
  refine (eqRows_any _ _ _ _ f9_g0.rd f9_w0.rd (by omega) (by omega)).mono ?_
  rintro e w10 ⟨rfl, h10⟩
  have hn10 : w9.heap.size ≤ w10.heap.size := h10.size
  have hB10 : Below w.heap.size w w10 := hB9.trans (h10.mono (by omega))
  have f10_aR := f9_aR.below h10 (by omega)
  have f10_box_aR := f9_box_aR.below h10 f9_box_aR.lt
  have f10_w0 := f9_w0.below h10 (by omega)
  have f10_box_w0 := f9_box_w0.below h10 f9_box_w0.lt
  have f10_x0 := f9_x0.below h10 (by omega)
  have f10_box_x0 := f9_box_x0.below h10 f9_box_x0.lt
  have f10_g0 := f9_g0.below h10 (by omega)
  have f10_box_g0 := bx9.below h10 bx9.lt
  have q0_0 := f10_box_aR.c0
  have q0_1 := f10_box_aR.c1
  have q0_2 := f10_box_aR.c2
  have q0_3 := f10_box_aR.c3
  have q1_0 := f10_box_w0.c0
  have q1_1 := f10_box_w0.c1
  have q1_2 := f10_box_w0.c2
  have q1_3 := f10_box_w0.c3
  have q2_0 := f10_box_x0.c0
  have q2_1 := f10_box_x0.c1
  have q2_2 := f10_box_x0.c2
  have q2_3 := f10_box_x0.c3
  have q3_0 := f10_box_g0.c0
  have q3_1 := f10_box_g0.c1
  have q3_2 := f10_box_g0.c2
  have q3_3 := f10_box_g0.c3
  go_wp2_with fail
  clear q0_0 q0_1 q0_2 q0_3 q1_0 q1_1 q1_2 q1_3 q2_0 q2_1 q2_2 q2_3 q3_0 q3_1 q3_2 q3_3
  have hdD : Drew w10 w10.drew := ⟨1, rfl⟩
  have bxd_x0 := f10_box_x0
  have bxd_aR := f10_box_aR
  have hK : Hid (∀ w' : World, Below w10.heap.size w10 w' → w'.cell? ⟨w6.heap.size, 0, none⟩ = some (.int .i64 z0.vars) ∧ w'.cell? ⟨w6.heap.size, 1, none⟩ = some (.slice ra6 z0.numbers.length rc6) ∧ w'.cell? ⟨w6.heap.size, 2, none⟩ = some (.slice rd6 z0.bounds.length re6) ∧ w'.cell? ⟨w6.heap.size, 3, none⟩ = some (.slice rf6 z0.gains.length rg6) ∧ w'.cell? ⟨w.heap.size, 0, none⟩ = some (.int .i64 z0.vars) ∧ w'.cell? ⟨w.heap.size, 1, none⟩ = some (xa0) ∧ w'.cell? ⟨w.heap.size, 2, none⟩ = some (xb0) ∧ w'.cell? ⟨w.heap.size, 3, none⟩ = some (xc0)) := fun w' hb => ⟨(bxd_x0.below hb bxd_x0.lt).c0, (bxd_x0.below hb bxd_x0.lt).c1, (bxd_x0.below hb bxd_x0.lt).c2, (bxd_x0.below hb bxd_x0.lt).c3, (bxd_aR.below hb bxd_aR.lt).c0, (bxd_aR.below hb bxd_aR.lt).c1, (bxd_aR.below hb bxd_aR.lt).c2, (bxd_aR.below hb bxd_aR.lt).c3⟩
  go_region_held3 (fun w' => w'.cell? ⟨w6.heap.size, 0, none⟩ = some (.int .i64 z0.vars) ∧ w'.cell? ⟨w6.heap.size, 1, none⟩ = some (.slice ra6 z0.numbers.length rc6) ∧ w'.cell? ⟨w6.heap.size, 2, none⟩ = some (.slice rd6 z0.bounds.length re6) ∧ w'.cell? ⟨w6.heap.size, 3, none⟩ = some (.slice rf6 z0.gains.length rg6) ∧ w'.cell? ⟨w.heap.size, 0, none⟩ = some (.int .i64 z0.vars) ∧ w'.cell? ⟨w.heap.size, 1, none⟩ = some (xa0) ∧ w'.cell? ⟨w.heap.size, 2, none⟩ = some (xb0) ∧ w'.cell? ⟨w.heap.size, 3, none⟩ = some (xc0)) (first | exact hK.out _ (hdD.below _) | exact hK.out _ j11 | exact hK.out _ h12) (first | (go_at_call 14; refine (toRows_any _ _ w10.drew (f10_aR.drew hdD) hz0 (by rw [hdD.heap]; omega)).mono ?_; rintro e w11 ⟨u11, rfl, g11, i11⟩; have j11 : Below w10.heap.size w10 w11 := (hdD.below _).trans i11; have k11 := j11.size; have l11 := f10_x0.rd.below j11 (by omega)) | (go_at_call 16; refine (eqRows_any _ _ _ w11 l11 g11.rd (by omega) (Nat.le_refl _)).mono ?_; rintro e w12 ⟨rfl, i12⟩; have h12 : Below w10.heap.size w10 w12 := j11.trans (i12.mono k11)))
  clear hdD hK
  have hn12 : w10.heap.size ≤ w12.heap.size := h12.size
  have hB12 : Below w.heap.size w w12 := hB10.trans (h12.mono (by omega))
  have f12_aR := f10_aR.below h12 (by omega)
  have f12_box_aR := f10_box_aR.below h12 f10_box_aR.lt
  have f12_w0 := f10_w0.below h12 (by omega)
  have f12_box_w0 := f10_box_w0.below h12 f10_box_w0.lt
  have f12_x0 := f10_x0.below h12 (by omega)
  have f12_box_x0 := f10_box_x0.below h12 f10_box_x0.lt
  have f12_g0 := f10_g0.below h12 (by omega)
  have f12_box_g0 := f10_box_g0.below h12 f10_box_g0.lt
  have q0_0 := f12_box_aR.c0
  have q0_1 := f12_box_aR.c1
  have q0_2 := f12_box_aR.c2
  have q0_3 := f12_box_aR.c3
  have q1_0 := f12_box_w0.c0
  have q1_1 := f12_box_w0.c1
  have q1_2 := f12_box_w0.c2
  have q1_3 := f12_box_w0.c3
  have q2_0 := f12_box_x0.c0
  have q2_1 := f12_box_x0.c1
  have q2_2 := f12_box_x0.c2
  have q2_3 := f12_box_x0.c3
  have q3_0 := f12_box_g0.c0
  have q3_1 := f12_box_g0.c1
  have q3_2 := f12_box_g0.c2
  have q3_3 := f12_box_g0.c3
  go_wp2_with fail
  clear q0_0 q0_1 q0_2 q0_3 q1_0 q1_1 q1_2 q1_3 q2_0 q2_1 q2_2 q2_3 q3_0 q3_1 q3_2 q3_3
  have ln13 := f12_x0.len
  refine (markRows_any _ _ _ _ f12_x0 (by omega) (by omega) (by have := hz0; omega)).mono ?_
  rintro e w13 ⟨rfl, g13, h13⟩
  have hn13 : w12.heap.size ≤ w13.heap.size := h13.size
  have hB13 : Below w.heap.size w w13 := hB12.trans (h13.below (by omega) (by omega))
  have f13_aR := f12_aR.same h13 (.inl (by omega))
  have f13_box_aR := f12_box_aR.same h13 (by omega)
  have f13_w0 := f12_w0.same h13 (.inl (by omega))
  have f13_box_w0 := f12_box_w0.same h13 (by omega)
  have f13_g0 := f12_g0.same h13 (.inr (by omega))
  have f13_box_g0 := f12_box_g0.same h13 (by omega)
  have q0_0 := f13_box_aR.c0
  have q0_1 := f13_box_aR.c1
  have q0_2 := f13_box_aR.c2
  have q0_3 := f13_box_aR.c3
  have q1_0 := f13_box_w0.c0
  have q1_1 := f13_box_w0.c1
  have q1_2 := f13_box_w0.c2
  have q1_3 := f13_box_w0.c3
  have q2_0 := f13_box_g0.c0
  have q2_1 := f13_box_g0.c1
  have q2_2 := f13_box_g0.c2
  have q2_3 := f13_box_g0.c3
  go_wp2_with fail
  clear q0_0 q0_1 q0_2 q0_3 q1_0 q1_1 q1_2 q1_3 q2_0 q2_1 q2_2 q2_3
  refine (eqRows_any _ _ _ _ f13_g0.rd f13_w0.rd (by omega) (by omega)).mono ?_
  rintro e w14 ⟨rfl, h14⟩
  have hn14 : w13.heap.size ≤ w14.heap.size := h14.size
  have hB14 : Below w.heap.size w w14 := hB13.trans (h14.mono (by omega))
  have f14_aR := f13_aR.below h14 (by omega)
  have f14_box_aR := f13_box_aR.below h14 f13_box_aR.lt
  have f14_w0 := f13_w0.below h14 (by omega)
  have f14_box_w0 := f13_box_w0.below h14 f13_box_w0.lt
  have f14_g0 := f13_g0.below h14 (by omega)
  have f14_box_g0 := f13_box_g0.below h14 f13_box_g0.lt
  have q0_0 := f14_box_aR.c0
  have q0_1 := f14_box_aR.c1
  have q0_2 := f14_box_aR.c2
  have q0_3 := f14_box_aR.c3
  have q1_0 := f14_box_w0.c0
  have q1_1 := f14_box_w0.c1
  have q1_2 := f14_box_w0.c2
  have q1_3 := f14_box_w0.c3
  have q2_0 := f14_box_g0.c0
  have q2_1 := f14_box_g0.c1
  have q2_2 := f14_box_g0.c2
  have q2_3 := f14_box_g0.c3
  go_wp2_with fail
  clear q0_0 q0_1 q0_2 q0_3 q1_0 q1_1 q1_2 q1_3 q2_0 q2_1 q2_2 q2_3
  have ln15 := f14_g0.len
  refine (markRows_any _ _ _ _ f14_g0 (by omega) (by omega) (by have := f14_g0.len; omega)).mono ?_
  rintro e w15 ⟨rfl, g15, h15⟩
  have hn15 : w14.heap.size ≤ w15.heap.size := h15.size
  have hB15 : Below w.heap.size w w15 := hB14.trans (h15.below (by omega) (by omega))
  have f15_aR := f14_aR.same h15 (.inl (by omega))
  have f15_box_aR := f14_box_aR.same h15 (by omega)
  have f15_w0 := f14_w0.same h15 (.inl (by omega))
  have f15_box_w0 := f14_box_w0.same h15 (by omega)
  have f15_box_g0 := f14_box_g0.same h15 (by omega)
  have q0_0 := f15_box_aR.c0
  have q0_1 := f15_box_aR.c1
  have q0_2 := f15_box_aR.c2
  have q0_3 := f15_box_aR.c3
  have q1_0 := f15_box_w0.c0
  have q1_1 := f15_box_w0.c1
  have q1_2 := f15_box_w0.c2
  have q1_3 := f15_box_w0.c3
  have q2_0 := f15_box_g0.c0
  have q2_1 := f15_box_g0.c1
  have q2_2 := f15_box_g0.c2
  have q2_3 := f15_box_g0.c3
  go_wp2_with fail
  clear q0_0 q0_1 q0_2 q0_3 q1_0 q1_1 q1_2 q1_3 q2_0 q2_1 q2_2 q2_3
  refine (heldRows_any _ _ _ _ g15.rd (by omega) (by omega) (by omega)).mono ?_
  rintro e w16 ⟨rfl, h16⟩
  have hn16 : w15.heap.size ≤ w16.heap.size := h16.size
  have hB16 : Below w.heap.size w w16 := hB15.trans (h16.mono (by omega))
  have f16_aR := f15_aR.below h16 (by omega)
  have f16_box_aR := f15_box_aR.below h16 f15_box_aR.lt
  have f16_w0 := f15_w0.below h16 (by omega)
  have f16_box_w0 := f15_box_w0.below h16 f15_box_w0.lt
  have f16_g0 := g15.below h16 (by omega)
  have f16_box_g0 := f15_box_g0.below h16 f15_box_g0.lt
  have q0_0 := f16_box_aR.c0
  have q0_1 := f16_box_aR.c1
  have q0_2 := f16_box_aR.c2
  have q0_3 := f16_box_aR.c3
  have q1_0 := f16_box_w0.c0
  have q1_1 := f16_box_w0.c1
  have q1_2 := f16_box_w0.c2
  have q1_3 := f16_box_w0.c3
  have q2_0 := f16_box_g0.c0
  have q2_1 := f16_box_g0.c1
  have q2_2 := f16_box_g0.c2
  have q2_3 := f16_box_g0.c3
  go_wp2_with fail
  clear q0_0 q0_1 q0_2 q0_3 q1_0 q1_1 q1_2 q1_3 q2_0 q2_1 q2_2 q2_3
  refine (toRows_any _ _ _ f16_aR hz0 (by omega)).mono ?_
  rintro e w17 ⟨u17, rfl, g17, h17⟩
  have hn17 : w16.heap.size ≤ w17.heap.size := h17.size
  have hB17 : Below w.heap.size w w17 := hB16.trans (h17.mono (by omega))
  have f17_aR := f16_aR.below h17 (by omega)
  have f17_box_aR := f16_box_aR.below h17 f16_box_aR.lt
  have f17_w0 := f16_w0.below h17 (by omega)
  have f17_box_w0 := f16_box_w0.below h17 f16_box_w0.lt
  have f17_g0 := f16_g0.below h17 (by omega)
  have f17_box_g0 := f16_box_g0.below h17 f16_box_g0.lt
  have q0_0 := f17_box_aR.c0
  have q0_1 := f17_box_aR.c1
  have q0_2 := f17_box_aR.c2
  have q0_3 := f17_box_aR.c3
  have q1_0 := f17_box_w0.c0
  have q1_1 := f17_box_w0.c1
  have q1_2 := f17_box_w0.c2
  have q1_3 := f17_box_w0.c3
  have q2_0 := f17_box_g0.c0
  have q2_1 := f17_box_g0.c1
  have q2_2 := f17_box_g0.c2
  have q2_3 := f17_box_g0.c3
  go_wp2_with fail
  clear q0_0 q0_1 q0_2 q0_3 q1_0 q1_1 q1_2 q1_3 q2_0 q2_1 q2_2 q2_3
  refine (implDropRow_any w17 _ _ a1 g17.rd (by omega) hz0 k1).mono ?_
  rintro e w18 ⟨u18a, rfl, g18a, h18⟩
  rw [← E0.out] at g18a
  obtain ⟨rag18a, rcg18a, rdg18a, reg18a, rfg18a, rgg18a, rfl⟩ := g18a.shape
  have hn18 : w17.heap.size ≤ w18.heap.size := h18.size
  have hB18 : Below w.heap.size w w18 := hB17.trans (h18.mono (by omega))
  have f18_w0 := f17_w0.below h18 (by omega)
  have f18_box_w0 := f17_box_w0.below h18 f17_box_w0.lt
  have f18_g0 := f17_g0.below h18 (by omega)
  have f18_box_g0 := f17_box_g0.below h18 f17_box_g0.lt
  have f18__caR := g17.below h18 (by omega)
  have p0 : (w18.alloc (.cells #[.int .i64 fm0.vars, .slice rag18a fm0.numbers.length rcg18a, .slice rdg18a fm0.bounds.length reg18a, .slice rfg18a fm0.gains.length rgg18a] 33)).cell? ⟨w4.heap.size, 0, none⟩ = some (.int .i64 fm0.vars) := by rw [World.cell?_alloc_past _ _ _ f18_box_w0.lt]; exact f18_box_w0.c0
  have p1 : (w18.alloc (.cells #[.int .i64 fm0.vars, .slice rag18a fm0.numbers.length rcg18a, .slice rdg18a fm0.bounds.length reg18a, .slice rfg18a fm0.gains.length rgg18a] 33)).cell? ⟨w4.heap.size, 1, none⟩ = some (.slice rag4a fm0.numbers.length rcg4a) := by rw [World.cell?_alloc_past _ _ _ f18_box_w0.lt]; exact f18_box_w0.c1
  have p2 : (w18.alloc (.cells #[.int .i64 fm0.vars, .slice rag18a fm0.numbers.length rcg18a, .slice rdg18a fm0.bounds.length reg18a, .slice rfg18a fm0.gains.length rgg18a] 33)).cell? ⟨w4.heap.size, 2, none⟩ = some (.slice rdg4a fm0.bounds.length reg4a) := by rw [World.cell?_alloc_past _ _ _ f18_box_w0.lt]; exact f18_box_w0.c2
  have p3 : (w18.alloc (.cells #[.int .i64 fm0.vars, .slice rag18a fm0.numbers.length rcg18a, .slice rdg18a fm0.bounds.length reg18a, .slice rfg18a fm0.gains.length rgg18a] 33)).cell? ⟨w4.heap.size, 3, none⟩ = some (.slice rfg4a fm0.gains.length rgg4a) := by rw [World.cell?_alloc_past _ _ _ f18_box_w0.lt]; exact f18_box_w0.c3
  have p4 : (w18.alloc (.cells #[.int .i64 fm0.vars, .slice rag18a fm0.numbers.length rcg18a, .slice rdg18a fm0.bounds.length reg18a, .slice rfg18a fm0.gains.length rgg18a] 33)).cell? ⟨w8.heap.size, 0, none⟩ = some (.int .i64 fm0.vars) := by rw [World.cell?_alloc_past _ _ _ f18_box_g0.lt]; exact f18_box_g0.c0
  have p5 : (w18.alloc (.cells #[.int .i64 fm0.vars, .slice rag18a fm0.numbers.length rcg18a, .slice rdg18a fm0.bounds.length reg18a, .slice rfg18a fm0.gains.length rgg18a] 33)).cell? ⟨w8.heap.size, 1, none⟩ = some (.slice rag8a fm0.numbers.length rcg8a) := by rw [World.cell?_alloc_past _ _ _ f18_box_g0.lt]; exact f18_box_g0.c1
  have p6 : (w18.alloc (.cells #[.int .i64 fm0.vars, .slice rag18a fm0.numbers.length rcg18a, .slice rdg18a fm0.bounds.length reg18a, .slice rfg18a fm0.gains.length rgg18a] 33)).cell? ⟨w8.heap.size, 2, none⟩ = some (.slice rdg8a fm0.bounds.length reg8a) := by rw [World.cell?_alloc_past _ _ _ f18_box_g0.lt]; exact f18_box_g0.c2
  have p7 : (w18.alloc (.cells #[.int .i64 fm0.vars, .slice rag18a fm0.numbers.length rcg18a, .slice rdg18a fm0.bounds.length reg18a, .slice rfg18a fm0.gains.length rgg18a] 33)).cell? ⟨w8.heap.size, 3, none⟩ = some (.slice rfg8a fm0.gains.length rgg8a) := by rw [World.cell?_alloc_past _ _ _ f18_box_g0.lt]; exact f18_box_g0.c3
  have q0_0 := f18_box_w0.c0
  have q0_1 := f18_box_w0.c1
  have q0_2 := f18_box_w0.c2
  have q0_3 := f18_box_w0.c3
  have q1_0 := f18_box_g0.c0
  have q1_1 := f18_box_g0.c1
  have q1_2 := f18_box_g0.c2
  have q1_3 := f18_box_g0.c3
  go_wp2_with fail
  clear q0_0 q0_1 q0_2 q0_3 q1_0 q1_1 q1_2 q1_3
  clear p0 p1 p2 p3 p4 p5 p6 p7
  obtain ⟨w19, hw19⟩ : ∃ W, W = w18.alloc (.cells #[.int .i64 fm0.vars, .slice rag18a fm0.numbers.length rcg18a, .slice rdg18a fm0.bounds.length reg18a, .slice rfg18a fm0.gains.length rgg18a] 33) := ⟨_, rfl⟩
  rw [← hw19]
  have h19 : Below w18.heap.size w18 w19 := by rw [hw19]; exact alloc_belowR _ _
  have hs19 : w19.heap.size = w18.heap.size + 1 := by rw [hw19]; simp
  have bx19 : QuadC w19 w18.heap.size 33 (.int .i64 fm0.vars) (.slice rag18a fm0.numbers.length rcg18a) (.slice rdg18a fm0.bounds.length reg18a) (.slice rfg18a fm0.gains.length rgg18a) := by rw [hw19]; exact QuadC.new _ _ _ _ _ _
  clear hw19
  have hn19 : w18.heap.size ≤ w19.heap.size := h19.size
  have hB19 : Below w.heap.size w w19 := hB18.trans (h19.mono (by omega))
  have f19_w0 := f18_w0.below h19 (by omega)
  have f19_box_w0 := f18_box_w0.below h19 f18_box_w0.lt
  have f19_g0 := f18_g0.below h19 (by omega)
  have f19_box_g0 := f18_box_g0.below h19 f18_box_g0.lt
  have f19__caR := f18__caR.below h19 (by omega)
  have f19_h0 := g18a.below h19 (by omega)
  refine (eqRows_any _ _ _ _ f19_h0.rd f19_w0.rd (by omega) (by omega)).mono ?_
  rintro e w20 ⟨rfl, h20⟩
  have hn20 : w19.heap.size ≤ w20.heap.size := h20.size
  have hB20 : Below w.heap.size w w20 := hB19.trans (h20.mono (by omega))
  have f20_w0 := f19_w0.below h20 (by omega)
  have f20_box_w0 := f19_box_w0.below h20 f19_box_w0.lt
  have f20_g0 := f19_g0.below h20 (by omega)
  have f20_box_g0 := f19_box_g0.below h20 f19_box_g0.lt
  have f20_h0 := f19_h0.below h20 (by omega)
  have f20_box_h0 := bx19.below h20 bx19.lt
  have q0_0 := f20_box_w0.c0
  have q0_1 := f20_box_w0.c1
  have q0_2 := f20_box_w0.c2
  have q0_3 := f20_box_w0.c3
  have q1_0 := f20_box_g0.c0
  have q1_1 := f20_box_g0.c1
  have q1_2 := f20_box_g0.c2
  have q1_3 := f20_box_g0.c3
  have q2_0 := f20_box_h0.c0
  have q2_1 := f20_box_h0.c1
  have q2_2 := f20_box_h0.c2
  have q2_3 := f20_box_h0.c3
  go_wp2_with fail
  clear q0_0 q0_1 q0_2 q0_3 q1_0 q1_1 q1_2 q1_3 q2_0 q2_1 q2_2 q2_3
  refine (heldRows_any _ _ _ _ f20_g0.rd (by omega) (by omega) (by omega)).mono ?_
  rintro e w21 ⟨rfl, h21⟩
  have hn21 : w20.heap.size ≤ w21.heap.size := h21.size
  have hB21 : Below w.heap.size w w21 := hB20.trans (h21.mono (by omega))
  go_wp2_with fail
  go_ret
  exact ⟨rfl, hB21⟩

set_option maxRecDepth 100000 in
theorem FnExactDropRow_lifted (os : Os) (started : os.Started) (H : Type) (enc : TypeId × Value → H) :
    ReturnsInHanded {} Try.checked os 4 .any (Rows.fnExactDropRowSpec.pre6 enc Try.prog Try.f4 Rows.fnExactDropRowRow.domain false) (Rows.fnExactDropRowSpec.post enc Try.prog Try.f4 false true false false) := by
  refine returnsInHanded_of_change (C := Try.checked) own_knob started (by kernel_rfl) Try.func4
    (ChangeSpec.witness6 (enc := enc) (C := Try.checked) false ⟨#[], #[.agg #[.int .i64 0, .slice none 0 0, .slice none 0 0, .slice none 0 0], .int .i64 0], []⟩ 8 (by kernel_rfl) (by kernel_rfl) (by kernel_rfl) (by kernel_rfl)) ?_
  intro W base args ds gs before hval0 hW hcnd _
  have hval : ∀ (j : Nat) t v, Try.f4.params[j]? = some t → args[j]? = some v → Value.okWide Try.prog W .any base t v := hval0
  have hW' := hW
  obtain ⟨p, q, hA0, hV, rfl, hfz, hnd⟩ := hW
  have hA : DataW.TrodAll enc Try.prog W 0 (fun _ => true) true Try.f4.params.toList args.toList ds p := hA0
  rw [Try.params4] at hA hval
  obtain ⟨v0, vs0, d0, ds0, p0, q0, hargs, rfl, rfl, h0, r0⟩ := trodAll_cons hA
  obtain ⟨v1, vs1, d1, ds1, p1, q1, rfl, rfl, rfl, h1, r1⟩ := trodAll_cons r0
  obtain ⟨rfl, rfl, rfl⟩ := trodAll_nil r1
  obtain rfl : args = #[v0, v1] := by cases args; simp_all
  obtain ⟨rfl, rfl⟩ := trodVars_none hV
  have lt0 : ∀ x ∈ p0, x.block < W.heap.size := by obtain ⟨m, hm⟩ := h0; exact DataW.trod_lt m _ _ _ hm
  obtain ⟨z0, k0⟩ := open_R (hval 0 31 v0 rfl rfl) h0
  obtain ⟨a1, rfl, rfl, rfl, k1⟩ := open_int Try.underlying2 (hval 1 2 v1 rfl rfl) h1
  clear hA0 hval0
  refine (FnExactDropRow_walk W v0 z0 k0 a1 (I64_of_wf k1)).mono fun e W' ⟨he, bel⟩ => ?_
  subst he
  exact ⟨_, rfl, _, _, _, [], _, [], hW', trodAll_mk1 (shut_bool Try.underlying4 _), (trodAll_cons_mk (Below.trod laid_out (by kernel_rfl) (of_decide_eq_true (by kernel_rfl)) h0 bel lt0) (trodAll_cons_mk (shut_int Try.underlying2 k1) trodAll_mk0)), rfl, bel.frame _, fun h => by cases h⟩

theorem FnExactDropRow_over : Rows.fnExactDropRowRow.holds Try.pinned (OpenSpec.ofChange Rows.fnExactDropRowSpec) :=
  OpenClaim.holds_of_wide 4 Try.f4 rfl rfl rfl rfl rfl rfl rfl ⟨rfl, rfl, rfl, rfl, rfl⟩ rfl rfl rfl rfl rfl (by kernel_rfl) Try.func4 (by kernel_rfl)
    (of_decide_eq_true (by kernel_rfl)) (by unfold Func.isWrapper; first | (rw [if_pos (by decide +kernel)]; kernel_rfl) | (rw [if_neg (by decide +kernel)]; exact ⟨rfl, rfl⟩))
    (fun os started H enc _ => FnExactDropRow_lifted os started H enc)

/-- The statement. -/
theorem FnExactDropRow_proved : Rows.FnExactDropRowSaid := FnExactDropRow_over

end Go.Proofs.Ytocngcpdpeflnaa
