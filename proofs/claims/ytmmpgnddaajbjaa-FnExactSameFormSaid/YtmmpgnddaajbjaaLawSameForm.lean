/-
  The law FnExactSameForm returns true for all arguments, and writes nothing that was there.
  There are no conditions.
-/
import Derived.Test.YtmmpgnddaajbjaaSameForm
import Derived.Test.YtmmpgnddaajbjaaOpen
import Derived.Test.YtmmpgnddaajbjaaOpenF
import Derived.Deep.RegionHeld3
import Derived.Deep.RegionWith
namespace Go.Proofs.Ytmmpgnddaajbjaa
open Go.ChangeShapes Go.WideShapes Go.ChangeAt Go.RowKit
set_option linter.unusedVariables false

set_option maxHeartbeats 2000000 in
set_option maxRecDepth 100000 in
theorem FnExactSameForm_walk (w : World) (v0 : Value) (z0 : FormD) (k0 : FormR w 0 w.heap.size v0 z0) (v1 : Value) (z1 : FormD) (k1 : FormR w 0 w.heap.size v1 z1) :
    Calls Try.prog 3 #[v0, v1] w fun e w' => e = .returned (.bool true) ∧ Below w.heap.size w w' := by
  obtain ⟨x0, rfl, y0⟩ := k0.ex
  clear y0
  obtain ⟨x1, rfl, y1⟩ := k1.ex
  clear y1
  have hB0 : Below w.heap.size w w := Below.refl _ _
  have hn0 : w.heap.size ≤ w.heap.size := Nat.le_refl _
  go_enter Try.func3, Try.ntmps3
  go_wp2_with fail
  obtain ⟨w1, hw1⟩ : ∃ W, W = w.alloc (.cells #[.int .i64 z0.letters, x0] 24) := ⟨_, rfl⟩
  rw [← hw1]
  have h1 : Below w.heap.size w w1 := by rw [hw1]; exact alloc_below _ _
  have hs1 : w1.heap.size = w.heap.size + 1 := by rw [hw1]; simp
  have bx1 : BoxF w1 w.heap.size (z0.letters) (x0) := by rw [hw1]; exact BoxF.new _ _ _ _
  clear hw1
  have hn1 : w.heap.size ≤ w1.heap.size := h1.size
  have hB1 : Below w.heap.size w w1 := hB0.trans (h1.mono (by omega))
  have f1_aA := k0.below h1 (by omega)
  have f1_aB := k1.below h1 (by omega)
  obtain ⟨w2, hw2⟩ : ∃ W, W = w1.alloc (.cells #[.int .i64 z1.letters, x1] 24) := ⟨_, rfl⟩
  rw [← hw2]
  have h2 : Below w1.heap.size w1 w2 := by rw [hw2]; exact alloc_below _ _
  have hs2 : w2.heap.size = w1.heap.size + 1 := by rw [hw2]; simp
  have bx2 : BoxF w2 (w.heap.size + 1) (z1.letters) (x1) := by rw [hw2, ← hs1]; exact BoxF.new _ _ _ _
  clear hw2
  have hn2 : w1.heap.size ≤ w2.heap.size := h2.size
  have hB2 : Below w.heap.size w w2 := hB1.trans (h2.mono (by omega))
  have f2_aA := f1_aA.below h2 (by omega)
  have f2_aB := f1_aB.below h2 (by omega)
  have f2_box_aA := bx1.below h2 bx1.lt
  refine (szForm_any _ _ (1048576) w2 f2_aA (by omega) (by omega) (by omega)).mono ?_
  rintro e w3 ⟨n1, rfl, h3, na1, nb1, nc1⟩
  have hn3 : w2.heap.size ≤ w3.heap.size := h3.size
  have hB3 : Below w.heap.size w w3 := hB2.trans (h3.mono (by omega))
  have f3_aA := f2_aA.below h3 (by omega)
  have f3_aB := f2_aB.below h3 (by omega)
  have f3_box_aA := f2_box_aA.below h3 f2_box_aA.lt
  have f3_box_aB := bx2.below h3 bx2.lt
  by_cases hneg1 : n1 < 0
  · go_wp2
    go_ret
    exact ⟨rfl, hB3⟩
  have hz0 := nc1 (by omega)
  have q0 := f3_box_aA.c0
  have q1 := f3_box_aA.c1
  have q2 := f3_box_aB.c0
  have q3 := f3_box_aB.c1
  go_wp2_with fail
  clear q0 q1 q2 q3
  refine (szForm_any _ _ (n1) w3 f3_aB (by omega) (by omega) (by omega)).mono ?_
  rintro e w4 ⟨n2, rfl, h4, na2, nb2, nc2⟩
  have hn4 : w3.heap.size ≤ w4.heap.size := h4.size
  have hB4 : Below w.heap.size w w4 := hB3.trans (h4.mono (by omega))
  have f4_aA := f3_aA.below h4 (by omega)
  have f4_aB := f3_aB.below h4 (by omega)
  have f4_box_aA := f3_box_aA.below h4 f3_box_aA.lt
  have f4_box_aB := f3_box_aB.below h4 f3_box_aB.lt
  by_cases hneg2 : n2 < 0
  · go_wp2
    go_ret
    exact ⟨rfl, hB4⟩
  have hz1 := nc2 (by omega)
  have q0 := f4_box_aA.c0
  have q1 := f4_box_aA.c1
  have q2 := f4_box_aB.c0
  have q3 := f4_box_aB.c1
  go_wp2_with fail
  clear q0 q1 q2 q3
  have hdD : Drew w4 w4.drew := ⟨1, rfl⟩
  have bxd_aA := f4_box_aA
  have bxd_aB := f4_box_aB
  have hK : Hid (∀ w' : World, Below w4.heap.size w4 w' → w'.cell? ⟨w.heap.size, 0, none⟩ = some (.int .i64 z0.letters) ∧ w'.cell? ⟨w.heap.size, 1, none⟩ = some (x0) ∧ w'.cell? ⟨(w.heap.size + 1), 0, none⟩ = some (.int .i64 z1.letters) ∧ w'.cell? ⟨(w.heap.size + 1), 1, none⟩ = some (x1)) := fun w' hb => ⟨(bxd_aA.below hb bxd_aA.lt).c0, (bxd_aA.below hb bxd_aA.lt).c1, (bxd_aB.below hb bxd_aB.lt).c0, (bxd_aB.below hb bxd_aB.lt).c1⟩
  go_region_held3 (fun w' => w'.cell? ⟨w.heap.size, 0, none⟩ = some (.int .i64 z0.letters) ∧ w'.cell? ⟨w.heap.size, 1, none⟩ = some (x0) ∧ w'.cell? ⟨(w.heap.size + 1), 0, none⟩ = some (.int .i64 z1.letters) ∧ w'.cell? ⟨(w.heap.size + 1), 1, none⟩ = some (x1)) (first | exact hK.out _ (hdD.below _) | exact hK.out _ jb | exact hK.out _ jb | exact hK.out _ jaA | exact hK.out _ jaB | exact hK.out _ jc) (first | (go_at_call_of 17 x1; refine (toForm_any _ _ waA (f4_aB.below jaA (by omega)) hz1 (by omega)).mono ?_; rintro e wb ⟨uB, rfl, gB, ib⟩; have jb : Below w4.heap.size w4 wb := jaA.trans (ib.mono ka); have kb := ib.size; have sA := gA.rd.below ib (Nat.le_refl _); have sB := gB.rd) | (go_at_call_of 17 x0; refine (toForm_any _ _ waB (f4_aA.below jaB (by omega)) hz0 (by omega)).mono ?_; rintro e wb ⟨uA, rfl, gA, ib⟩; have jb : Below w4.heap.size w4 wb := jaB.trans (ib.mono ka); have kb := ib.size; have sA := gA.rd; have sB := gB.rd.below ib (Nat.le_refl _)) | (go_at_call_of 17 x0; refine (toForm_any _ _ w4.drew (f4_aA.drew hdD) hz0 (by rw [hdD.heap]; omega)).mono ?_; rintro e waA ⟨uA, rfl, gA, ia⟩; have jaA : Below w4.heap.size w4 waA := (hdD.below _).trans ia; have ka := jaA.size) | (go_at_call_of 17 x1; refine (toForm_any _ _ w4.drew (f4_aB.drew hdD) hz1 (by rw [hdD.heap]; omega)).mono ?_; rintro e waB ⟨uB, rfl, gB, ia⟩; have jaB : Below w4.heap.size w4 waB := (hdD.below _).trans ia; have ka := jaB.size) | (go_at_call 16; refine (specSameForm_any wb _ _ _ _ sA (by omega) hz0 sB (by omega) hz1).mono ?_; rintro e wc ⟨rfl, ic⟩; have jc : Below w4.heap.size w4 wc := jb.trans (ic.mono (by omega))))
  clear hdD hK
  all_goals
    obtain ⟨w5, ew5⟩ : ∃ W, W = wc := ⟨_, rfl⟩
    rw [← ew5] at jc
    rw [← ew5]
    clear ew5
    have h5 := jc
    have hn5 : w4.heap.size ≤ w5.heap.size := h5.size
    have hB5 : Below w.heap.size w w5 := hB4.trans (h5.mono (by omega))
    have f5_aA := f4_aA.below h5 (by omega)
    have f5_aB := f4_aB.below h5 (by omega)
    have f5_box_aA := f4_box_aA.below h5 f4_box_aA.lt
    have f5_box_aB := f4_box_aB.below h5 f4_box_aB.lt
    have q0 := f5_box_aA.c0
    have q1 := f5_box_aA.c1
    have q2 := f5_box_aB.c0
    have q3 := f5_box_aB.c1
    go_wp2_with fail
    clear q0 q1 q2 q3
    refine (toForm_any _ _ _ f5_aA hz0 (by omega)).mono ?_
    rintro e w6 ⟨u6, rfl, g6, h6⟩
    obtain ⟨ra6, rc6, rfl⟩ := g6.shape
    have hn6 : w5.heap.size ≤ w6.heap.size := h6.size
    have hB6 : Below w.heap.size w w6 := hB5.trans (h6.mono (by omega))
    have f6_aA := f5_aA.below h6 (by omega)
    have f6_aB := f5_aB.below h6 (by omega)
    have f6_box_aA := f5_box_aA.below h6 f5_box_aA.lt
    have f6_box_aB := f5_box_aB.below h6 f5_box_aB.lt
    have p0 : (w6.alloc (.cells #[.int .i64 z0.letters, .slice ra6 z0.clauses.length rc6] 27)).cell? ⟨w.heap.size, 0, none⟩ = some (.int .i64 z0.letters) := by rw [World.cell?_alloc_past _ _ _ f6_box_aA.lt]; exact f6_box_aA.c0
    have p1 : (w6.alloc (.cells #[.int .i64 z0.letters, .slice ra6 z0.clauses.length rc6] 27)).cell? ⟨w.heap.size, 1, none⟩ = some (x0) := by rw [World.cell?_alloc_past _ _ _ f6_box_aA.lt]; exact f6_box_aA.c1
    have p2 : (w6.alloc (.cells #[.int .i64 z0.letters, .slice ra6 z0.clauses.length rc6] 27)).cell? ⟨(w.heap.size + 1), 0, none⟩ = some (.int .i64 z1.letters) := by rw [World.cell?_alloc_past _ _ _ f6_box_aB.lt]; exact f6_box_aB.c0
    have p3 : (w6.alloc (.cells #[.int .i64 z0.letters, .slice ra6 z0.clauses.length rc6] 27)).cell? ⟨(w.heap.size + 1), 1, none⟩ = some (x1) := by rw [World.cell?_alloc_past _ _ _ f6_box_aB.lt]; exact f6_box_aB.c1
    have q0 := f6_box_aA.c0
    have q1 := f6_box_aA.c1
    have q2 := f6_box_aB.c0
    have q3 := f6_box_aB.c1
    go_wp2_with fail
    clear q0 q1 q2 q3
    clear p0 p1 p2 p3
    obtain ⟨w7, hw7⟩ : ∃ W, W = w6.alloc (.cells #[.int .i64 z0.letters, .slice ra6 z0.clauses.length rc6] 27) := ⟨_, rfl⟩
    rw [← hw7]
    have h7 : Below w6.heap.size w6 w7 := by rw [hw7]; exact alloc_below _ _
    have hs7 : w7.heap.size = w6.heap.size + 1 := by rw [hw7]; simp
    have bx7 : BoxF w7 w6.heap.size (z0.letters) (.slice ra6 z0.clauses.length rc6) := by rw [hw7]; exact BoxF.new _ _ _ _
    clear hw7
    have hn7 : w6.heap.size ≤ w7.heap.size := h7.size
    have hB7 : Below w.heap.size w w7 := hB6.trans (h7.mono (by omega))
    have f7_aA := f6_aA.below h7 (by omega)
    have f7_aB := f6_aB.below h7 (by omega)
    have f7_box_aA := f6_box_aA.below h7 f6_box_aA.lt
    have f7_box_aB := f6_box_aB.below h7 f6_box_aB.lt
    have f7_x0 := g6.below h7 (by omega)
    refine (toForm_any _ _ _ f7_aB hz1 (by omega)).mono ?_
    rintro e w8 ⟨u8, rfl, g8, h8⟩
    obtain ⟨ra8, rc8, rfl⟩ := g8.shape
    have hn8 : w7.heap.size ≤ w8.heap.size := h8.size
    have hB8 : Below w.heap.size w w8 := hB7.trans (h8.mono (by omega))
    have f8_aA := f7_aA.below h8 (by omega)
    have f8_aB := f7_aB.below h8 (by omega)
    have f8_box_aA := f7_box_aA.below h8 f7_box_aA.lt
    have f8_box_aB := f7_box_aB.below h8 f7_box_aB.lt
    have f8_x0 := f7_x0.below h8 (by omega)
    have f8_box_x0 := bx7.below h8 bx7.lt
    have p0 : (w8.alloc (.cells #[.int .i64 z1.letters, .slice ra8 z1.clauses.length rc8] 27)).cell? ⟨w.heap.size, 0, none⟩ = some (.int .i64 z0.letters) := by rw [World.cell?_alloc_past _ _ _ f8_box_aA.lt]; exact f8_box_aA.c0
    have p1 : (w8.alloc (.cells #[.int .i64 z1.letters, .slice ra8 z1.clauses.length rc8] 27)).cell? ⟨w.heap.size, 1, none⟩ = some (x0) := by rw [World.cell?_alloc_past _ _ _ f8_box_aA.lt]; exact f8_box_aA.c1
    have p2 : (w8.alloc (.cells #[.int .i64 z1.letters, .slice ra8 z1.clauses.length rc8] 27)).cell? ⟨(w.heap.size + 1), 0, none⟩ = some (.int .i64 z1.letters) := by rw [World.cell?_alloc_past _ _ _ f8_box_aB.lt]; exact f8_box_aB.c0
    have p3 : (w8.alloc (.cells #[.int .i64 z1.letters, .slice ra8 z1.clauses.length rc8] 27)).cell? ⟨(w.heap.size + 1), 1, none⟩ = some (x1) := by rw [World.cell?_alloc_past _ _ _ f8_box_aB.lt]; exact f8_box_aB.c1
    have p4 : (w8.alloc (.cells #[.int .i64 z1.letters, .slice ra8 z1.clauses.length rc8] 27)).cell? ⟨w6.heap.size, 0, none⟩ = some (.int .i64 z0.letters) := by rw [World.cell?_alloc_past _ _ _ f8_box_x0.lt]; exact f8_box_x0.c0
    have p5 : (w8.alloc (.cells #[.int .i64 z1.letters, .slice ra8 z1.clauses.length rc8] 27)).cell? ⟨w6.heap.size, 1, none⟩ = some (.slice ra6 z0.clauses.length rc6) := by rw [World.cell?_alloc_past _ _ _ f8_box_x0.lt]; exact f8_box_x0.c1
    have q0 := f8_box_aA.c0
    have q1 := f8_box_aA.c1
    have q2 := f8_box_aB.c0
    have q3 := f8_box_aB.c1
    have q4 := f8_box_x0.c0
    have q5 := f8_box_x0.c1
    go_wp2_with fail
    clear q0 q1 q2 q3 q4 q5
    clear p0 p1 p2 p3 p4 p5
    obtain ⟨w9, hw9⟩ : ∃ W, W = w8.alloc (.cells #[.int .i64 z1.letters, .slice ra8 z1.clauses.length rc8] 27) := ⟨_, rfl⟩
    rw [← hw9]
    have h9 : Below w8.heap.size w8 w9 := by rw [hw9]; exact alloc_below _ _
    have hs9 : w9.heap.size = w8.heap.size + 1 := by rw [hw9]; simp
    have bx9 : BoxF w9 w8.heap.size (z1.letters) (.slice ra8 z1.clauses.length rc8) := by rw [hw9]; exact BoxF.new _ _ _ _
    clear hw9
    have hn9 : w8.heap.size ≤ w9.heap.size := h9.size
    have hB9 : Below w.heap.size w w9 := hB8.trans (h9.mono (by omega))
    have f9_aA := f8_aA.below h9 (by omega)
    have f9_aB := f8_aB.below h9 (by omega)
    have f9_box_aA := f8_box_aA.below h9 f8_box_aA.lt
    have f9_box_aB := f8_box_aB.below h9 f8_box_aB.lt
    have f9_x0 := f8_x0.below h9 (by omega)
    have f9_box_x0 := f8_box_x0.below h9 f8_box_x0.lt
    have f9_x1 := g8.below h9 (by omega)
    refine (implSameForm_any w9 _ _ _ _ f9_x0.rd (by omega) hz0 f9_x1.rd (by omega) hz1).mono ?_
    rintro e w10 ⟨rfl, h10⟩
    have hn10 : w9.heap.size ≤ w10.heap.size := h10.size
    have hB10 : Below w.heap.size w w10 := hB9.trans (h10.mono (by omega))
    have f10_aA := f9_aA.below h10 (by omega)
    have f10_aB := f9_aB.below h10 (by omega)
    have f10_box_aA := f9_box_aA.below h10 f9_box_aA.lt
    have f10_box_aB := f9_box_aB.below h10 f9_box_aB.lt
    have f10_x0 := f9_x0.below h10 (by omega)
    have f10_box_x0 := f9_box_x0.below h10 f9_box_x0.lt
    have f10_x1 := f9_x1.below h10 (by omega)
    have f10_box_x1 := bx9.below h10 bx9.lt
    have q0 := f10_box_aA.c0
    have q1 := f10_box_aA.c1
    have q2 := f10_box_aB.c0
    have q3 := f10_box_aB.c1
    have q4 := f10_box_x0.c0
    have q5 := f10_box_x0.c1
    have q6 := f10_box_x1.c0
    have q7 := f10_box_x1.c1
    go_wp2_with fail
    clear q0 q1 q2 q3 q4 q5 q6 q7
    have hdD : Drew w10 w10.drew := ⟨1, rfl⟩
    have bxd_x0 := f10_box_x0
    have bxd_aA := f10_box_aA
    have hK : Hid (∀ w' : World, Below w10.heap.size w10 w' → w'.cell? ⟨w6.heap.size, 0, none⟩ = some (.int .i64 z0.letters) ∧ w'.cell? ⟨w6.heap.size, 1, none⟩ = some (.slice ra6 z0.clauses.length rc6) ∧ w'.cell? ⟨w.heap.size, 0, none⟩ = some (.int .i64 z0.letters) ∧ w'.cell? ⟨w.heap.size, 1, none⟩ = some (x0)) := fun w' hb => ⟨(bxd_x0.below hb bxd_x0.lt).c0, (bxd_x0.below hb bxd_x0.lt).c1, (bxd_aA.below hb bxd_aA.lt).c0, (bxd_aA.below hb bxd_aA.lt).c1⟩
    go_region_held3 (fun w' => w'.cell? ⟨w6.heap.size, 0, none⟩ = some (.int .i64 z0.letters) ∧ w'.cell? ⟨w6.heap.size, 1, none⟩ = some (.slice ra6 z0.clauses.length rc6) ∧ w'.cell? ⟨w.heap.size, 0, none⟩ = some (.int .i64 z0.letters) ∧ w'.cell? ⟨w.heap.size, 1, none⟩ = some (x0)) (first | exact hK.out _ (hdD.below _) | exact hK.out _ j11 | exact hK.out _ h12) (first | (go_at_call 17; refine (toForm_any _ _ w10.drew (f10_aA.drew hdD) hz0 (by rw [hdD.heap]; omega)).mono ?_; rintro e w11 ⟨u11, rfl, g11, i11⟩; have j11 : Below w10.heap.size w10 w11 := (hdD.below _).trans i11; have k11 := j11.size; have l11 := f10_x0.rd.below j11 (by omega)) | (go_at_call 19; refine (eqForm_any _ _ _ _ w11 l11 g11.rd (by omega) (Nat.le_refl _)).mono ?_; rintro e w12 ⟨rfl, i12⟩; have h12 : Below w10.heap.size w10 w12 := j11.trans (i12.mono k11)))
    clear hdD hK
    have hn12 : w10.heap.size ≤ w12.heap.size := h12.size
    have hB12 : Below w.heap.size w w12 := hB10.trans (h12.mono (by omega))
    have f12_aB := f10_aB.below h12 (by omega)
    have f12_box_aB := f10_box_aB.below h12 f10_box_aB.lt
    have f12_x1 := f10_x1.below h12 (by omega)
    have f12_box_x1 := f10_box_x1.below h12 f10_box_x1.lt
    have q0 := f12_box_aB.c0
    have q1 := f12_box_aB.c1
    have q2 := f12_box_x1.c0
    have q3 := f12_box_x1.c1
    go_wp2_with fail
    clear q0 q1 q2 q3
    have hdD : Drew w12 w12.drew := ⟨1, rfl⟩
    have bxd_x1 := f12_box_x1
    have bxd_aB := f12_box_aB
    have hK : Hid (∀ w' : World, Below w12.heap.size w12 w' → w'.cell? ⟨w8.heap.size, 0, none⟩ = some (.int .i64 z1.letters) ∧ w'.cell? ⟨w8.heap.size, 1, none⟩ = some (.slice ra8 z1.clauses.length rc8) ∧ w'.cell? ⟨(w.heap.size + 1), 0, none⟩ = some (.int .i64 z1.letters) ∧ w'.cell? ⟨(w.heap.size + 1), 1, none⟩ = some (x1)) := fun w' hb => ⟨(bxd_x1.below hb bxd_x1.lt).c0, (bxd_x1.below hb bxd_x1.lt).c1, (bxd_aB.below hb bxd_aB.lt).c0, (bxd_aB.below hb bxd_aB.lt).c1⟩
    go_region_held3 (fun w' => w'.cell? ⟨w8.heap.size, 0, none⟩ = some (.int .i64 z1.letters) ∧ w'.cell? ⟨w8.heap.size, 1, none⟩ = some (.slice ra8 z1.clauses.length rc8) ∧ w'.cell? ⟨(w.heap.size + 1), 0, none⟩ = some (.int .i64 z1.letters) ∧ w'.cell? ⟨(w.heap.size + 1), 1, none⟩ = some (x1)) (first | exact hK.out _ (hdD.below _) | exact hK.out _ j13 | exact hK.out _ h14) (first | (go_at_call 17; refine (toForm_any _ _ w12.drew (f12_aB.drew hdD) hz1 (by rw [hdD.heap]; omega)).mono ?_; rintro e w13 ⟨u13, rfl, g13, i13⟩; have j13 : Below w12.heap.size w12 w13 := (hdD.below _).trans i13; have k13 := j13.size; have l13 := f12_x1.rd.below j13 (by omega)) | (go_at_call 19; refine (eqForm_any _ _ _ _ w13 l13 g13.rd (by omega) (Nat.le_refl _)).mono ?_; rintro e w14 ⟨rfl, i14⟩; have h14 : Below w12.heap.size w12 w14 := j13.trans (i14.mono k13)))
    clear hdD hK
    have hn14 : w12.heap.size ≤ w14.heap.size := h14.size
    have hB14 : Below w.heap.size w w14 := hB12.trans (h14.mono (by omega))
    go_wp2_with fail
    go_ret
    exact ⟨rfl, hB14⟩

set_option maxRecDepth 100000 in
theorem FnExactSameForm_lifted (os : Os) (started : os.Started) (H : Type) (enc : TypeId × Value → H) :
    ReturnsInHanded {} Try.checked os 3 .any (Rows.fnExactSameFormSpec.pre6 enc Try.prog Try.f3 Rows.fnExactSameFormRow.domain false) (Rows.fnExactSameFormSpec.post enc Try.prog Try.f3 false true false false) := by
  refine returnsInHanded_of_change (C := Try.checked) own_knob started (by kernel_rfl) Try.func3
    (ChangeSpec.witness6 (enc := enc) (C := Try.checked) false ⟨#[], #[.agg #[.int .i64 0, .slice none 0 0], .agg #[.int .i64 0, .slice none 0 0]], []⟩ 8 (by kernel_rfl) (by kernel_rfl) (by kernel_rfl) (by kernel_rfl)) ?_
  intro W base args ds gs before hval0 hW hcnd _
  have hval : ∀ (j : Nat) t v, Try.f3.params[j]? = some t → args[j]? = some v → Value.okWide Try.prog W .any base t v := hval0
  have hW' := hW
  obtain ⟨p, q, hA0, hV, rfl, hfz, hnd⟩ := hW
  have hA : DataW.TrodAll enc Try.prog W 0 (fun _ => true) true Try.f3.params.toList args.toList ds p := hA0
  rw [Try.params3] at hA hval
  obtain ⟨v0, vs0, d0, ds0, p0, q0, hargs, rfl, rfl, h0, r0⟩ := trodAll_cons hA
  obtain ⟨v1, vs1, d1, ds1, p1, q1, rfl, rfl, rfl, h1, r1⟩ := trodAll_cons r0
  obtain ⟨rfl, rfl, rfl⟩ := trodAll_nil r1
  obtain rfl : args = #[v0, v1] := by cases args; simp_all
  obtain ⟨rfl, rfl⟩ := trodVars_none hV
  have lt0 : ∀ x ∈ p0, x.block < W.heap.size := by obtain ⟨m, hm⟩ := h0; exact DataW.trod_lt m _ _ _ hm
  obtain ⟨z0, k0⟩ := open_F (hval 0 24 v0 rfl rfl) h0
  have lt1 : ∀ x ∈ p1, x.block < W.heap.size := by obtain ⟨m, hm⟩ := h1; exact DataW.trod_lt m _ _ _ hm
  obtain ⟨z1, k1⟩ := open_F (hval 1 24 v1 rfl rfl) h1
  clear hA0 hval0
  refine (FnExactSameForm_walk W v0 z0 k0 v1 z1 k1).mono fun e W' ⟨he, bel⟩ => ?_
  subst he
  exact ⟨_, rfl, _, _, _, [], _, [], hW', trodAll_mk1 (shut_bool Try.underlying4 _), (trodAll_cons_mk (Below.trod laid_out (by kernel_rfl) (of_decide_eq_true (by kernel_rfl)) h0 bel lt0) (trodAll_cons_mk (Below.trod laid_out (by kernel_rfl) (of_decide_eq_true (by kernel_rfl)) h1 bel lt1) trodAll_mk0)), rfl, bel.frame _, fun h => by cases h⟩

theorem FnExactSameForm_over : Rows.fnExactSameFormRow.holds Try.pinned (OpenSpec.ofChange Rows.fnExactSameFormSpec) :=
  OpenClaim.holds_of_wide 3 Try.f3 rfl rfl rfl rfl rfl rfl rfl ⟨rfl, rfl, rfl, rfl, rfl⟩ rfl rfl rfl rfl rfl (by kernel_rfl) Try.func3 (by kernel_rfl)
    (of_decide_eq_true (by kernel_rfl)) (by unfold Func.isWrapper; first | (rw [if_pos (by decide +kernel)]; kernel_rfl) | (rw [if_neg (by decide +kernel)]; exact ⟨rfl, rfl⟩))
    (fun os started H enc _ => FnExactSameForm_lifted os started H enc)

/-- The statement. -/
theorem FnExactSameForm_proved : Rows.FnExactSameFormSaid := FnExactSameForm_over

end Go.Proofs.Ytmmpgnddaajbjaa
