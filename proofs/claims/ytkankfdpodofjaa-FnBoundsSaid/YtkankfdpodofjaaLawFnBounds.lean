/-
  The law FnBounds returns true for all arguments, and writes nothing that was there.
  There are no conditions.
-/
import Derived.Test.YtkankfdpodofjaaBoundsB
import Derived.Test.YtkankfdpodofjaaBestI
import Derived.Test.YtkankfdpodofjaaCityT
import Derived.Test.YtkankfdpodofjaaOpenY
namespace Go.Proofs.Ytkankfdpodofjaa
open Go.ChangeShapes Go.WideShapes Go.ChangeAt Go.RowKit
set_option linter.unusedVariables false
set_option maxRecDepth 100000

set_option maxHeartbeats 8000000 in
set_option maxRecDepth 100000 in
theorem FnBounds_walk (w : World) (v0 : Value) (z0 : List Int) (k0 : Byts w 0 w.heap.size v0 z0) (v1 : Value) (z1 : List Int) (k1 : Byts w 0 w.heap.size v1 z1) :
    Calls Try.prog 3 #[v0, v1] w fun e w' => e = .returned (.bool true) ∧ Below w.heap.size w w' := by
  have HLG := Lib.hid (r8Long_any v0 v1 z0 z1 w k0 k1)
  have K0 := Lib.hid k0
  have K1 := Lib.hid k1
  have HAT := Lib.hid (r8At_any v1 z1 40 5 w k1 (by decide) (by decide) (by decide))
  have har := at8_rng z1 40 5 (by decide)
  obtain ⟨a, ha⟩ : ∃ a, a = at8 z1 40 5 := ⟨_, rfl⟩
  simp only [show ((40 : Nat) : Int) = 40 from rfl, ← ha] at HAT
  rw [← ha] at har
  obtain ⟨n, hn⟩ : ∃ n : Nat, 3 + a = (n : Int) := ⟨(3 + a).toNat, by omega⟩
  have hn3 : 3 ≤ n := by omega
  have hn7 : n ≤ 7 := by omega
  have hwn : IntKind.i64.wrap (3 + a) = (n : Int) := by rw [hn]; exact IntWalk.i64_in _ (by omega)
  clear k0 k1 ha
  cases hlong : long8 z0 z1
  rotate_left
  · rw [hlong] at HLG
    go_enter Try.func3, Try.ntmps3
    go_wp2_with fail
    refine HLG.out.mono ?_
    rintro e w' ⟨rfl, rfl⟩
    go_wp2
    go_ret
    exact ⟨rfl, Below.refl _ _⟩
  rw [hlong] at HLG
  clear hlong
  go_enter Try.func3, Try.ntmps3
  go_wp2_with fail
  refine HLG.out.mono ?_
  rintro e w' ⟨rfl, rfl⟩
  go_wp2_with fail
  refine HAT.out.mono ?_
  rintro e w' ⟨rfl, rfl⟩
  go_upto_region 4 with (fail)
  clear hn hwn har HLG HAT
  go_wp2_with fail
  refine (R8Ways_any (n := n) v0 z0 w K0.out (Nat.le_refl _) (by omega) (by omega)).mono ?_
  rintro e w1 ⟨u, zs, rfl, ho, hd, hb1⟩
  obtain ⟨hc, hr⟩ := hd.cit (by omega) (by omega)
  have hcn : citN zs = n := by rw [citN_yes hc]; exact hr
  have hz1 : w.heap.size ≤ w1.heap.size := hb1.size
  have hv := ho.rd.mono (Nat.zero_le _) (Nat.le_refl _) (Nat.le_refl _)
  have hlen := hd.len
  have hnn : n * n ≤ 100 := prod_le (by omega) (by omega)
  have hn9 : 3 * 3 ≤ n * n := Nat.mul_le_mul hn3 hn3
  obtain ⟨wa, wc, rfl, d1, d2, dd⟩ := hv.out
  rcases dd with dd | ⟨wb, wo, rfl, b1, b2, b3, hcell⟩
  · exfalso; rw [dd] at hlen; simp at hlen; omega
  have HZ : Hid (zs.length ≤ 1048576) := by rw [Hid, hlen]; omega
  have HIC := Lib.hid hc
  have HRT := Lib.hid hr
  have HCN := Lib.hid hcn
  have HV := Lib.hid hv
  have HCELL := Lib.hid hcell
  have HDR := Lib.hid hd
  have HB1 := Lib.hid hb1
  obtain ⟨wl, hwl⟩ : ∃ x, x = zs.length := ⟨_, rfl⟩
  have HWL : Hid (wl = n * n) := by rw [Hid, hwl]; exact hlen
  have HWZ := Lib.hid hwl
  rw [← hwl] at HV
  rw [← hwl]
  clear ho hd hb1 hv hlen hc hr hcn hcell hwl hnn hn9 d1
  go_wp2_with fail
  refine (implBestTour_any w1 _ zs n HV.out (Nat.le_refl _) HZ.out HIC.out HRT.out).mono ?_
  rintro e w2 ⟨bv, least, A, rfl, _, hA, hlong, _, hb2⟩
  have HBF := Lib.hid (boundFacts hn3 HCN.out hA)
  have HLO := Lib.hid hlong
  have HB2 := Lib.hid hb2
  have hz2 : w1.heap.size ≤ w2.heap.size := hb2.size
  clear hA hlong hb2
  go_wp2_with fail
  refine (implCityTree_any w2 _ zs n (HV.out.below HB2.out (Nat.le_refl _)) hz2 HZ.out HIC.out HRT.out).mono ?_
  rintro e w3 ⟨ev, rfl, ho3, hb3⟩
  have HB3 := Lib.hid (HB2.out.trans (hb3.mono hz2))
  have hz3 : w1.heap.size ≤ w3.heap.size := HB3.out.size
  have hE := ho3.rd.mono (Nat.zero_le _) (Nat.le_refl _) (Nat.le_refl _)
  have htu := treeOf_unroll (wayOf zs n) n
  have hsum := HBF.out.sum
  rw [← HLO.out] at hsum
  rw [htu] at hE hsum
  rw [htu]
  simp only at hE hsum
  obtain ⟨W, hW⟩ : ∃ W, W = wayOf zs n := ⟨_, rfl⟩
  rw [← hW] at hE hsum
  rw [← hW]
  have HWW := Lib.hid hW
  have hEl := tE_len W n (n - 1)
  obtain ⟨ea, ec, rfl, e1, e2, ed⟩ := hE.out
  rcases ed with ed | ⟨eb, eo, rfl, f1, f2, f3, hecell⟩
  · exfalso; rw [ed] at hEl; simp at hEl; omega
  obtain ⟨el, hel⟩ : ∃ x, x = (tE W n (n - 1)).length := ⟨_, rfl⟩
  have HEL : Hid (el = 2 * (n - 1)) := by rw [Hid, hel]; exact hEl
  rw [← hel] at hecell
  have HEC := Lib.hid hecell
  rw [← hel]
  obtain ⟨S, hS⟩ : ∃ S, S = tT W n (n - 1) := ⟨_, rfl⟩
  rw [← hS] at hsum
  rw [← hS]
  have HS := Lib.hid hS
  have HSM := Lib.hid hsum
  clear ho3 hb3 hE htu hsum hW hEl hecell hel e1 hS
  go_wp2_with fail
  refine (implTourBound_any w3 _ zs (HV.out.below HB3.out (Nat.le_refl _)) hz3 HZ.out).mono ?_
  rintro e w4 ⟨he, hb4⟩
  rw [HBF.out.bound] at he
  subst he
  have HB4 := Lib.hid (HB3.out.trans (hb4.mono hz3))
  have HB34 := Lib.hid hb4
  have hz4 : w1.heap.size ≤ w4.heap.size := HB4.out.size
  have hle := HBF.out.le
  rw [← HLO.out] at hle
  have HP0 := HBF.out.plain
  obtain ⟨B, hB⟩ : ∃ B, B = (boundOf (wayOf zs n) n).2 := ⟨_, rfl⟩
  rw [← hB] at hle HP0
  rw [← hB]
  have HBB := Lib.hid hB
  have HPL := Lib.hid HP0
  clear hb4 hB HP0
  go_wp2_with fail
  refine (implRaisedBound_any w4 _ zs 0 (HV.out.below HB4.out (Nat.le_refl _)) hz4 HZ.out (by constructor <;> decide)).mono ?_
  rintro e w5 ⟨pv, he, ho5, hb5⟩
  rw [HPL.out] at he ho5
  subst he
  simp only at ho5
  have HB5 := Lib.hid (HB4.out.trans (hb5.mono hz4))
  have HB35 := Lib.hid (HB34.out.trans (hb5.mono HB34.out.size))
  have hz5 : w1.heap.size ≤ w5.heap.size := HB5.out.size
  have hP := ho5.rd.mono (Nat.zero_le _) (Nat.le_refl _) (Nat.le_refl _)
  obtain ⟨pa, pc, rfl, p1, p2, pd⟩ := hP.out
  rcases pd with pd | ⟨pb, po, rfl, g1, g2, g3, hpcell⟩
  · exfalso
    have := congrArg List.length pd
    simp at this; omega
  have HPC := Lib.hid hpcell
  rw [List.length_replicate]
  have HAT2 := Lib.hid (r8At_any v1 z1 41 30 w5 (K1.out.below (HB1.out.trans (HB5.out.mono hz1)) (Nat.le_refl _)) (by decide) (by decide) (by decide))
  have har2 := at8_rng z1 41 30 (by decide)
  obtain ⟨r, hr2⟩ : ∃ a, a = at8 z1 41 30 := ⟨_, rfl⟩
  simp only [show ((41 : Nat) : Int) = 41 from rfl, ← hr2] at HAT2
  rw [← hr2] at har2
  obtain ⟨G, P, hg1, hg2, hg3, hg4⟩ := HBF.out.rise r har2.1 (by omega)
  rw [← HBB.out] at hg4
  rw [← HLO.out] at hg3
  have HG1 := Lib.hid hg1
  have HG2 := Lib.hid hg2
  clear ho5 hb5 hP hpcell hr2 p1 hg1 hg2
  go_wp2_with fail
  refine HAT2.out.mono ?_
  rintro e w' ⟨rfl, rfl⟩
  go_wp2_with fail
  refine (implRaisedBound_any w5 _ zs r (HV.out.below HB5.out (Nat.le_refl _)) hz5 HZ.out (by constructor <;> omega)).mono ?_
  rintro e w6 ⟨qv, he, ho6, hb6⟩
  rw [HG1.out] at he ho6
  subst he
  simp only at ho6
  have HB6 := Lib.hid (HB5.out.trans (hb6.mono hz5))
  have HB36 := Lib.hid (HB35.out.trans (hb6.mono HB35.out.size))
  have HB56 := Lib.hid hb6
  have hz6 : w1.heap.size ≤ w6.heap.size := HB6.out.size
  obtain ⟨qa, qc, hqe, _⟩ := ho6.rd.out
  rw [HG2.out] at hqe
  subst hqe
  clear ho6 hb6
  have hsl := HSM.out
  obtain ⟨m, hm⟩ : ∃ m, m = n - 1 := ⟨_, rfl⟩
  have hm1 : (n : Int) - 1 = (m : Int) := by omega
  have hm2 : IntKind.i64.wrap (m : Int) = (m : Int) := IntWalk.i64_in _ (by omega)
  have hel2 : el = 2 * m := by rw [HEL.out, hm]
  have hm3 : 2 * (m : Int) = (el : Int) := by omega
  have hm4 : IntKind.i64.wrap (el : Int) = (el : Int) := IntWalk.i64_in _ (by omega)
  have t1 : ¬ least < B := by omega
  have t2 : ¬ least < G := by omega
  have t3 : ¬ G < B := by omega
  have t4 : ¬ least < S := by omega
  have t5 : decide (least < B) = false := decide_eq_false t1
  have t6 : decide (least < G) = false := decide_eq_false t2
  have t7 : decide (G < B) = false := decide_eq_false t3
  have t8 : decide (least < S) = false := decide_eq_false t4
  clear hle hg3 hg4 hsl hm hel2
  go_upto_region 12 with (fail)
  rw [HS.out]
  have s3 := HB36.out.size
  have s5 := HB56.out.size
  have x1 : wb < w6.heap.size := by omega
  have x2 : eb < w6.heap.size := by omega
  have x3 : pb < w6.heap.size := by omega
  have x4 : ∀ a b : Nat, a < n → b < n → w6.cell? ⟨wb, wo + (a * n + b), none⟩ = some (.int .i64 (W a b)) := fun a b ha hb => by
    have hpl := pos_lt ha hb
    rw [HB6.out.cell (p := ⟨wb, wo + (a * n + b), none⟩) b2, HCELL.out _ (by rw [← HWZ.out, HWL.out]; exact hpl), HWW.out, wayOf_nat]
  have x5 : ∀ a b : Int, 0 ≤ a → a < (n : Int) → 0 ≤ b → b < (n : Int) → 0 ≤ W a b ∧ W a b ≤ 1000 := fun a b a1 a2 b1 b2 => by
    rw [HWW.out]
    exact wayOf_rng (ws := zs) (n := n) HDR.out.len.symm (fun x hx => by have := HDR.out.rng x hx; omega) a1 a2 b1 b2
  have x6 : ∀ i, i < el → w6.cell? ⟨eb, eo + i, none⟩ = some (.int .i64 ((tE W n (n - 1)).getD i 0)) := fun i hi => by
    rw [HB36.out.cell (p := ⟨eb, eo + i, none⟩) f2]
    exact HEC.out i hi
  have x7 : ∀ i, i < n → w6.cell? ⟨pb, po + i, none⟩ = some (.int .i64 0) := fun i hi => by
    rw [HB56.out.cell (p := ⟨pb, po + i, none⟩) g2, HPC.out i (by simpa using hi), rep_getD]
  exact join_part (by assumption) (boundsB w w6 (W := W) (HB1.out.trans (HB6.out.mono hz1)) hn3 hn7 HEL.out HWL.out x1 x2 x3 x4 x5 x6 x7)

set_option maxRecDepth 100000 in
theorem FnBounds_lifted (os : Os) (started : os.Started) (H : Type) (enc : TypeId × Value → H) :
    ReturnsInHanded {} Try.checked os 3 .any (Rows.fnBoundsSpec.pre6 enc Try.prog Try.f3 Rows.fnBoundsRow.domain false) (Rows.fnBoundsSpec.post enc Try.prog Try.f3 false true false false) := by
  refine returnsInHanded_of_change (C := Try.checked) own_knob started (by kernel_rfl) Try.func3
    (ChangeSpec.witness6 (enc := enc) (C := Try.checked) false ⟨#[], #[.slice none 0 0, .slice none 0 0], []⟩ 8 (by kernel_rfl) (by kernel_rfl) (by kernel_rfl) (by kernel_rfl)) ?_
  intro W base args ds gs before hval0 hW hcnd _
  have hval : ∀ (j : Nat) t v, Try.f3.params[j]? = some t → args[j]? = some v → Value.okWide Try.prog W .any base t v := hval0
  have hW' := hW
  obtain ⟨p, q, hA0, hV, rfl, hfz, hnd⟩ := hW
  have hA : DataW.TrodAll enc Try.prog W 0 (fun _ => true) true Try.f3.params.toList args.toList ds p := hA0
  rw [Try.params3] at hA hval
  obtain ⟨v0, vs0, d0, ds0, p0, q0, hargs, rfl, rfl, h0, r0⟩ := trodAll_cons hA
  obtain ⟨v1, vs1, d1, ds1, p1, q1, rfl, rfl, rfl, h1, r1⟩ := trodAll_cons r0
  obtain ⟨rfl, rfl, rfl⟩ := trodAll_nil r1
  obtain rfl : args = #[v0, v1] := by cases args; simp_all
  obtain ⟨rfl, rfl⟩ := trodVars_none hV
  have lt0 : ∀ x ∈ p0, x.block < W.heap.size := by obtain ⟨m, hm⟩ := h0; exact DataW.trod_lt m _ _ _ hm
  obtain ⟨z0, k0⟩ := open_Y (hval 0 22 v0 rfl rfl) h0
  have lt1 : ∀ x ∈ p1, x.block < W.heap.size := by obtain ⟨m, hm⟩ := h1; exact DataW.trod_lt m _ _ _ hm
  obtain ⟨z1, k1⟩ := open_Y (hval 1 22 v1 rfl rfl) h1
  clear hA0 hval0
  refine (FnBounds_walk W v0 z0 k0 v1 z1 k1).mono fun e W' ⟨he, bel⟩ => ?_
  subst he
  exact ⟨_, rfl, _, _, _, [], _, [], hW', trodAll_mk1 (shut_bool Try.underlying4 _), (trodAll_cons_mk (Below.trod laid_out (by kernel_rfl) (of_decide_eq_true (by kernel_rfl)) h0 bel lt0) (trodAll_cons_mk (Below.trod laid_out (by kernel_rfl) (of_decide_eq_true (by kernel_rfl)) h1 bel lt1) trodAll_mk0)), rfl, bel.frame _, fun h => by cases h⟩

theorem FnBounds_over : Rows.fnBoundsRow.holds Try.pinned (OpenSpec.ofChange Rows.fnBoundsSpec) :=
  OpenClaim.holds_of_wide 3 Try.f3 rfl rfl rfl rfl rfl rfl rfl ⟨rfl, rfl, rfl, rfl, rfl⟩ rfl rfl rfl rfl rfl (by kernel_rfl) Try.func3 (by kernel_rfl)
    (of_decide_eq_true (by kernel_rfl)) (by unfold Func.isWrapper; first | (rw [if_pos (by decide +kernel)]; kernel_rfl) | (rw [if_neg (by decide +kernel)]; exact ⟨rfl, rfl⟩))
    (fun os started H enc _ => FnBounds_lifted os started H enc)

/-- The statement. -/
theorem FnBounds_proved : Rows.FnBoundsSaid := FnBounds_over

end Go.Proofs.Ytkankfdpodofjaa
