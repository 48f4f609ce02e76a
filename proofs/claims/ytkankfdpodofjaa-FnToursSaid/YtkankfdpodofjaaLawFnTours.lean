/-
  The law FnTours returns true for all arguments, and writes nothing that was there.
  There are no conditions.
-/
import Derived.Test.YtkankfdpodofjaaTourC
import Derived.Test.YtkankfdpodofjaaBestI
import Derived.Test.YtkankfdpodofjaaOpenY
namespace Go.Proofs.Ytkankfdpodofjaa
open Go.ChangeShapes Go.WideShapes Go.ChangeAt Go.RowKit
set_option linter.unusedVariables false
set_option maxRecDepth 100000

theorem move_yes {ws B : List Int} {n : Nat} (hc : CitN ws n) (hB : TourN B n) : moveTour ws B = ((mvGo ws n ((longP ws n B).toNat + 1) B 0).1, (mvGo ws n ((longP ws n B).toNat + 1) B 0).2, true) := by
  rw [moveTour, hc.num, if_pos ⟨hc.cit, hB.order⟩]
set_option maxHeartbeats 16000000 in
set_option maxRecDepth 100000 in
theorem FnTours_walk (w : World) (v0 : Value) (z0 : List Int) (k0 : Byts w 0 w.heap.size v0 z0) (v1 : Value) (z1 : List Int) (k1 : Byts w 0 w.heap.size v1 z1) :
    Calls Try.prog 6 #[v0, v1] w fun e w' => e = .returned (.bool true) ∧ Below w.heap.size w w' := by
  have HLG := Lib.hid (r8Long_any v0 v1 z0 z1 w k0 k1)
  have K0 := Lib.hid k0
  have K1 := Lib.hid k1
  have HAT := Lib.hid (r8At_any v1 z1 40 7 w k1 (by decide) (by decide) (by decide))
  have har := at8_rng z1 40 7 (by decide)
  obtain ⟨a, ha⟩ : ∃ a, a = at8 z1 40 7 := ⟨_, rfl⟩
  simp only [show ((40 : Nat) : Int) = 40 from rfl, ← ha] at HAT
  rw [← ha] at har
  obtain ⟨n, hn⟩ : ∃ n : Nat, 1 + a = (n : Int) := ⟨(1 + a).toNat, by omega⟩
  have hn1 : 1 ≤ n := by omega
  have hn7 : n ≤ 7 := by omega
  have hwn : IntKind.i64.wrap (1 + a) = (n : Int) := by rw [hn]; exact IntWalk.i64_in _ (by omega)
  clear k0 k1 ha
  cases hlong : long8 z0 z1
  rotate_left
  · rw [hlong] at HLG
    go_enter Try.func6, Try.ntmps6
    go_wp2_with fail
    refine HLG.out.mono ?_
    rintro e w' ⟨rfl, rfl⟩
    go_wp2
    go_ret
    exact ⟨rfl, Below.refl _ _⟩
  rw [hlong] at HLG
  clear hlong
  go_enter Try.func6, Try.ntmps6
  go_wp2_with fail
  refine HLG.out.mono ?_
  rintro e w' ⟨rfl, rfl⟩
  go_wp2_with fail
  refine HAT.out.mono ?_
  rintro e w' ⟨rfl, rfl⟩
  go_upto_region 4 with (fail)
  clear hn hwn har HLG HAT
  go_wp2_with fail
  refine (R8Ways_any (n := n) v0 z0 w K0.out (Nat.le_refl _) hn1 (by omega)).mono ?_
  rintro e w1 ⟨u, ws, rfl, ho, hd, hb1⟩
  obtain ⟨hc, hr⟩ := hd.cit hn1 (by omega)
  have HC : Hid (CitN ws n) := ⟨hc, by rw [citN_yes hc]; exact hr⟩
  have hz1 : w.heap.size ≤ w1.heap.size := hb1.size
  have hv := ho.rd.mono (Nat.zero_le _) (Nat.le_refl _) (Nat.le_refl _)
  have hlen := hd.len
  obtain ⟨wa, wc, rfl, d1, d2, dd⟩ := hv.out
  rcases dd with dd | ⟨wb, wo, rfl, b1, b2, b3, _⟩
  · exfalso
    rw [dd] at hlen
    have := Nat.mul_pos (show 0 < n by omega) (show 0 < n by omega)
    simp at hlen; omega
  have HIC := Lib.hid hc
  have HRT := Lib.hid hr
  have HV := Lib.hid hv
  have HB1 := Lib.hid hb1
  have HZ := Lib.hid HC.out.small
  obtain ⟨wl, hwl⟩ : ∃ x, x = ws.length := ⟨_, rfl⟩
  rw [← hwl] at HV
  rw [← hwl]
  clear ho hd hb1 hv hlen hc hr hwl d1
  go_wp2_with fail
  refine (R8Order_any (n := n) v1 z1 w1 (K1.out.below HB1.out (Nat.le_refl _)) hz1 (by omega)).mono ?_
  rintro e w2 ⟨vT, T, rfl, ho2, hT, hb2⟩
  have HT := Lib.hid hT
  have HTI := Lib.hid (ho2.rd.mono (Nat.zero_le _) (Nat.le_refl _) (Nat.le_refl _))
  have HB2 := Lib.hid hb2
  have hz2 := hb2.size
  clear ho2 hT hb2
  go_wp2_with fail
  refine (implBestTour_any w2 _ ws n (HV.out.below HB2.out (Nat.le_refl _)) hz2 HZ.out HIC.out HRT.out).mono ?_
  rintro e w3 ⟨bv, least, A, rfl, hAI, hA, hlong, hall, hb3⟩
  have HAI := Lib.hid hAI
  have HA := Lib.hid hA
  have HAL := Lib.hid hlong
  have HLS : Hid (∀ A, TourN A n → least ≤ longP ws n A) := fun A hA => least_any hn1 hall hA
  have HB3 := Lib.hid (HB2.out.trans (hb3.mono hz2))
  have HTI3 := Lib.hid (HTI.out.below hb3 (Nat.le_refl _))
  have hz3 : w1.heap.size ≤ w3.heap.size := HB3.out.size
  have hz23 := hb3.size
  clear hAI hA hlong hall hb3
  go_wp2_with fail
  refine (implTourLong_yes w3 _ vT ws T n (HV.out.below HB3.out (Nat.le_refl _)) hz3 HTI3.out hz23 HC.out HT.out).mono ?_
  rintro e w4 ⟨rfl, hb4⟩
  have HB34 := Lib.hid hb4
  have HB4 := Lib.hid (HB3.out.trans (hb4.mono hz3))
  have hz4 : w1.heap.size ≤ w4.heap.size := HB4.out.size
  have hz34 := hb4.size
  obtain ⟨long, hlg⟩ : ∃ x, x = longP ws n T := ⟨_, rfl⟩
  rw [← hlg]
  have HLG := Lib.hid hlg
  clear hb4 hlg
  go_wp2_with fail
  have hsw := swap_yes HC.out HT.out
  have hrun := smGo_run (ws := ws) ((longP ws n T).toNat + 1) T 0 HT.out
  have hfix := smGo_fix HC.out.le.2.2.2 ((longP ws n T).toNat + 1) T 0 HT.out (Nat.lt_succ_self _)
  obtain ⟨R, hR⟩ : ∃ R, R = smGo ws n ((longP ws n T).toNat + 1) T 0 := ⟨_, rfl⟩
  rw [← hR] at hsw hrun hfix
  have HSW := Lib.hid hsw
  have HRUN := Lib.hid hrun
  have HFX := Lib.hid hfix
  clear hsw hrun hfix hR
  refine (implSwapTour_any w4 _ ws vT T (HV.out.below HB4.out (Nat.le_refl _)) hz4 HZ.out (HTI3.out.below HB34.out hz23) (Nat.le_trans hz23 hz34) (by rw [HT.out.len]; omega)).mono ?_
  rintro e w5 ⟨vS, he, ho5, hb5⟩
  rw [HSW.out] at he ho5
  subst he
  simp only at ho5
  have HSI := Lib.hid (ho5.rd.mono (Nat.zero_le _) (Nat.le_refl _) (Nat.le_refl _))
  have HB35 := Lib.hid (HB34.out.trans (hb5.mono hz34))
  have HB5 := Lib.hid (HB4.out.trans (hb5.mono hz4))
  have hz5 : w1.heap.size ≤ w5.heap.size := HB5.out.size
  have hz35 : w3.heap.size ≤ w5.heap.size := HB35.out.size
  clear ho5 hb5
  go_wp2_with fail
  have hmv := move_yes HC.out HT.out
  have hrun2 := mvGo_run (ws := ws) ((longP ws n T).toNat + 1) T 0 HT.out
  obtain ⟨R2, hR2⟩ : ∃ R, R = mvGo ws n ((longP ws n T).toNat + 1) T 0 := ⟨_, rfl⟩
  rw [← hR2] at hmv hrun2
  have HMV := Lib.hid hmv
  have HRUN2 := Lib.hid hrun2
  clear hmv hrun2 hR2
  refine (implMoveTour_any w5 _ ws vT T (HV.out.below HB5.out (Nat.le_refl _)) hz5 HZ.out (HTI3.out.below HB35.out hz23) (Nat.le_trans hz23 hz35) (by rw [HT.out.len]; omega)).mono ?_
  rintro e w6 ⟨vM, he, ho6, hb6⟩
  rw [HMV.out] at he ho6
  subst he
  simp only at ho6
  have HMI := Lib.hid (ho6.rd.mono (Nat.zero_le _) (Nat.le_refl _) (Nat.le_refl _))
  have HB36 := Lib.hid (HB35.out.trans (hb6.mono hz35))
  have HB6 := Lib.hid (HB5.out.trans (hb6.mono hz5))
  have HB56 := Lib.hid hb6
  have hz6 : w1.heap.size ≤ w6.heap.size := HB6.out.size
  clear ho6 hb6
  obtain ⟨ba, bc, be, h1, h2, hd⟩ := HAI.out.out
  rw [HA.out.len] at be
  subst be
  rcases hd with hd | ⟨bb, bo, rfl, r1, r2, r3, _⟩
  · exfalso; have := HA.out.len; rw [hd] at this; simp at this; omega
  obtain ⟨S1, t, hSt⟩ : ∃ S1 t, R = (S1, t) := ⟨_, _, rfl⟩
  obtain ⟨M1, m, hMm⟩ : ∃ M1 m, R2 = (M1, m) := ⟨_, _, rfl⟩
  subst hSt hMm
  simp only at HSI HMI
  clear h1
  go_upto_region 10 with (fail)
  exact join_part (by assumption) (tours9 w w6 (HB1.out.trans (HB6.out.mono hz1)) K1.out ((HV.out.below HB6.out (Nat.le_refl _)).mono (Nat.le_refl _) hz6 (Nat.le_refl _)) HC.out hn7 HLS.out ((HAI.out.below HB36.out (Nat.le_refl _)).mono (Nat.le_refl _) HB36.out.size (Nat.le_refl _)) HA.out.tn HA.out.hd HAL.out ((HSI.out.below HB56.out (Nat.le_refl _)).mono (Nat.le_refl _) HB56.out.size (Nat.le_refl _)) HRUN.out.tn HFX.out HMI.out HRUN2.out.tn (by have := HRUN.out.le; rw [HLG.out]; exact this) (by have := HRUN2.out.le; rw [HLG.out]; exact this) (by rw [HLG.out]; exact HLS.out _ HT.out) (fun h => by have := HRUN.out.lt h; rw [HLG.out]; exact this) (fun h => by have := HRUN2.out.lt h; rw [HLG.out]; exact this))

set_option maxRecDepth 100000 in
theorem FnTours_lifted (os : Os) (started : os.Started) (H : Type) (enc : TypeId × Value → H) :
    ReturnsInHanded {} Try.checked os 6 .any (Rows.fnToursSpec.pre6 enc Try.prog Try.f6 Rows.fnToursRow.domain false) (Rows.fnToursSpec.post enc Try.prog Try.f6 false true false false) := by
  refine returnsInHanded_of_change (C := Try.checked) own_knob started (by kernel_rfl) Try.func6
    (ChangeSpec.witness6 (enc := enc) (C := Try.checked) false ⟨#[], #[.slice none 0 0, .slice none 0 0], []⟩ 8 (by kernel_rfl) (by kernel_rfl) (by kernel_rfl) (by kernel_rfl)) ?_
  intro W base args ds gs before hval0 hW hcnd _
  have hval : ∀ (j : Nat) t v, Try.f6.params[j]? = some t → args[j]? = some v → Value.okWide Try.prog W .any base t v := hval0
  have hW' := hW
  obtain ⟨p, q, hA0, hV, rfl, hfz, hnd⟩ := hW
  have hA : DataW.TrodAll enc Try.prog W 0 (fun _ => true) true Try.f6.params.toList args.toList ds p := hA0
  rw [Try.params6] at hA hval
  obtain ⟨v0, vs0, d0, ds0, p0, q0, hargs, rfl, rfl, h0, r0⟩ := trodAll_cons hA
  obtain ⟨v1, vs1, d1, ds1, p1, q1, rfl, rfl, rfl, h1, r1⟩ := trodAll_cons r0
  obtain ⟨rfl, rfl, rfl⟩ := trodAll_nil r1
  obtain rfl : args = #[v0, v1] := by cases args; simp_all
  obtain ⟨rfl, rfl⟩ := trodVars_none hV
  have lt0 : ∀ x ∈ p0, x.block < W.heap.size := by obtain ⟨m, hm⟩ := h0; exact DataW.trod_lt m _ _ _ hm
  obtain ⟨z0, k0⟩ := open_Y (hval 0 22 v0 rfl rfl) h0
  have lt1 : ∀ x ∈ p1, x.block < W.heap.size := by obtain ⟨m, hm⟩ := h1; exact DataW.trod_lt m _ _ _ hm
  obtain ⟨z1, k1⟩ := open_Y (hval 1 22 v1 rfl rfl) h1
  clear hA0 hval0
  refine (FnTours_walk W v0 z0 k0 v1 z1 k1).mono fun e W' ⟨he, bel⟩ => ?_
  subst he
  exact ⟨_, rfl, _, _, _, [], _, [], hW', trodAll_mk1 (shut_bool Try.underlying4 _), (trodAll_cons_mk (Below.trod laid_out (by kernel_rfl) (of_decide_eq_true (by kernel_rfl)) h0 bel lt0) (trodAll_cons_mk (Below.trod laid_out (by kernel_rfl) (of_decide_eq_true (by kernel_rfl)) h1 bel lt1) trodAll_mk0)), rfl, bel.frame _, fun h => by cases h⟩

theorem FnTours_over : Rows.fnToursRow.holds Try.pinned (OpenSpec.ofChange Rows.fnToursSpec) :=
  OpenClaim.holds_of_wide 6 Try.f6 rfl rfl rfl rfl rfl rfl rfl ⟨rfl, rfl, rfl, rfl, rfl⟩ rfl rfl rfl rfl rfl (by kernel_rfl) Try.func6 (by kernel_rfl)
    (of_decide_eq_true (by kernel_rfl)) (by unfold Func.isWrapper; first | (rw [if_pos (by decide +kernel)]; kernel_rfl) | (rw [if_neg (by decide +kernel)]; exact ⟨rfl, rfl⟩))
    (fun os started H enc _ => FnTours_lifted os started H enc)

/-- The statement. -/
theorem FnTours_proved : Rows.FnToursSaid := FnTours_over

end Go.Proofs.Ytkankfdpodofjaa
