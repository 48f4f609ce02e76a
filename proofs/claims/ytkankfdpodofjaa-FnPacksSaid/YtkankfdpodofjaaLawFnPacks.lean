/-
  The law FnPacks returns true for all arguments, and writes nothing that was there.
  There are no conditions.
-/
import Derived.Test.YtkankfdpodofjaaPacksF
import Derived.Test.YtkankfdpodofjaaOpenY
namespace Go.Proofs.Ytkankfdpodofjaa
open Go.ChangeShapes Go.WideShapes Go.ChangeAt Go.RowKit
set_option linter.unusedVariables false
set_option maxRecDepth 100000

theorem greedy_eq {n R : Nat} {ss gs : List Int} (H : PkH n R ss gs) : greedyPack ss gs R = (takenTo (packT ss gs R).1 n, (packT ss gs R).2, true) := by
  have h := H.ok
  have hl := H.ls
  simp [greedyPack, h, hl]
set_option maxHeartbeats 4000000 in
set_option maxRecDepth 100000 in
theorem FnPacks_walk (w : World) (v0 : Value) (z0 : List Int) (k0 : Byts w 0 w.heap.size v0 z0) (v1 : Value) (z1 : List Int) (k1 : Byts w 0 w.heap.size v1 z1) :
    Calls Try.prog 4 #[v0, v1] w fun e w' => e = .returned (.bool true) ∧ Below w.heap.size w w' := by
  have HLG := Lib.hid (r8Long_any v0 v1 z0 z1 w k0 k1)
  have K0 := Lib.hid k0
  have K1 := Lib.hid k1
  have HAT := Lib.hid (r8At_any v1 z1 40 7 w k1 (by decide) (by decide) (by decide))
  have har := at8_rng z1 40 7 (by decide)
  obtain ⟨a, ha⟩ : ∃ a, a = at8 z1 40 7 := ⟨_, rfl⟩
  simp only [show ((40 : Nat) : Int) = 40 from rfl, ← ha] at HAT
  rw [← ha] at har
  obtain ⟨n, hn⟩ : ∃ n : Nat, 1 + a = (n : Int) := ⟨(1 + a).toNat, by omega⟩
  have h1 : 1 ≤ n := by omega
  have h7 : n ≤ 7 := by omega
  have hwn : IntKind.i64.wrap (1 + a) = (n : Int) := by rw [hn]; exact IntWalk.i64_in _ (by omega)
  have HAT2 : Hid (∀ wx, Below w.heap.size w wx → Calls Try.prog 8 #[v1, .int .i64 41, .int .i64 20] wx fun e w' => e = .returned (.int .i64 (at8 z1 41 20)) ∧ wx = w') := fun wx hb => r8At_any v1 z1 41 20 wx (k1.below hb (Nat.le_refl _)) (by decide) (by decide) (by decide)
  have har2 := at8_rng z1 41 20 (by decide)
  obtain ⟨r, hr⟩ : ∃ a, a = at8 z1 41 20 := ⟨_, rfl⟩
  rw [← hr] at HAT2 har2
  obtain ⟨R, hR⟩ : ∃ R : Nat, 12 + r = (R : Int) := ⟨(12 + r).toNat, by omega⟩
  have hr1 : 12 ≤ R := by omega
  have hr2 : R ≤ 31 := by omega
  have hwR : IntKind.i64.wrap (12 + r) = (R : Int) := by rw [hR]; exact IntWalk.i64_in _ (by omega)
  clear k0 k1 ha hr
  cases hlong : long8 z0 z1
  rotate_left
  · rw [hlong] at HLG
    go_enter Try.func4, Try.ntmps4
    go_wp2_with fail
    refine HLG.out.mono ?_
    rintro e w' ⟨rfl, rfl⟩
    go_wp2
    go_ret
    exact ⟨rfl, Below.refl _ _⟩
  rw [hlong] at HLG
  clear hlong
  go_enter Try.func4, Try.ntmps4
  go_wp2_with fail
  refine HLG.out.mono ?_
  rintro e w' ⟨rfl, rfl⟩
  go_wp2_with fail
  refine HAT.out.mono ?_
  rintro e w' ⟨rfl, rfl⟩
  go_upto_region 4 with (fail)
  clear hn hwn har HLG HAT
  go_wp2_with fail
  refine (R8Sizes_any (n := n) v0 z0 w K0.out (Nat.le_refl _) (by omega)).mono ?_
  rintro e w1 ⟨u1, ss, rfl, ho1, l1, r1, hb1⟩
  have hs1 := hb1.size
  have hS := ho1.rd.mono (Nat.zero_le _) (Nat.le_refl _) (Nat.le_refl _)
  obtain ⟨sb, so, sc, rfl, _, _, hsb, _⟩ := hS.seen (Nat.le_refl _) l1 h1
  have HS := Lib.hid hS
  have HB1 := Lib.hid hb1
  have L1 := Lib.hid l1
  have R1 := Lib.hid r1
  clear ho1 hS hb1 l1 r1
  go_wp2_with fail
  refine (R8Sizes_any (n := n) v1 z1 w1 (K1.out.below HB1.out (Nat.le_refl _)) hs1 (by omega)).mono ?_
  rintro e w2 ⟨u2, gs, rfl, ho2, l2, r2, hb2⟩
  have hs2 := hb2.size
  have hG := ho2.rd.mono (Nat.zero_le _) (Nat.le_refl _) (Nat.le_refl _)
  obtain ⟨gb, go, gc, rfl, _, _, hgb, _⟩ := hG.seen (Nat.le_refl _) l2 h1
  have HG := Lib.hid hG
  have HS2 := Lib.hid ((HS.out.below hb2 (Nat.le_refl _)).mono (Nat.le_refl _) hs2 (Nat.le_refl _))
  have HB2 := Lib.hid (HB1.out.trans (hb2.mono hs1))
  have HPk : PkH n R ss gs := ⟨L1.out, l2, h1, h7, hr1, hr2, R1.out, r2⟩
  have HP := Lib.hid HPk
  have hsw2 := HB2.out.size
  clear ho2 hG hb2 l2 r2 HPk
  go_wp2_with fail
  refine (HAT2.out w2 HB2.out).mono ?_
  rintro e w' ⟨rfl, rfl⟩
  go_upto_region 7 with (fail)
  clear hR hwR har2 HAT2
  go_wp2_with fail
  refine (implBestGains_any w2 _ ss _ gs HS2.out (Nat.le_refl _) HG.out (Nat.le_refl _) HP.out).mono ?_
  rintro e w3 ⟨u3, rfl, hA3, hb3⟩
  have hs3 := hb3.size
  obtain ⟨ab, ao, ac, rfl, _, _, hab, hAC⟩ := hA3.seen (Nat.le_refl _) (tabRow_len _ _ _ _) (by omega)
  have HA := Lib.hid (hA3.mono (Nat.zero_le _) (Nat.le_refl _) (Nat.le_refl _))
  have HAC := Lib.hid hAC
  have HB3 := Lib.hid hb3
  clear hA3 hb3 hAC
  go_wp2_with fail
  refine (implBestPack_any w3 _ ss _ gs (HS2.out.below HB3.out (Nat.le_refl _)) hs3 (HG.out.below HB3.out (Nat.le_refl _)) hs3 HP.out).mono ?_
  rintro e w4 ⟨u4, rfl, hP4, hb4⟩
  have hs4 := hb4.size
  have HPV := Lib.hid (hP4.rd.mono (Nat.zero_le _) (Nat.le_refl _) (Nat.le_refl _))
  have HB34 := Lib.hid hb4
  have HB4 := Lib.hid (HB3.out.trans (hb4.mono hs3))
  have hs24 := HB4.out.size
  have hBP := back_pack (ss := ss) (gs := gs) (fun i => (HP.out.s0 i).1) n R
  have HBP := Lib.hid hBP
  clear hP4 hb4 hBP
  go_wp2_with fail
  have hgr := greedy_eq HP.out
  have hGP := implGreedyPack_any w4 _ ss _ gs (R : Int) (HS2.out.below HB4.out (Nat.le_refl _)) hs24 (by have := L1.out; omega) (HG.out.below HB4.out (Nat.le_refl _)) hs24 (by have := HP.out.lg; omega) (by constructor <;> omega)
  rw [hgr] at hGP
  refine hGP.mono ?_
  rintro e w5 ⟨u5, rfl, hP5, hb5⟩
  simp only at hP5 ⊢
  have hs5 := hb5.size
  have HQV := Lib.hid (hP5.rd.mono (Nat.zero_le _) (Nat.le_refl _) (Nat.le_refl _))
  have HB45 := Lib.hid hb5
  have HB5 := Lib.hid (HB4.out.trans (hb5.mono hs24))
  have hs25 := HB5.out.size
  have hQK := quick_ok (ss := ss) (gs := gs) (R := R) L1.out (fun i => (HP.out.s0 i).1) (fun i => (HP.out.g0 i).1)
  obtain ⟨less, hless⟩ : ∃ x, x = (packT ss gs R).2 := ⟨_, rfl⟩
  rw [← hless] at hQK ⊢
  have HQK := Lib.hid hQK
  have hQK4 := hQK.2.2.2
  clear hP5 hb5 hQK hGP hgr hless
  go_wp2_with fail
  refine (implPackBound_any w5 _ ss _ gs (HS2.out.below HB5.out (Nat.le_refl _)) hs25 (HG.out.below HB5.out (Nat.le_refl _)) hs25 HP.out).mono ?_
  rintro e w6 ⟨rfl, hb6⟩
  have HB6 := Lib.hid (HB5.out.trans (hb6.mono hs25))
  have HB56 := Lib.hid hb6
  have hs26 := HB6.out.size
  have hbo := bound_ok (ss := ss) (gs := gs) (R := R) L1.out (fun i hi => HP.out.sAt hi) (fun i => (HP.out.s0 i).1) (fun i => (HP.out.g0 i).1)
  obtain ⟨bound, hbound⟩ : ∃ x, x = pbGo ss gs (packOrder ss gs) R 0 := ⟨_, rfl⟩
  rw [← hbound] at hbo ⊢
  clear hb6 hbound
  go_wp2_with fail
  refine (implWaysToFill_any w6 _ ss gs (HS2.out.below HB6.out (Nat.le_refl _)) hs26 HP.out).mono ?_
  rintro e w7 ⟨rfl, hb7⟩
  have HB7 := Lib.hid (HB6.out.trans (hb7.mono hs26))
  have HB67 := Lib.hid hb7
  have hs27 := HB7.out.size
  have HWC := Lib.hid (way_cnt (ss := ss) (fun i => (HP.out.s0 i).1) n R)
  obtain ⟨ways, hways⟩ : ∃ x, x = wayTo ss n R := ⟨_, rfl⟩
  rw [← hways] at HWC ⊢
  clear hb7 hways
  go_wp2_with fail
  refine (implBestHalves_any w7 _ ss gs (HS2.out.below HB7.out (Nat.le_refl _)) hs27 HP.out).mono ?_
  rintro e w8 ⟨u8, mk, gap, rfl, hHS, hP8, hb8⟩
  have HB8 := Lib.hid (HB7.out.trans (hb8.mono hs27))
  have HB78 := Lib.hid hb8
  have hs28 := HB8.out.size
  have HEV := Lib.hid (hP8.rd.mono (Nat.zero_le _) (Nat.le_refl _) (Nat.le_refl _))
  have HHS := Lib.hid hHS
  have hs7 := HB67.out.size
  have hs6 := HB56.out.size
  have hs8 := HB78.out.size
  have HB58 := Lib.hid (HB56.out.trans ((HB67.out.trans (HB78.out.mono hs7)).mono hs6))
  have HB48 := Lib.hid (HB45.out.trans (HB58.out.mono hs5))
  have HB38 := Lib.hid (HB34.out.trans (HB48.out.mono hs4))
  have cA := HAC.out w8 R HB38.out (by omega)
  rw [tabRow_at _ _ (Nat.le_refl _)] at cA
  have HBT := Lib.hid (best_tab (ss := ss) (gs := gs) (fun i => (HP.out.s0 i).1) (fun i => (HP.out.g0 i).1) n R)
  obtain ⟨gain, hgain⟩ : ∃ x, x = tab ss gs n R := ⟨_, rfl⟩
  rw [← hgain] at cA HBT HBP HQK hQK4 hbo ⊢
  have q1 : ¬ gain < less := by omega
  have q2 : ¬ bound < gain := by omega
  have q3 : ¬ less < 0 := by omega
  have q4 : (R : Int) < (R : Int) + 1 := by omega
  clear hHS hP8 hb8 hgain hbo hQK4
  go_upto_region 15 with (fail)
  have s38 := HB38.out.size
  have s48 := HB48.out.size
  have s58 := HB58.out.size
  have t1 := (HS2.out.below HB8.out (Nat.le_refl _)).mono (Nat.le_refl _) hs28 (Nat.le_refl _)
  have t2 := (HG.out.below HB8.out (Nat.le_refl _)).mono (Nat.le_refl _) hs28 (Nat.le_refl _)
  have t3 := (HA.out.below HB38.out (Nat.le_refl _)).mono (Nat.le_refl _) s38 (Nat.le_refl _)
  have t4 := (HPV.out.below HB48.out (Nat.le_refl _)).mono (Nat.le_refl _) s48 (Nat.le_refl _)
  have t5 := (HQV.out.below HB58.out (Nat.le_refl _)).mono (Nat.le_refl _) s58 (Nat.le_refl _)
  have hq := HQK.out
  have hb := HBP.out
  have hnear := half_near (ss := ss) h1 (fun i => (HP.out.s0 i).1) rfl HHS.out
  have hfe : farOf (pSum ss (fun _ => true) n) (lSum ss (digI n mk)) = gap := by rw [dig_sum]; exact HHS.out.eq.symm
  exact join_part (by assumption) (packsF w w8 (HB2.out.trans (HB8.out.mono hsw2)) HP.out t1 t2 t3 t4 t5 HEV.out hb.1 hq.1 (dig_pack mk n) hb.2.2.2 (takenTo_len _ _) (digI_len n mk) hb.2.1 hq.2.1 hb.2.2.1 hq.2.2.1 hfe HBT.out HWC.out.symm hnear)

set_option maxRecDepth 100000 in
theorem FnPacks_lifted (os : Os) (started : os.Started) (H : Type) (enc : TypeId × Value → H) :
    ReturnsInHanded {} Try.checked os 4 .any (Rows.fnPacksSpec.pre6 enc Try.prog Try.f4 Rows.fnPacksRow.domain false) (Rows.fnPacksSpec.post enc Try.prog Try.f4 false true false false) := by
  refine returnsInHanded_of_change (C := Try.checked) own_knob started (by kernel_rfl) Try.func4
    (ChangeSpec.witness6 (enc := enc) (C := Try.checked) false ⟨#[], #[.slice none 0 0, .slice none 0 0], []⟩ 8 (by kernel_rfl) (by kernel_rfl) (by kernel_rfl) (by kernel_rfl)) ?_
  intro W base args ds gs before hval0 hW hcnd _
  have hval : ∀ (j : Nat) t v, Try.f4.params[j]? = some t → args[j]? = some v → Value.okWide Try.prog W .any base t v := hval0
  have hW' := hW
  obtain ⟨p, q, hA0, hV, rfl, hfz, hnd⟩ := hW
  have hA : DataW.TrodAll enc Try.prog W 0 (fun _ => true) true Try.f4.params.toList args.toList ds p := hA0
  rw [Try.params4] at hA hval
  obtain ⟨v0, vs0, d0, ds0, p0, q0, hargs, rfl, rfl, h0, r0⟩ := trodAll_cons hA
  obtain ⟨v1, vs1, d1, ds1, p1, q1, rfl, rfl, rfl, h1, r1⟩ := trodAll_cons r0
  obtain ⟨rfl, rfl, rfl⟩ := trodAll_nil r1
  obtain rfl : args = #[v0, v1] := by cases args; simp_all
  obtain ⟨rfl, rfl⟩ := trodVars_none hV
  have lt0 : ∀ x ∈ p0, x.block < W.heap.size := by obtain ⟨m, hm⟩ := h0; exact DataW.trod_lt m _ _ _ hm
  obtain ⟨z0, k0⟩ := open_Y (hval 0 22 v0 rfl rfl) h0
  have lt1 : ∀ x ∈ p1, x.block < W.heap.size := by obtain ⟨m, hm⟩ := h1; exact DataW.trod_lt m _ _ _ hm
  obtain ⟨z1, k1⟩ := open_Y (hval 1 22 v1 rfl rfl) h1
  clear hA0 hval0
  refine (FnPacks_walk W v0 z0 k0 v1 z1 k1).mono fun e W' ⟨he, bel⟩ => ?_
  subst he
  exact ⟨_, rfl, _, _, _, [], _, [], hW', trodAll_mk1 (shut_bool Try.underlying4 _), (trodAll_cons_mk (Below.trod laid_out (by kernel_rfl) (of_decide_eq_true (by kernel_rfl)) h0 bel lt0) (trodAll_cons_mk (Below.trod laid_out (by kernel_rfl) (of_decide_eq_true (by kernel_rfl)) h1 bel lt1) trodAll_mk0)), rfl, bel.frame _, fun h => by cases h⟩

theorem FnPacks_over : Rows.fnPacksRow.holds Try.pinned (OpenSpec.ofChange Rows.fnPacksSpec) :=
  OpenClaim.holds_of_wide 4 Try.f4 rfl rfl rfl rfl rfl rfl rfl ⟨rfl, rfl, rfl, rfl, rfl⟩ rfl rfl rfl rfl rfl (by kernel_rfl) Try.func4 (by kernel_rfl)
    (of_decide_eq_true (by kernel_rfl)) (by unfold Func.isWrapper; first | (rw [if_pos (by decide +kernel)]; kernel_rfl) | (rw [if_neg (by decide +kernel)]; exact ⟨rfl, rfl⟩))
    (fun os started H enc _ => FnPacks_lifted os started H enc)

/-- The statement. -/
theorem FnPacks_proved : Rows.FnPacksSaid := FnPacks_over

end Go.Proofs.Ytkankfdpodofjaa
