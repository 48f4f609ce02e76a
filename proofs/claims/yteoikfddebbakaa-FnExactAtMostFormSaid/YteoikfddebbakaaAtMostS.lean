/-
  AtMostForm: contracts in the reference.
-/
import Derived.Test.YteoikfddebbakaaAtMostP
import Derived.Test.YteoikfddebbakaaConcat
import Derived.Test.YteoikfddebbakaaStepI
import Derived.IntWalk
namespace Go.Proofs.Yteoikfddebbakaa
open Go.RowKit
set_option linter.unusedVariables false
set_option maxRecDepth 100000

set_option maxHeartbeats 2000000 in
set_option maxRecDepth 100000 in
theorem l05Choose_any (c : Nat) : ∀ (w : World) {l' h' : Nat} (L a : Nat) (vd v : Value) (d : List Int) (P : List (List Int)) {lo : Nat}
    (hd : Ints w l' h' vd d) (hh' : h' ≤ w.heap.size) (hdv : ∀ p, v.ownBlock = some p → p < l' ∨ h' ≤ p) (ho : OwnII w lo w.heap.size v P) (hlo : lo ≤ w.heap.size) (hL : L ≤ 10) (ha1 : 1 ≤ a) (ha2 : a ≤ L + 1) (hdl : d.length + c ≤ 20) (hP : Short P) (hPl : P.length ≤ 48),
    Calls Try.prog 41 #[.int .i64 L, .int .i64 a, .int .i64 c, vd, v] w fun e w' => ∃ r, e = .returned r ∧ OwnII w' lo w'.heap.size r (chooseGo c (L + 1 - a) a d P) ∧ KeepB w w' v ∧ BlkOk w v r := by
  induction c with
  | zero =>
    intro w l' h' L a vd v d P lo hd hh' hdv ho hlo hL ha1 ha2 hdl hP hPl
    obtain ⟨da, dc, rfl, dc1, dc2, _⟩ := hd.out
    obtain ⟨pa, pc, rfl⟩ := ho.shape
    have hb0 : Below w.heap.size w (w.alloc (.cells #[] 2)) := alloc_below _ _
    have H0 := Lib.hid (emptySlice w)
    have HB0 := Lib.hid hb0
    have HSZ : Hid ((w.alloc (.cells #[] 2)).heap.size = w.heap.size + 1) := by simp [Hid]
    have HD := Lib.hid (hd.below hb0 hh')
    have HO := Lib.hid ho
    have HE : Hid (chooseGo 0 (L + 1 - a) a d P = P ++ [d]) := by rw [Hid, chooseGo]
    have HSM : Hid (((P ++ [d]).map List.length).sum ≤ 1099511627776) := by
      have h1 := short_sum hP
      rw [Hid, sum_snoc]; omega
    have hdl2 : d.length ≤ 20 := by omega
    have hz0 : (((0 : Nat) : Int) == 0) = true := rfl
    clear hb0 hd ho
    go_enter Try.func41, Try.ntmps41
    go_wp2_with (at_builtin; refine wpList_appIs rfl _ _ rfl _ [] rfl H0.out _ d rfl HD.out (by simp; omega) (by rw [HSZ.out]; omega) ?_)
    intro v3 w3 ho3 hsm3 hz3 _
    have HO3 : Hid (OwnI w3 w.heap.size w3.heap.size v3 d) := by simpa [Hid] using ho3
    have HB3 := Lib.hid (HB0.out.trans (hsm3.below (Nat.le_refl _) (by rw [HSZ.out]; omega)))
    have hs3 := HB3.out.size
    have HOP := Lib.hid (HO.out.below HB3.out (Nat.le_refl _))
    obtain ⟨ua, uc, rfl⟩ := HO3.out.shape
    have hlo3 : lo ≤ w3.heap.size := by omega
    clear ho3 hsm3 hz3
    go_wp2_with (at_builtin; refine wpList_appIIK rfl _ _ rfl _ P rfl _ d _ HOP.out HO3.out (Nat.le_refl _) hlo rfl (by omega) HSM.out hlo3 ?_)
    intro v4 w4 ho4 hk4 hsm4 hz4 hb4
    have HO4 := Lib.hid ho4
    have HK4 : Hid (KeepB w w4 (.slice pa P.length pc)) :=
      (KeepB.of_below _ HB3.out).trans ⟨hsm4.os, hsm4.tape, hsm4.output, hsm4.size, hk4⟩ (.inl rfl)
    have HBK : Hid (BlkOk w (.slice pa P.length pc) v4) := by
      rcases hb4 with h1 | h1
      · exact .inl h1
      · exact .inr (fun p hp => by rw [h1] at hp; injection hp with hp; omega)
    obtain ⟨ya, yc, rfl⟩ := ho4.shape1
    clear ho4 hk4 hsm4 hz4 hb4
    go_wp2
    go_ret
    exact ⟨_, rfl, by rw [HE.out]; exact HO4.out, HK4.out, HBK.out⟩
  | succ c ih =>
    intro w l' h' L a vd v d P lo hd hh' hdv ho hlo hL ha1 ha2 hdl hP hPl
    have HIH := Lib.hid ih
    clear ih
    obtain ⟨da, dc, rfl, dc1, dc2, _⟩ := hd.out
    obtain ⟨pa, pc, rfl⟩ := ho.shape
    have hgb := ho.ge
    have HD := Lib.hid hd
    have HDV := Lib.hid hdv
    have HO := Lib.hid ho
    have HGB := Lib.hid hgb
    have HP := Lib.hid hP
    clear hd hdv ho hgb hP
    rw [show ((c + 1 : Nat) : Int) = (c : Int) + 1 by omega]
    have hc0 : ((c : Int) + 1 == 0) = false := by simp; omega
    go_enter Try.func41, Try.ntmps41
    go_wp2_with fail
    go_loopw [4, 11] (fun pv xv wr => ∃ (x : Nat) (Q : List (List Int)), 1 ≤ x ∧ x ≤ L + 1 ∧ xv = .int .i64 x ∧ Hid (chooseGo (c + 1) (L + 1 - x) x d Q = chooseGo (c + 1) (L + 1 - a) a d P) ∧ Hid (Short Q) ∧ Q.length ≤ 49 ∧ Hid (KeepB w wr (.slice pa P.length pc)) ∧ Hid (OwnII wr lo wr.heap.size pv Q) ∧ Hid (BlkOk w (.slice pa P.length pc) pv)) (fun _ xv _ => L + 1 - (intOf xv).toNat)
    case atStart => exact ⟨a, P, ha1, ha2, rfl, Lib.hid rfl, HP, by omega, Lib.hid (KeepB.of_below _ (Below.refl _ _)), HO, Lib.hid (.inl rfl)⟩
    case round =>
      obtain ⟨x, Q, hx1, hx2, rfl, HC, HSh, hQ, HK, HOQ, HBK⟩ := hrel
      obtain ⟨ea, ec, rfl⟩ := HOQ.out.shape
      have hsr := HK.out.size
      by_cases hxL : x ≤ L
      · by_cases hq : Q.length ≤ 48
        · have HDr : Hid (Ints wr l' h' (.slice da d.length dc) d) := HK.out.ints HD.out hh' HDV.out
          have hb0 : Below wr.heap.size wr (wr.alloc (.cells #[] 2)) := alloc_below _ _
          have H0 := Lib.hid (emptySlice wr)
          have HB0 := Lib.hid hb0
          have HSZ : Hid ((wr.alloc (.cells #[] 2)).heap.size = wr.heap.size + 1) := by simp [Hid]
          have HD0 := Lib.hid (HDr.out.below hb0 (by omega))
          have hgq := HOQ.out.ge
          have HGQ := Lib.hid hgq
          obtain ⟨Q2, hQ2⟩ : ∃ Q2, Q2 = chooseGo c (L + 1 - (x + 1)) (x + 1) (d ++ [-(x : Int)]) Q := ⟨_, rfl⟩
          have HC2 : Hid (chooseGo (c + 1) (L + 1 - (x + 1)) (x + 1) d Q2 = chooseGo (c + 1) (L + 1 - a) a d P) := by rw [Hid, hQ2, choose_step hxL hq]; exact HC.out
          have HSN : Hid (Short Q2) := by rw [Hid, hQ2]; exact choose_short _ _ _ _ _ (by rw [List.length_append]; simp; omega) HSh.out
          have HLN : Hid (Q2.length ≤ 49) := by rw [Hid, hQ2]; exact choose_len hq
          have HQ2 := Lib.hid hQ2
          have kx : I64 (-(x : Int)) := by unfold I64; omega
          have hxi : (x : Int) ≤ (L : Int) := by omega
          clear hb0 hgq hQ2
          go_wp2_with (at_builtin; refine wpList_appIs rfl _ _ rfl _ [] rfl H0.out _ d rfl HD0.out (by simp; omega) (by rw [HSZ.out]; omega) ?_)
          intro v3 w3 ho3 hsm3 hz3 _
          have HO3 : Hid (OwnI w3 wr.heap.size w3.heap.size v3 d) := by simpa [Hid] using ho3
          have HB3 := Lib.hid (HB0.out.trans (hsm3.below (Nat.le_refl _) (by rw [HSZ.out]; omega)))
          have hs3 := HB3.out.size
          clear ho3 hsm3 hz3
          go_wp2_with (at_builtin; refine wpList_app1 rfl _ _ rfl _ d rfl (-(x : Int)) _ HO3.out rfl kx (by omega) hs3 ?_)
          intro v4 w4 ho4 hsm4 hz4 _
          have HB4 := Lib.hid (HB3.out.trans (hsm4.below (Nat.le_refl _) hs3))
          have hs4 := HB4.out.size
          obtain ⟨ua, uc, rfl⟩ := ho4.shape1
          have HREC : Hid (Calls Try.prog 41 #[.int .i64 L, .int .i64 ((x : Int) + 1), .int .i64 c, .slice ua (d.length + 1) uc, .slice ea Q.length ec] w4 fun e w' => ∃ r, e = .returned r ∧ OwnII w' lo w'.heap.size r Q2 ∧ KeepB w4 w' (.slice ea Q.length ec) ∧ BlkOk w4 (.slice ea Q.length ec) r) := by
            have h1 := HIH.out w4 L (x + 1) _ (.slice ea Q.length ec) (d ++ [-(x : Int)]) Q (lo := lo) ho4.rd (Nat.le_refl _) (fun p hp => .inl (by have := (HGQ.out p hp).2; omega))
              ((HOQ.out.below HB4.out (Nat.le_refl _)).mono (Nat.le_refl _) hs4 (Nat.le_refl _)) (by omega) hL (by omega) (by omega) (by rw [List.length_append]; simp; omega) HSh.out hq
            rw [show ((x + 1 : Nat) : Int) = (x : Int) + 1 by omega, ← HQ2.out] at h1
            exact h1
          clear ho4 hsm4 hz4
          go_wp2_with fail
          refine HREC.out.mono ?_
          rintro e w5 ⟨r5, rfl, ho5, hk5, hb5⟩
          obtain ⟨ra, rc, rfl⟩ := ho5.shape
          have HO5 := Lib.hid ho5
          have HK5 : Hid (KeepB w w5 (.slice pa P.length pc)) := HK.out.trans ((KeepB.of_below (.slice ea Q.length ec) HB4.out).trans hk5 (.inl rfl)) HBK.out
          have HB5 : Hid (BlkOk w (.slice pa P.length pc) (.slice ra Q2.length rc)) := by
            rcases hb5 with h1 | h1
            · rcases HBK.out with h2 | h2
              · exact .inl (h1.trans h2)
              · exact .inr (fun p hp => h2 p (by rw [← h1]; exact hp))
            · exact .inr (fun p hp => by have := h1 p hp; omega)
          clear ho5 hk5 hb5
          go_wp2
          go_roundw
          case rel => exact ⟨x + 1, _, by omega, by omega, by go_num, HC2, HSN, HLN.out, HK5, HO5, HB5⟩
          case measure => simp [intOf]; omega
        · have HE : Hid (chooseGo (c + 1) (L + 1 - a) a d P = Q) := by rw [Hid, ← HC.out]; exact choose_stop (by omega)
          have hxi : (x : Int) ≤ (L : Int) := by omega
          go_wp2
          go_ret
          exact ⟨_, rfl, by rw [HE.out]; exact HOQ.out, HK.out, HBK.out⟩
      · have HE : Hid (chooseGo (c + 1) (L + 1 - a) a d P = Q) := by rw [Hid, ← HC.out]; exact choose_end hxL
        have hxi : ¬ (x : Int) ≤ (L : Int) := by omega
        go_wp2
        go_ret
        exact ⟨_, rfl, by rw [HE.out]; exact HOQ.out, HK.out, HBK.out⟩
set_option maxHeartbeats 2000000 in
set_option maxRecDepth 100000 in
theorem specAtMostForm_any (w : World) (L m : Int) (kL : I64 L) (km : I64 m) :
    Calls Try.prog 10 #[.int .i64 L, .int .i64 m] w fun e w' => ∃ r, e = .returned (.tuple #[r, .bool (atMostF L m).2]) ∧ OwnF w' w.heap.size w'.heap.size r (atMostF L m).1 ∧ Below w.heap.size w w' := by
  obtain ⟨W, hW⟩ : ∃ W, W = w.alloc (.cells #[.int .i64 0, .slice none 0 0] 24) := ⟨_, rfl⟩
  have hsW : W.heap.size = w.heap.size + 1 := by rw [hW]; simp
  have hBW : Below w.heap.size w W := by rw [hW]; exact alloc_below _ _
  have hbr : TwoC W w.heap.size 24 (.int .i64 0) (.slice none 0 0) := by rw [hW]; exact TwoC.new _ _ _ _
  have HR := Lib.hid hbr
  have HBW := Lib.hid hBW
  have r0 := hbr.c0
  have r1 := hbr.c1
  have g0 := hbr.f0
  have g1 := hbr.f1
  have HL5 := Lib.hid (l05Letters_any L W)
  have HIN := Lib.hid (l00In_any m 0 L W)
  have hlW : w.heap.size < W.heap.size := by omega
  clear hbr hBW
  cases hL : inB 1 10 L
  · have HE := Lib.hid (atMost_no (L := L) (m := m) (by rw [hL]; rfl))
    rw [hL] at HL5
    go_enter Try.func10, Try.ntmps10
    go_wp2_with fail
    rw [← hW]
    clear hW hsW
    refine HL5.out.mono ?_
    rintro e w' ⟨rfl, rfl⟩
    go_wp2_with fail
    refine bodyPost_ret (v := .tuple #[.agg #[.int .i64 0, .slice none 0 0], .bool false]) (by simp [results, Try.results10, go_sem, r0, r1]) rfl ⟨_, by rw [HE.out], by rw [HE.out]; exact noForm _ _ (Nat.le_refl _) _, ?_⟩
    exact (HBW.out.setCell (by simp) _).setCell (by simp) _
  cases hm : inB 0 L m
  · have HE := Lib.hid (atMost_no (L := L) (m := m) (by rw [hm, Bool.and_false]))
    rw [hL] at HL5
    rw [hm] at HIN
    go_enter Try.func10, Try.ntmps10
    go_wp2_with fail
    rw [← hW]
    clear hW hsW
    refine HL5.out.mono ?_
    rintro e w' ⟨rfl, rfl⟩
    go_wp2_with fail
    refine HIN.out.mono ?_
    rintro e w' ⟨rfl, rfl⟩
    go_wp2_with fail
    refine bodyPost_ret (v := .tuple #[.agg #[.int .i64 0, .slice none 0 0], .bool false]) (by simp [results, Try.results10, go_sem, r0, r1]) rfl ⟨_, by rw [HE.out], by rw [HE.out]; exact noForm _ _ (Nat.le_refl _) _, ?_⟩
    exact (HBW.out.setCell (by simp) _).setCell (by simp) _
  have bL := inB_true hL
  have bm := inB_true hm
  obtain ⟨N, hN⟩ := Int.eq_ofNat_of_zero_le (show 0 ≤ L by omega)
  obtain ⟨M, hM⟩ := Int.eq_ofNat_of_zero_le (show 0 ≤ m by omega)
  have HE : Hid (atMostF L m = checkedF ⟨L, chooseGo (M + 1) (N + 1 - 1) 1 [] []⟩) := by
    rw [Hid, atMost_yes (by rw [hL, hm]; rfl), choose_checked, hN, hM]
    rfl
  rw [hL] at HL5
  rw [hm] at HIN
  subst hN
  subst hM
  have hN10 : N ≤ 10 := by omega
  have hMN : M ≤ N := by omega
  obtain ⟨W1, hW1⟩ : ∃ W', W' = W.alloc (.cells #[] 2) := ⟨_, rfl⟩
  obtain ⟨W2, hW2⟩ : ∃ W', W' = W1.alloc (.cells #[] 32) := ⟨_, rfl⟩
  have hs1 : W1.heap.size = w.heap.size + 1 + 1 := by rw [hW1]; simp [hsW]
  have hs2 : W2.heap.size = w.heap.size + 1 + 1 + 1 := by rw [hW2]; simp [hs1]
  have hb1 : Below W.heap.size W W1 := by rw [hW1]; exact alloc_below _ _
  have hb2 : Below W1.heap.size W1 W2 := by rw [hW2]; exact alloc_below _ _
  have hB2 : Below W.heap.size W W2 := hb1.trans (hb2.mono (by omega))
  have ho2 : OwnII W2 (w.heap.size + 1 + 1) W2.heap.size (.slice (some ⟨w.heap.size + 1 + 1, 0, none⟩) 0 0) [] := by
    rw [hs2, ← hs1, hW2]; exact emptyRowsA W1
  have hd2 : Ints W2 0 0 (.slice (some ⟨w.heap.size + 1, 0, none⟩) 0 0) [] := ⟨⟨some ⟨w.heap.size + 1, 0, none⟩, 0, rfl, Nat.le_refl _, by omega, .inl rfl⟩, by simp⟩
  have HCH := Lib.hid (l05Choose_any (M + 1) W2 N 1 (.slice (some ⟨w.heap.size + 1, 0, none⟩) 0 0) (.slice (some ⟨w.heap.size + 1 + 1, 0, none⟩) 0 0) [] [] (lo := w.heap.size + 1 + 1)
    hd2 (Nat.zero_le _) (fun p _ => .inr (Nat.zero_le _)) ho2 (by omega) hN10 (Nat.le_refl _) (by omega) (by simp; omega) (fun c h => by simp at h) (by simp))
  have HB2 := Lib.hid hB2
  have HWE : Hid (W2 = ((w.alloc (.cells #[.int .i64 0, .slice none 0 0] 24)).alloc (.cells #[] 2)).alloc (.cells #[] 32)) := by rw [Hid, hW2, hW1, hW]
  rw [show ((M + 1 : Nat) : Int) = (M : Int) + 1 by omega] at HCH
  have hsW2 : w.heap.size + 1 + 1 < W2.heap.size := by omega
  have hWs : W.heap.size ≤ W2.heap.size := by omega
  have HWs : Hid (w.heap.size + 1 + 1 ≤ W2.heap.size ∧ W.heap.size ≤ w.heap.size + 1) := ⟨by omega, by omega⟩
  obtain ⟨F, hF⟩ : ∃ F, F = chooseGo (M + 1) (N + 1 - 1) 1 [] [] := ⟨_, rfl⟩
  rw [← hF] at HE HCH
  clear hL hm bL bm hb1 hb2 hB2 ho2 hd2 hs1 hs2 hW2 hW1 hF
  go_enter Try.func10, Try.ntmps10
  go_wp2_with fail
  rw [← hW]
  have HWA := Lib.hid hW
  clear hW hsW
  refine HL5.out.mono ?_
  rintro e w' ⟨rfl, rfl⟩
  go_wp2_with fail
  refine HIN.out.mono ?_
  rintro e w' ⟨rfl, rfl⟩
  rw [HWA.out]
  go_wp2_with fail
  rw [← HWE.out]
  refine HCH.out.mono ?_
  rintro e w3 ⟨r3, rfl, ho3, hk3, hb3⟩
  obtain ⟨ra, rc, rfl⟩ := ho3.shape
  have hs3 := hk3.size
  have hB3 : Below (w.heap.size + 1) W w3 := (HB2.out.mono (by have := HWs.out.2; omega)).trans (hk3.below (B := w.heap.size + 1) (by omega) (fun p hp => by simp [Value.ownBlock] at hp; omega))
  obtain ⟨W6, hW6⟩ : ∃ W', W' = w3.alloc (.cells #[.int .i64 N, .slice ra F.length rc] 24) := ⟨_, rfl⟩
  have hb6 : Below w3.heap.size w3 W6 := by rw [hW6]; exact alloc_below _ _
  have hp6 : TwoC W6 w3.heap.size 24 (.int .i64 N) (.slice ra F.length rc) := by rw [hW6]; exact TwoC.new _ _ _ _
  have HO6 := Lib.hid (ho3.below hb6 (Nat.le_refl _))
  have HGV := Lib.hid (l05Give_any W6 (.agg #[.int .i64 N, .slice ra F.length rc]) ⟨(N : Int), F⟩ ⟨⟨_, rfl, HO6.out.rd⟩, kL⟩ hb6.size)
  have HEC : Hid (checkedF ⟨(N : Int), F⟩ = if validForm ⟨(N : Int), F⟩ then (⟨(N : Int), F⟩, true) else (⟨0, []⟩, false)) := rfl
  have HB6 : Hid (Below (w.heap.size + 1) W W6) := hB3.trans (hb6.mono (by have := HWs.out.1; omega))
  have hs6 := hb6.size
  have c0 := hp6.c0
  have c1 := hp6.c1
  rw [hW6] at c0 c1
  clear ho3 hk3 hb3 hB3 hb6 hp6
  go_wp2_with fail
  rw [← hW6]
  clear hW6 c0 c1
  refine HGV.out.mono ?_
  rintro e w7 ⟨r7, rfl, ht7, hf7, hb7⟩
  have hs7 := hb7.size
  have hs6b := HB6.out.size
  have hr7 := HR.out.below (HB6.out.trans (hb7.mono (by have := HWs.out.1; omega))) (Nat.lt_succ_self _)
  have r0' := hr7.c0
  have r1' := hr7.c1
  have g0' := hr7.f0
  have g1' := hr7.f1
  have HBF : Hid (Below w.heap.size w w7) := HBW.out.trans ((HB6.out.trans (hb7.mono (by have := HWs.out.1; omega))).mono (Nat.le_succ _))
  have HOF := Lib.hid (HO6.out.below hb7 (by omega))
  clear hb7 hr7 HGV r0 r1 g0 g1
  cases hvo : validForm ⟨(N : Int), F⟩
  · obtain rfl := hf7 hvo
    have HE2 : Hid (atMostF N M = (⟨0, []⟩, false)) := by rw [Hid, HE.out, HEC.out, hvo]; rfl
    clear ht7 hf7
    go_wp2_with fail
    refine bodyPost_ret (v := .tuple #[.agg #[.int .i64 0, .slice none 0 0], .bool false]) (by simp [results, Try.results10, go_sem, r0', r1']) rfl ⟨_, by rw [HE2.out], by rw [HE2.out]; exact noForm _ _ (Nat.le_refl _) _, ?_⟩
    exact (HBF.out.setCell (by simp) _).setCell (by simp) _
  · obtain rfl := ht7 hvo
    have HE2 : Hid (atMostF N M = (⟨(N : Int), F⟩, true)) := by rw [Hid, HE.out, HEC.out, hvo]; rfl
    clear ht7 hf7
    go_wp2_with fail
    have hS := ((Same.refl w.heap.size (w.heap.size + 1) w7).setCell (p := ⟨w.heap.size, 0, none⟩) (by simp) (by simp) (.int .i64 N)).setCell (p := ⟨w.heap.size, 1, none⟩) (by simp) (by simp) (.slice ra F.length rc)
    refine bodyPost_ret (v := .tuple #[.agg #[.int .i64 N, .slice ra F.length rc], .bool true]) (by simp [results, Try.results10, go_sem, r0', r1']) rfl ⟨_, by rw [HE2.out], ?_, HBF.out.trans (hS.below (Nat.le_refl _) HBF.out.size)⟩
    rw [HE2.out]
    exact ⟨⟨_, rfl, (HOF.out.same hS (.inr (by omega))).mono (by omega) (by have := hS.size; omega) (Nat.le_refl _)⟩, kL⟩
end Go.Proofs.Yteoikfddebbakaa
