/-
  AtMostForm: contracts in the program.
-/
import Derived.Test.YtcpbgjnijhcpkaaAtMostS
import Derived.Deep.RegionLaw
namespace Go.Proofs.Ytcpbgjnijhcpkaa
open Go.RowKit
set_option linter.unusedVariables false
set_option maxRecDepth 100000

theorem KeepB.intss {w w' : World} {v u : Value} {lo hi : Nat} {zss : List (List Int)} (h : KeepB w w' v) (hi' : Intss w lo hi u zss) (hh : hi ≤ w.heap.size) (hv : ∀ p, v.ownBlock = some p → p < lo ∨ hi ≤ p) : Intss w' lo hi u zss := by
  have hk : ∀ k, lo ≤ k → k < hi → k < w.heap.size → w'.heap[k]? = w.heap[k]? := fun k h1 h2 h3 => h.block k h3 (fun e => by have := hv k e; omega)
  obtain ⟨V, hs, hV⟩ := hi'.ex
  exact ⟨V, hs.keep h.size hk, fun i hi => (hV i hi).keep h.size hk⟩
theorem Intss.at' {w : World} {lo hi n cap : Nat} {a : Option Addr} {zss : List (List Int)} (h : Intss w lo hi (.slice a n cap) zss) {j : Nat} (hj : j < zss.length) :
    ∃ b off ua uc, a = some ⟨b, off, none⟩ ∧ w.cell? ⟨b, off + j, none⟩ = some (.slice ua zss[j].length uc) ∧ Ints w lo hi (.slice ua zss[j].length uc) zss[j] := by
  obtain ⟨a', cap', V, e, h1, h2, hV, hd⟩ := h.out
  simp only [Value.slice.injEq] at e
  obtain ⟨rfl, rfl, rfl⟩ := e
  rcases hd with rfl | ⟨b', off', r1, r2, r3, r4, hc⟩
  · simp at hj
  · have hv := hV j hj
    obtain ⟨a2, c2, e3, _⟩ := hv.out
    have hcj := hc j hj
    rw [e3] at hcj hv
    exact ⟨b', off', a2, c2, r1, hcj, hv⟩
/-- rows of c + 1 letters -/
theorem put_row {L c x j : Nat} {R : List (List Int)} (hR : R = setsGo c (L + 1 - (x + 1)) (x + 1)) (hj : j < R.length) (hL : L ≤ 10) (hx1 : 1 ≤ x) (hxL : x ≤ L) : R[j].length = c ∧ ∀ z ∈ R[j], I64 z := by
  subst hR
  obtain ⟨h1, h2⟩ := setsGo_row _ _ _ _ (List.getElem_mem hj)
  exact ⟨h1, fun z hz => by have := h2 z hz; unfold I64; omega⟩
theorem short_both {Q R : List (List Int)} {x : Int} (j : Nat) (hQ : Short Q) (hR : ∀ r ∈ R, r.length ≤ 15) : Short (both Q (putAll x R j)) := by
  intro r hr
  rcases List.mem_append.1 hr with hr | hr
  · exact hQ r hr
  · rw [putAll, List.mem_map] at hr
    obtain ⟨q, hq, rfl⟩ := hr
    have := hR q (List.mem_of_mem_take hq)
    rw [List.length_cons]; omega
set_option maxHeartbeats 2000000 in
set_option maxRecDepth 100000 in
theorem letterSets_any (c : Nat) : ∀ (w : World) (L a : Nat) (hL : L ≤ 10) (ha1 : 1 ≤ a) (ha2 : a ≤ L + 1) (hc : c ≤ 11),
    Calls Try.prog 94 #[.int .i64 a, .int .i64 L, .int .i64 c] w fun e w' => ∃ r, e = .returned r ∧ OwnII w' w.heap.size w'.heap.size r (setsGo c (L + 1 - a) a) ∧ Below w.heap.size w w' := by
  induction c with
  | zero =>
    intro w L a hL ha1 ha2 hc
    have HO := Lib.hid (oneNil w)
    have HB := Lib.hid (alloc_below w (.cells #[.slice none 0 0] 34))
    have HSZ : Hid (w.heap.size + 1 ≤ (w.alloc (.cells #[.slice none 0 0] 34)).heap.size) := by simp [Hid]
    have HE : Hid (setsGo 0 (L + 1 - a) a = [[]]) := by rw [Hid, setsGo]
    have hz0 : (((0 : Nat) : Int) == 0) = true := rfl
    go_enter Try.func94, Try.ntmps94
    go_wp2
    go_ret
    exact ⟨_, rfl, by rw [HE.out]; exact HO.out.mono (Nat.le_refl _) HSZ.out (Nat.le_refl _), HB.out⟩
  | succ c ih =>
    intro w L a hL ha1 ha2 hc
    have HIH := Lib.hid ih
    clear ih
    rw [show ((c + 1 : Nat) : Int) = (c : Int) + 1 by omega]
    have hc0 : ((c : Int) + 1 == 0) = false := by simp; omega
    go_enter Try.func94, Try.ntmps94
    go_wp2_with fail
    go_loopw [7, 8] (fun ov xv wr => ∃ (x : Nat) (Q : List (List Int)), 1 ≤ x ∧ x ≤ L + 1 ∧ xv = .int .i64 x ∧ Hid (Q ++ setsGo (c + 1) (L + 1 - x) x = setsGo (c + 1) (L + 1 - a) a) ∧ Hid (OwnII wr w.heap.size wr.heap.size ov Q) ∧ Hid (Below w.heap.size w wr)) (fun _ xv _ => L + 1 - (intOf xv).toNat)
    case atStart => exact ⟨a, [], ha1, ha2, rfl, Lib.hid rfl, OwnII.nil _ _ _ (Nat.le_refl _), Lib.hid (Below.refl _ _)⟩
    case round =>
      obtain ⟨x, Q, hx1, hx2, rfl, HC, HOQ, HB⟩ := hrel
      obtain ⟨ea, ec, rfl⟩ := HOQ.out.shape
      have hsr := HB.out.size
      have hall := setsGo_len (L + 1 - a) (c + 1) a
      have hpow : 2 ^ (L + 1 - a) ≤ 2 ^ 10 := Nat.pow_le_pow_right (by decide) (by omega)
      have hlenC := congrArg List.length HC.out
      rw [List.length_append] at hlenC
      by_cases hxL : x + c ≤ L
      · have hxi : (x : Int) + ((c : Int) + 1) - 1 ≤ (L : Int) := by omega
        have hxi2 : (x : Int) + (c : Int) ≤ (L : Int) := by omega
        have HST := Lib.hid (sets_step (c := c) (show x ≤ L by omega))
        obtain ⟨R, hR⟩ : ∃ R, R = setsGo c (L + 1 - (x + 1)) (x + 1) := ⟨_, rfl⟩
        have HREC : Hid (Calls Try.prog 94 #[.int .i64 ((x : Int) + 1), .int .i64 L, .int .i64 c] wr fun e w' => ∃ r, e = .returned r ∧ OwnII w' wr.heap.size w'.heap.size r R ∧ Below wr.heap.size wr w') := by
          have h1 := HIH.out wr L (x + 1) hL (by omega) (by omega) (by omega)
          rw [show ((x + 1 : Nat) : Int) = (x : Int) + 1 by omega, ← hR] at h1
          exact h1
        have hRl : Q.length + R.length ≤ 1024 := by
          have h1 := congrArg List.length HST.out
          rw [List.length_append, List.length_map, ← hR] at h1
          omega
        rw [← hR] at HST
        have HRE := Lib.hid hR
        have HSQ : Hid (Short Q) := fun r hr => by
          have h1 := (setsGo_row (L + 1 - a) (c + 1) a r (by rw [← HC.out]; exact List.mem_append.2 (.inl hr))).1
          omega
        have HSR : Hid (∀ r ∈ R, r.length ≤ 15) := fun r hr => by
          rw [hR] at hr
          have h1 := (setsGo_row _ _ _ r hr).1
          omega
        have hgq := HOQ.out.ge
        have HGQ := Lib.hid hgq
        obtain ⟨wu, hwu⟩ : ∃ wu : World, wu = wr := ⟨_, rfl⟩
        clear hR hgq hlenC hall hpow
        go_wp2_with fail
        refine HREC.out.mono ?_
        rintro e w2 ⟨u2, rfl, ho2, hb2⟩
        obtain ⟨ra, rc, rfl⟩ := ho2.shape
        have hs2 := hb2.size
        have HR2 := Lib.hid ho2.rd
        have HB2 := Lib.hid (HB.out.trans (hb2.mono hsr))
        have HO2 : Hid (OwnII w2 w.heap.size w2.heap.size (.slice ea Q.length ec) (both Q (putAll x R 0))) := by
          have h1 := (HOQ.out.below hb2 (Nat.le_refl _)).mono (Nat.le_refl _) hs2 (Nat.le_refl _)
          have h2 : both Q (putAll x R 0) = Q := by simp [both, putAll]
          rw [Hid, h2]; exact h1
        have hgq2 : ∀ p, (Value.slice ea Q.length ec).ownBlock = some p → w.heap.size ≤ p ∧ p < wr.heap.size := fun p hp => HGQ.out p hp
        have HG2 := Lib.hid hgq2
        rw [← hwu] at HR2 HG2 hs2
        clear ho2 hb2 hgq2 HGQ HOQ hwu
        go_wp2_with fail
        go_loopw [7, 30] (fun ov jv wr => ∃ j : Nat, j ≤ R.length ∧ jv = .int .i64 j ∧ Hid (KeepB w2 wr (.slice ea Q.length ec)) ∧ Hid (OwnII wr w.heap.size wr.heap.size ov (both Q (putAll x R j))) ∧ Hid (BlkOk w2 (.slice ea Q.length ec) ov)) (fun _ jv _ => R.length - (intOf jv).toNat)
        case atStart => exact ⟨0, Nat.zero_le _, rfl, Lib.hid (KeepB.of_below _ (Below.refl _ _)), HO2, Lib.hid (.inl rfl)⟩
        case round =>
          clear HO2
          obtain ⟨j, hj, rfl, HK, HO, HBK⟩ := hrel
          obtain ⟨oa, oc, rfl⟩ := HO.out.shape
          have hsk := HK.out.size
          have hs2w := HB2.out.size
          by_cases hjl : j < R.length
          · have HRr := Lib.hid (HK.out.intss HR2.out (Nat.le_refl _) (fun p hp => .inl (HG2.out p hp).2))
            obtain ⟨b, off, ua, uc, hra, hck, hrow⟩ := HRr.out.at' hjl
            subst hra
            have hpr := put_row HRE.out hjl hL hx1 (by omega)
            have hrl : R[j].length ≤ 11 := by have := hpr.1; omega
            have HS := Lib.hid (putAll_succ (x := (x : Int)) hjl)
            have hpl := putAll_len (x : Int) R j
            have hbl : (both Q (putAll x R j)).length ≤ 1024 := by unfold both; rw [List.length_append]; omega
            obtain ⟨row, hrw⟩ : ∃ r, r = R[j] := ⟨_, rfl⟩
            rw [← hrw] at hck hrow hrl HS
            have kx : I64 (x : Int) := by unfold I64; omega
            have hb0 : Below wr.heap.size wr (wr.alloc (.cells #[.int .i64 x] 2)) := alloc_below _ _
            have H0 := Lib.hid (oneOwn wr x kx)
            have HB0 := Lib.hid hb0
            have HSZ : Hid ((wr.alloc (.cells #[.int .i64 x] 2)).heap.size = wr.heap.size + 1) := by simp [Hid]
            have HRW := Lib.hid (hrow.below hb0 (by omega))
            clear hb0 hrow hpr hrw
            go_wp2_with (at_builtin; refine wpList_appIs rfl _ _ rfl _ [(x : Int)] rfl H0.out _ row rfl HRW.out (by simp; omega) (by rw [HSZ.out]; omega) ?_)
            intro v3 w3 ho3 hsm3 hz3 _
            have HO3 : Hid (OwnI w3 wr.heap.size w3.heap.size v3 ((x : Int) :: row)) := by simpa [Hid] using ho3
            have HB3 := Lib.hid (HB0.out.trans (hsm3.below (Nat.le_refl _) (by rw [HSZ.out]; omega)))
            have hs3 := HB3.out.size
            have HOP := Lib.hid (HO.out.below HB3.out (Nat.le_refl _))
            have HSM : Hid (((both Q (putAll x R j) ++ [(x : Int) :: row]).map List.length).sum ≤ 1099511627776) := by
              have e : both Q (putAll x R (j + 1)) = both Q (putAll x R j) ++ [(x : Int) :: row] := by rw [both, HS.out, both, List.append_assoc]
              have h1 := short_sum (short_both (j + 1) HSQ.out HSR.out (x := (x : Int)))
              have h2 : (both Q (putAll x R (j + 1))).length ≤ 1025 := by rw [e, List.length_append]; simp; omega
              rw [Hid, ← e]; omega
            obtain ⟨va, vc, rfl⟩ := HO3.out.shape
            have hlo3 : w.heap.size ≤ w3.heap.size := by omega
            have hloW : w.heap.size ≤ wr.heap.size := by omega
            clear ho3 hsm3 hz3
            go_wp2_with (at_builtin; refine wpList_appIIK rfl _ _ rfl _ (both Q (putAll x R j)) rfl _ ((x : Int) :: row) _ HOP.out HO3.out (Nat.le_refl _) hloW rfl (by omega) HSM.out hlo3 ?_)
            intro v4 w4 ho4 hk4 hsm4 hz4 hb4
            have HO4 : Hid (OwnII w4 w.heap.size w4.heap.size v4 (both Q (putAll x R (j + 1)))) := by
              have e : both Q (putAll x R (j + 1)) = both Q (putAll x R j) ++ [(x : Int) :: row] := by rw [both, HS.out, both, List.append_assoc]
              rw [Hid, e]; exact ho4
            have HK4 : Hid (KeepB w2 w4 (.slice ea Q.length ec)) :=
              HK.out.trans ((KeepB.of_below (.slice oa (both Q (putAll x R j)).length oc) HB3.out).trans ⟨hsm4.os, hsm4.tape, hsm4.output, hsm4.size, hk4⟩ (.inl rfl)) HBK.out
            have HBK4 : Hid (BlkOk w2 (.slice ea Q.length ec) v4) := by
              rcases hb4 with h1 | h1
              · rcases HBK.out with h2 | h2
                · exact .inl (h1.trans h2)
                · exact .inr (fun p hp => h2 p (by rw [← h1]; exact hp))
              · exact .inr (fun p hp => by rw [h1] at hp; injection hp with hp; omega)
            obtain ⟨ya, yc, hye⟩ := HO4.out.shape
            subst hye
            clear ho4 hk4 hsm4 hz4 hb4
            go_wp2
            go_roundw
            case rel => exact ⟨j + 1, by omega, by go_num, HK4, HO4, HBK4⟩
            case measure => simp [intOf]; omega
          · obtain rfl : j = R.length := by omega
            have HC2 : Hid (both Q (putAll x R R.length) ++ setsGo (c + 1) (L + 1 - (x + 1)) (x + 1) = setsGo (c + 1) (L + 1 - a) a) := by
              rw [Hid, ← HC.out, HST.out, both, putAll_all, List.append_assoc]
            have HB4 : Hid (Below w.heap.size w wr) := HB2.out.trans (HK.out.below hs2w (fun p hp => (HG2.out p hp).1))
            go_wp2
            go_roundw
            case rel => exact ⟨x + 1, _, by omega, by omega, by go_num, HC2, HO, HB4⟩
            case measure => simp [intOf]; omega
      · have HE : Hid (setsGo (c + 1) (L + 1 - a) a = Q) := by rw [Hid, ← HC.out, setsGo_few _ _ _ (by omega), List.append_nil]
        have hxi : ¬ (x : Int) + ((c : Int) + 1) - 1 ≤ (L : Int) := by omega
        have hxi2 : ¬ (x : Int) + (c : Int) ≤ (L : Int) := by omega
        go_wp2
        go_ret
        exact ⟨_, rfl, by rw [HE.out]; exact HOQ.out, HB.out⟩
def negAll (S : List (List Int)) (j : Nat) : List (List Int) := (S.take j).map negs
theorem negAll_succ {S : List (List Int)} {j : Nat} (h : j < S.length) : negAll S (j + 1) = negAll S j ++ [negs S[j]] := by rw [negAll, List.take_succ_eq_append_getElem h, List.map_append]; rfl
theorem negAll_all (S : List (List Int)) : negAll S S.length = S.map negs := by rw [negAll, List.take_length]
theorem negAll_len (S : List (List Int)) (j : Nat) : (negAll S j).length ≤ S.length := by rw [negAll, List.length_map, List.length_take]; omega
theorem negAll_short {S : List (List Int)} (j : Nat) (h : ∀ r ∈ S, r.length ≤ 15) : Short (negAll S j) := by
  intro r hr
  rw [negAll, List.mem_map] at hr
  obtain ⟨q, hq, rfl⟩ := hr
  have := h q (List.mem_of_mem_take hq)
  rw [negs_len]; omega
set_option maxHeartbeats 2000000 in
set_option maxRecDepth 100000 in
theorem implAtMostForm_any (w : World) (L m : Int) (kL : I64 L) (km : I64 m) :
    Calls Try.prog 38 #[.int .i64 L, .int .i64 m] w fun e w' => ∃ r, e = .returned (.tuple #[r, .bool (atMostF L m).2]) ∧ OwnF w' w.heap.size w'.heap.size r (atMostF L m).1 ∧ Below w.heap.size w w' := by
  obtain ⟨W, hW⟩ : ∃ W, W = w.alloc (.cells #[.int .i64 0, .slice none 0 0] 26) := ⟨_, rfl⟩
  have hsW : W.heap.size = w.heap.size + 1 := by rw [hW]; simp
  have hBW : Below w.heap.size w W := by rw [hW]; exact alloc_below _ _
  have hbr : TwoC W w.heap.size 26 (.int .i64 0) (.slice none 0 0) := by rw [hW]; exact TwoC.new _ _ _ _
  have HR := Lib.hid hbr
  have HBW := Lib.hid hBW
  have r0 := hbr.c0
  have r1 := hbr.c1
  have g0 := hbr.f0
  have g1 := hbr.f1
  have HL5 := Lib.hid (isLetterCount_any L W)
  have HIN := Lib.hid (within_any m 0 L W)
  clear hbr hBW
  cases hL : inB 1 10 L
  · have HE := Lib.hid (atMost_no (L := L) (m := m) (by rw [hL]; rfl))
    rw [hL] at HL5
    go_enter Try.func38, Try.ntmps38
    go_wp2_with fail
    rw [← hW]
    clear hW hsW
    refine HL5.out.mono ?_
    rintro e w' ⟨rfl, rfl⟩
    go_wp2_with fail
    refine bodyPost_ret (v := .tuple #[.agg #[.int .i64 0, .slice none 0 0], .bool false]) (by simp [results, Try.results38, go_sem, r0, r1]) rfl ⟨_, by rw [HE.out], by rw [HE.out]; exact noForm _ _ (Nat.le_refl _) _, ?_⟩
    exact (HBW.out.setCell (by simp) _).setCell (by simp) _
  cases hm : inB 0 L m
  · have HE := Lib.hid (atMost_no (L := L) (m := m) (by rw [hm, Bool.and_false]))
    rw [hL] at HL5
    rw [hm] at HIN
    go_enter Try.func38, Try.ntmps38
    go_wp2_with fail
    rw [← hW]
    clear hW hsW
    refine HL5.out.mono ?_
    rintro e w' ⟨rfl, rfl⟩
    go_wp2_with fail
    refine HIN.out.mono ?_
    rintro e w' ⟨rfl, rfl⟩
    go_wp2_with fail
    refine bodyPost_ret (v := .tuple #[.agg #[.int .i64 0, .slice none 0 0], .bool false]) (by simp [results, Try.results38, go_sem, r0, r1]) rfl ⟨_, by rw [HE.out], by rw [HE.out]; exact noForm _ _ (Nat.le_refl _) _, ?_⟩
    exact (HBW.out.setCell (by simp) _).setCell (by simp) _
  have bL := inB_true hL
  have bm := inB_true hm
  obtain ⟨N, hN⟩ := Int.eq_ofNat_of_zero_le (show 0 ≤ L by omega)
  obtain ⟨M, hM⟩ := Int.eq_ofNat_of_zero_le (show 0 ≤ m by omega)
  have HE : Hid (atMostF L m = checkedF ⟨L, (setsGo (M + 1) (N + 1 - 1) 1).map negs⟩) := by
    rw [Hid, atMost_yes (by rw [hL, hm]; rfl), hN, hM]
    rfl
  rw [hL] at HL5
  rw [hm] at HIN
  subst hN
  subst hM
  have hN10 : N ≤ 10 := by omega
  have hN1 : 1 ≤ N := by omega
  have hMN : M ≤ N := by omega
  obtain ⟨W3, hW3⟩ : ∃ W', W' = W.alloc (.cells #[.int .i64 N, .slice none 0 0] 26) := ⟨_, rfl⟩
  have hs3 : W3.heap.size = w.heap.size + 1 + 1 := by rw [hW3]; simp [hsW]
  have hb3 : Below W.heap.size W W3 := by rw [hW3]; exact alloc_below _ _
  have hp3 : TwoC W3 (w.heap.size + 1) 26 (.int .i64 N) (.slice none 0 0) := by rw [hW3, ← hsW]; exact TwoC.new _ _ _ _
  have HLS := Lib.hid (letterSets_any (M + 1) W3 N 1 hN10 (Nat.le_refl _) (by omega) (by omega))
  rw [show ((M + 1 : Nat) : Int) = (M : Int) + 1 by omega] at HLS
  have hrow := setsGo_row (N + 1 - 1) (M + 1) 1
  have hslen := setsGo_len (N + 1 - 1) (M + 1) 1
  have hpow : 2 ^ (N + 1 - 1) ≤ 2 ^ 10 := Nat.pow_le_pow_right (by decide) (by omega)
  obtain ⟨S, hS⟩ : ∃ S, S = setsGo (M + 1) (N + 1 - 1) 1 := ⟨_, rfl⟩
  rw [← hS] at HE HLS hrow hslen
  have hs1024 : S.length ≤ 1024 := by omega
  have HSR : Hid (∀ r ∈ S, r.length ≤ 15) := fun r hr => by have := (hrow r hr).1; omega
  have HSX : Hid (∀ r ∈ S, ∀ x ∈ r, -10 ≤ x ∧ x ≤ 10) := fun r hr x hx => by have := (hrow r hr).2 x hx; omega
  have HWE : Hid (W3 = (w.alloc (.cells #[.int .i64 0, .slice none 0 0] 26)).alloc (.cells #[.int .i64 N, .slice none 0 0] 26)) := by rw [Hid, hW3, hW]
  have HP3 := Lib.hid hp3
  have HB3 : Hid (Below (w.heap.size + 1) W W3) := hb3.mono (by omega)
  have hsz3 : w.heap.size + 1 < W3.heap.size := by omega
  have hsz3' : w.heap.size + 1 + 1 ≤ W3.heap.size := by omega
  have hlWW : W.heap.size ≤ w.heap.size + 1 := by omega
  have HlWW := Lib.hid hlWW
  clear hL hm bL bm hb3 hp3 hs3 hW3 hS hrow hslen hpow hlWW
  go_enter Try.func38, Try.ntmps38
  go_wp2_with fail
  rw [← hW]
  have HWA := Lib.hid hW
  clear hW hsW
  refine HL5.out.mono ?_
  rintro e w' ⟨rfl, rfl⟩
  go_wp2_with fail
  refine HIN.out.mono ?_
  rintro e w' ⟨rfl, rfl⟩
  rw [HWA.out]
  go_wp2_with fail
  rw [← HWE.out]
  refine HLS.out.mono ?_
  rintro e w4 ⟨u4, rfl, ho4, hb4⟩
  obtain ⟨sa, sc, rfl⟩ := ho4.shape
  have hs4 := hb4.size
  have HP4 := Lib.hid (HP3.out.below hb4 hsz3)
  have HI4 := Lib.hid ho4.rd
  have HB4 : Hid (Below (w.heap.size + 1) W w4) := HB3.out.trans (hb4.mono (by omega))
  have hB4 : w.heap.size + 1 < w4.heap.size := by omega
  clear ho4 hb4 r0 r1 g0 g1
  go_wp2_with fail
  go_loopw [26] (fun jv wr => ∃ (j : Nat) (ov : Value), j ≤ S.length ∧ jv = .int .i64 j ∧ Hid (TwoC wr (w.heap.size + 1) 26 (.int .i64 N) ov) ∧ Hid (OwnII wr w4.heap.size wr.heap.size ov (negAll S j)) ∧ Hid (Intss wr W3.heap.size w4.heap.size (.slice sa S.length sc) S) ∧ w4.heap.size ≤ wr.heap.size ∧ Hid (Below (w.heap.size + 1) W wr)) (fun jv _ => S.length - (intOf jv).toNat)
  case atStart => exact ⟨0, _, Nat.zero_le _, rfl, HP4, OwnII.nil _ _ _ (Nat.le_refl _), HI4, Nat.le_refl _, HB4⟩
  case round =>
    clear HP4 HI4 HB4 HL5 HIN HLS
    obtain ⟨j, ov, hj, rfl, HP, HO, HI, hsr, HBr⟩ := hrel
    obtain ⟨oa, oc, rfl⟩ := HO.out.shape
    have hplt := HP.out.lt
    have hnl := negAll_len S j
    by_cases hjl : j < S.length
    · obtain ⟨b, off, ua, uc, hsa, hck, hrow⟩ := HI.out.at' hjl
      subst hsa
      have HS := Lib.hid (negAll_succ hjl)
      have hmem : S[j] ∈ S := List.getElem_mem hjl
      have hrx := HSX.out _ hmem
      have hrl := HSR.out _ hmem
      obtain ⟨row, hrw⟩ : ∃ r, r = S[j] := ⟨_, rfl⟩
      rw [← hrw] at hck hrow hrl HS hrx
      have hDw : Drew wr wr.drew := ⟨1, rfl⟩
      have HCP := Lib.hid (opposites_any _ row wr.drew (hrow.drew hDw) (by rw [hDw.heap]; omega) hrx (by omega))
      have c66 := HP.out.c1
      obtain ⟨nr, hnr⟩ : ∃ nr, nr = negs row := ⟨_, rfl⟩
      rw [← hnr] at HCP HS
      have HSM : Hid (((negAll S j ++ [nr]).map List.length).sum ≤ 1099511627776) := by
        have h1 := short_sum (negAll_short (j + 1) HSR.out)
        have h2 := negAll_len S (j + 1)
        rw [Hid, ← HS.out]; omega
      have hsum := HSM.out
      have hlen1 : (negAll S j).length + 1 ≤ 1048576 := by omega
      have hlow : w4.heap.size ≤ wr.heap.size := hsr
      clear hrow hmem hrx hrw hnr
      go_wp2_with fail
      go_region_law (first | (go_simp; go_at_call 58; refine HCP.out.mono ?_; rintro e w3 ⟨u3, rfl, ho3, hb3⟩; obtain ⟨qa, qc, rfl⟩ := ho3.shape; have hb3' : Below wr.heap.size wr w3 := (hDw.below _).trans hb3; have hz3 := hb3'.size; have hp3 := HP.out.below hb3' hplt; have ho3' := HO.out.below hb3' (Nat.le_refl _); have c66b := hp3.c1; have c66c := (hp3.alloc (.cells #[.slice qa nr.length qc] 34)).c1) | ((refine step_appII (by rfl) _ _ (by rfl) _ (negAll S j) (by rfl) _ nr _ ho3' ho3 (Nat.le_refl _) hlow (by rfl) hlen1 hsum (by omega) ?_; intro v4 w5 ho4 hsm4 hz4; obtain ⟨ya, yc, rfl⟩ := ho4.shape1; have hp4 := hp3.same hsm4 (.inl hB4); have c4 := hp4.c1; have f4 := hp4.f1)))
      all_goals
        have HP5 := Lib.hid (hp4.set1 (.slice ya ((negAll S j).length + 1) yc))
        have hS1 := set1_same w5 (w.heap.size + 1) 1 (.slice ya ((negAll S j).length + 1) yc)
        have HO5 : Hid (OwnII (w5.setCell ⟨w.heap.size + 1, 1, none⟩ (.slice ya ((negAll S j).length + 1) yc)) w4.heap.size (w5.setCell ⟨w.heap.size + 1, 1, none⟩ (.slice ya ((negAll S j).length + 1) yc)).heap.size (.slice ya ((negAll S j).length + 1) yc) (negAll S (j + 1))) := by
          rw [Hid, HS.out]; exact (ho4.same hS1 (.inr (by omega))).mono (Nat.le_refl _) hS1.size (Nat.le_refl _)
        have HI5 := Lib.hid (((HI.out.below hb3' (by omega)).same hsm4 (.inl (Nat.le_refl _))).same hS1 (.inr hsz3'))
        have HB5 := Lib.hid (((HBr.out.trans (hb3'.mono (by omega))).trans (hsm4.below (B := w.heap.size + 1) (by omega) (by omega))).setCell (p := ⟨w.heap.size + 1, 1, none⟩) (Nat.le_refl _) (.slice ya ((negAll S j).length + 1) yc))
        have hs5 : w4.heap.size ≤ (w5.setCell ⟨w.heap.size + 1, 1, none⟩ (.slice ya ((negAll S j).length + 1) yc)).heap.size := by have := hS1.size; omega
        have HS5 := Lib.hid hs5
        clear ho4 hsm4 hp3 ho3' ho3 hb3 hb3' hDw hS1 hs5
        go_wp2
        go_roundw
        case rel => exact ⟨j + 1, _, by omega, by go_num, HP5, HO5, HI5, HS5.out, HB5⟩
        case measure => simp [intOf]; omega
    · obtain rfl : j = S.length := by omega
      have c0 := HP.out.c0
      have c1 := HP.out.c1
      have hsh := negAll_short S.length HSR.out
      have hna := negAll_all S
      obtain ⟨F, hF⟩ : ∃ F, F = negAll S S.length := ⟨_, rfl⟩
      rw [← hna, ← hF] at HE
      rw [← hF] at HO hsh hnl c1
      have hsm : SmallII F := ⟨by omega, by have := short_sum hsh; omega⟩
      have HGV := Lib.hid (checked_any wr (.agg #[.int .i64 N, .slice oa F.length oc]) ⟨(N : Int), F⟩ ⟨⟨_, rfl, HO.out.rd⟩, kL⟩ (Nat.le_refl _) hsm)
      have HEC : Hid (checkedF ⟨(N : Int), F⟩ = if validForm ⟨(N : Int), F⟩ then (⟨(N : Int), F⟩, true) else (⟨0, []⟩, false)) := rfl
      clear hF hna hsh hsm
      go_wp2_with fail
      refine HGV.out.mono ?_
      rintro e w7 ⟨r7, rfl, ht7, hf7, hb7⟩
      have hs7 := hb7.size
      have hr7 := HR.out.below (HBr.out.trans (hb7.mono (by omega))) (Nat.lt_succ_self _)
      have r0' := hr7.c0
      have r1' := hr7.c1
      have g0' := hr7.f0
      have g1' := hr7.f1
      have HBF : Hid (Below w.heap.size w w7) := HBW.out.trans ((HBr.out.trans (hb7.mono (by omega))).mono (Nat.le_succ _))
      have HOF := Lib.hid (HO.out.below hb7 (Nat.le_refl _))
      clear hb7 hr7 HGV c0 c1
      cases hvo : validForm ⟨(N : Int), F⟩
      · obtain rfl := hf7 hvo
        have HE2 : Hid (atMostF N M = (⟨0, []⟩, false)) := by rw [Hid, HE.out, HEC.out, hvo]; rfl
        clear ht7 hf7
        go_wp2_with fail
        refine bodyPost_ret (v := .tuple #[.agg #[.int .i64 0, .slice none 0 0], .bool false]) (by simp [results, Try.results38, go_sem, r0', r1']) rfl ⟨_, by rw [HE2.out], by rw [HE2.out]; exact noForm _ _ (Nat.le_refl _) _, ?_⟩
        exact (HBF.out.setCell (by simp) _).setCell (by simp) _
      · obtain rfl := ht7 hvo
        have HE2 : Hid (atMostF N M = (⟨(N : Int), F⟩, true)) := by rw [Hid, HE.out, HEC.out, hvo]; rfl
        clear ht7 hf7
        go_wp2_with fail
        have hS := ((Same.refl w.heap.size (w.heap.size + 1) w7).setCell (p := ⟨w.heap.size, 0, none⟩) (by simp) (by simp) (.int .i64 N)).setCell (p := ⟨w.heap.size, 1, none⟩) (by simp) (by simp) (.slice oa F.length oc)
        refine bodyPost_ret (v := .tuple #[.agg #[.int .i64 N, .slice oa F.length oc], .bool true]) (by simp [results, Try.results38, go_sem, r0', r1']) rfl ⟨_, by rw [HE2.out], ?_, HBF.out.trans (hS.below (Nat.le_refl _) HBF.out.size)⟩
        rw [HE2.out]
        exact ⟨⟨_, rfl, (HOF.out.same hS (.inr (by omega))).mono (by omega) (by have := hS.size; omega) (Nat.le_refl _)⟩, kL⟩
end Go.Proofs.Ytcpbgjnijhcpkaa
