/-
  ProveNo: contracts in the reference (written by wip/gen/proves.py: the tail of the walk stands twice).
-/
import Derived.Test.YtcpbgjnijhcpkaaProveA
import Derived.Test.YtcpbgjnijhcpkaaUnitS
import Derived.Deep.DeepCutAuto
namespace Go.Proofs.Ytcpbgjnijhcpkaa
open Go.RowKit
set_option linter.unusedVariables false
set_option maxRecDepth 100000

/-- what the reference's search leaves: no proof is nil -/
def ProvePostN (L : Nat) (cs : List (List Int)) (n : Nat) (d : List Int) (P : List (List Int)) (lo : Nat) (v : Value) (w : World) (e : Ending) (w' : World) : Prop :=
  KeepB w w' v ∧ ((proveGo L cs n d P = none ∧ e = .returned (.tuple #[.slice none 0 0, .bool false])) ∨ ∃ P' r, proveGo L cs n d P = some P' ∧ e = .returned (.tuple #[r, .bool true]) ∧ OwnII w' lo w'.heap.size r P' ∧ BlkOk w v r)
set_option maxHeartbeats 2000000 in
set_option maxRecDepth 100000 in
theorem l05Prove_any (n : Nat) : ∀ (w : World) {l h l' h' : Nat} (pf L : Nat) (cv vd v : Value) (cs : List (List Int)) (d : List Int) (P : List (List Int)) {lo : Nat}
    (hp0 : w.cell? ⟨pf, 0, none⟩ = some (.int .i64 L)) (hp1 : w.cell? ⟨pf, 1, none⟩ = some cv) (hpf : pf < lo) (hv : Intss w l h cv cs) (hh : h ≤ lo) (hz : SmallII cs) (hcl : ∀ c ∈ cs, ∀ x ∈ c, isLit (L : Int) x = true)
    (hd : Ints w l' h' vd d) (hh' : h' ≤ w.heap.size) (hdv : ∀ p, v.ownBlock = some p → p < l' ∨ h' ≤ p) (hcd : Cons (L : Int) d) (ho : OwnII w lo w.heap.size v P) (hlo : lo ≤ w.heap.size) (hPl : P.length ≤ 128) (hPs : (P.map List.length).sum ≤ 10 * P.length) (hL : L ≤ 10) (hfuel : 11 ≤ n + d.length),
    Calls Try.prog 54 #[.pointer (some ⟨pf, 0, none⟩), vd, v] w (ProvePostN L cs n d P lo v w) := by
  induction n with
  | zero =>
    intro w l h l' h' pf L cv vd v cs d P lo hp0 hp1 hpf hv hh hz hcl hd hh' hdv hcd ho hlo hPl hPs hL hfuel
    have := hcd.len (by omega)
    omega
  | succ n ih =>
    intro w l h l' h' pf L cv vd v cs d P lo hp0 hp1 hpf hv hh hz hcl hd hh' hdv hcd ho hlo hPl hPs hL hfuel
    have hL10 : (L : Int) ≤ 10 := by omega
    have hd10 := hcd.len hL10
    have HIH := Lib.hid ih
    clear ih
    obtain ⟨da, dc, hde, dc1, dc2, _⟩ := hd.out
    subst hde
    obtain ⟨pa, pc, hpe⟩ := ho.shape
    subst hpe
    have hgb := ho.ge
    obtain ⟨ca, cc, CV, hce, _, _, _, _⟩ := hv.out
    subst hce
    have HUN := Lib.hid (l05Units_any w (L : Int) _ _ cs d hL10 hv (by omega) hz hcl hd hh' hcd)
    have HUO := Lib.hid (unitsF_ok (g := d) hL10 hcl hcd)
    have HFC : Hid (freeOf L (unitsF cs d).known ≤ L → Cons (L : Int) (d ++ [-(freeOf L (unitsF cs d).known : Int)]) ∧ Cons (L : Int) (d ++ [(freeOf L (unitsF cs d).known : Int)])) := fun hf => free_cons hcd hf
    have HW1 : Hid (¬ (unitsF cs d).wrong < 0 → proveGo L cs (n + 1) d P = if P.length < 128 then some (P ++ [clauseOf d]) else none) := fun h => prove_wrong h
    have HFU : Hid ((unitsF cs d).wrong < 0 → ¬ freeOf L (unitsF cs d).known ≤ L → proveGo L cs (n + 1) d P = none) := fun h1 h2 => prove_full h1 h2
    have HON : Hid ((unitsF cs d).wrong < 0 → freeOf L (unitsF cs d).known ≤ L → proveGo L cs n (d ++ [-(freeOf L (unitsF cs d).known : Int)]) P = none → proveGo L cs (n + 1) d P = none) := fun h1 h2 h3 => prove_one h1 h2 h3
    have HTW : Hid (∀ P1, (unitsF cs d).wrong < 0 → freeOf L (unitsF cs d).known ≤ L → proveGo L cs n (d ++ [-(freeOf L (unitsF cs d).known : Int)]) P = some P1 → proveGo L cs n (d ++ [(freeOf L (unitsF cs d).known : Int)]) P1 = none → proveGo L cs (n + 1) d P = none) := fun P1 h1 h2 h3 h4 => prove_two h1 h2 h3 h4
    have HTH : Hid (∀ P1 P2, (unitsF cs d).wrong < 0 → freeOf L (unitsF cs d).known ≤ L → proveGo L cs n (d ++ [-(freeOf L (unitsF cs d).known : Int)]) P = some P1 → proveGo L cs n (d ++ [(freeOf L (unitsF cs d).known : Int)]) P1 = some P2 → proveGo L cs (n + 1) d P = if P2.length < 128 then some (P2 ++ [clauseOf d]) else none) := fun P1 P2 h1 h2 h3 h4 => prove_three h1 h2 h3 h4
    have HFR : Hid (freeFrom L (unitsF cs d).known (L + 1 - 1) 1 = freeOf L (unitsF cs d).known) := by rw [Hid, show L + 1 - 1 = L by omega]; rfl
    obtain ⟨U, hU⟩ : ∃ U, U = unitsF cs d := ⟨_, rfl⟩
    rw [← hU] at HUN HUO HFC HW1 HFU HON HTW HTH HFR
    have HD := Lib.hid hd
    have HDV := Lib.hid hdv
    have HCD := Lib.hid hcd
    have HO := Lib.hid ho
    have HV := Lib.hid hv
    have HP0 := Lib.hid hp0
    have HP1 := Lib.hid hp1
    have HGB := Lib.hid hgb
    have HZ := Lib.hid hz
    have HCL := Lib.hid hcl
    have HPS := Lib.hid hPs
    have hll' : l' ≤ w.heap.size ∨ d = [] := by
      obtain ⟨_, _, _, _, _, hx⟩ := hd.out
      rcases hx with hx | ⟨b, o, _, r1, r2, _⟩
      · exact .inr hx
      · exact .inl (by omega)
    clear hU hd hdv hcd ho hv hp0 hgb hz hcl hPs hll'
    go_enter Try.func54, Try.ntmps54
    go_wp2_with fail
    clear hp1
    refine HUN.out.mono ?_
    rintro e w1 ⟨vk, vb, rfl, hok, hob, hb1⟩
    obtain ⟨va, vc, rfl⟩ := hok.shape
    obtain ⟨ba, bc, rfl⟩ := hob.shape
    have hs1 := hb1.size
    have hbW : Below w1.heap.size w1 (w1.alloc (.cells #[.slice va U.known.length vc, .slice ba U.why.length bc, .int .i64 U.wrong] 75)) := alloc_below _ _
    have t2 : (w1.alloc (.cells #[.slice va U.known.length vc, .slice ba U.why.length bc, .int .i64 U.wrong] 75)).cell? ⟨w1.heap.size, 2, none⟩ = some (.int .i64 U.wrong) := (TriC.new _ _ _ _ _).c2
    obtain ⟨W1, hW1⟩ : ∃ W, W = w1.alloc (.cells #[.slice va U.known.length vc, .slice ba U.why.length bc, .int .i64 U.wrong] 75) := ⟨_, rfl⟩
    have HT : Hid (TriC W1 w1.heap.size 75 (.slice va U.known.length vc) (.slice ba U.why.length bc) (.int .i64 U.wrong)) := by rw [Hid, hW1]; exact TriC.new _ _ _ _ _
    rw [← hW1] at hbW t2
    have HBW : Hid (Below w.heap.size w W1) := hb1.trans (hbW.mono hs1)
    have hsW := hbW.size
    have hsW' : w.heap.size ≤ W1.heap.size := by omega
    have HKN := Lib.hid (hok.rd.below hbW (Nat.le_refl _))
    have HKR : Hid (∀ (a : Nat), hasI U.known (a : Int) = true → hasI U.known (-(a : Int)) = true → False) := fun a h1 h2 => HUO.out.cons.not_both ((hasI_iff _ _).1 h1) ((hasI_iff _ _).1 h2)
    have HW1e := Lib.hid hW1
    clear hok hob hb1 hbW hW1
    by_cases hwr : U.wrong < 0
    · have hwd : decide (U.wrong < 0) = true := by simpa using hwr
      have HWR := Lib.hid hwr
      rw [HW1e.out] at t2
      go_wp2_with fail
      rw [← HW1e.out]
      clear t2
      go_loop [9] (fun av => ∃ a : Nat, 1 ≤ a ∧ a ≤ L + 1 ∧ av = .int .i64 a ∧ Hid (freeFrom L U.known (L + 1 - a) a = freeOf L U.known)) (fun av => L + 1 - (intOf av).toNat)
      case atStart => exact ⟨1, Nat.le_refl _, by omega, rfl, HFR⟩
      case round =>
        obtain ⟨a, ha1, ha2, rfl, H⟩ := hrel
        have q0 : W1.cell? ⟨pf, 0, none⟩ = some (.int .i64 L) := by rw [HBW.out.cell (p := ⟨pf, 0, none⟩) (show pf < w.heap.size by omega)]; exact HP0.out
        by_cases haL : a ≤ L
        · have hai : (a : Int) ≤ (L : Int) := by omega
          have HKC := Lib.hid (l05Known_any w1.heap.size _ U.known (a : Int) W1 HT.out.c0 HKN.out (by omega) (by omega) (HKR.out a))
          cases hfr : (hasI U.known (a : Int) || hasI U.known (-(a : Int)))
          · have hkn : knownN U.known (a : Int) = 0 := by
              rw [Bool.or_eq_false_iff] at hfr
              simp [knownN, hfr.1, hfr.2]
            rw [hkn] at HKC
            have HFO : Hid (freeOf L U.known = a) := by rw [Hid, ← H.out]; exact free_hit haL hfr
            clear hkn hfr
            have hai2 : ¬ (L : Int) < (a : Int) := by omega
            have hfl : freeOf L U.known ≤ L := by rw [HFO.out]; exact haL
            have HCC := Lib.hid (HFC.out hfl)
            have HON2 := Lib.hid (HON.out HWR.out hfl)
            have HTW2 := Lib.hid (fun P1 => HTW.out P1 HWR.out hfl)
            have HTH2 := Lib.hid (fun P1 P2 => HTH.out P1 P2 HWR.out hfl)
            rw [HFO.out] at HCC HON2 HTW2 HTH2
            have hb0 : Below W1.heap.size W1 (W1.alloc (.cells #[] 2)) := alloc_below _ _
            have H0 := Lib.hid (emptySlice W1)
            have hs0 : W1.heap.size ≤ (W1.alloc (.cells #[] 2)).heap.size := hb0.size
            have HS0 := Lib.hid hs0
            have HB0 := Lib.hid hb0
            have HD1 := Lib.hid ((HD.out.below HBW.out hh').below hb0 (by omega))
            clear hfl hb0 hs0 HON HTW HTH HFU HFC HW1 H HFR
            go_wp2_with fail
            refine HKC.out.mono ?_
            rintro e w' ⟨rfl, rfl⟩
            go_wp2_with (at_builtin; refine wpList_appIs rfl _ _ rfl _ [] rfl H0.out _ d rfl HD1.out (by simp; omega) HS0.out ?_)
            intro v3 w3 ho3 hsm3 hz3 _
            have HO3 : Hid (OwnI w3 W1.heap.size w3.heap.size v3 d) := by simpa [Hid] using ho3
            have HB3 := Lib.hid (HB0.out.trans (hsm3.below (Nat.le_refl _) HS0.out))
            have hs3 := HB3.out.size
            clear ho3 hsm3
            go_wp2_with (at_builtin; refine wpList_app1 rfl _ _ rfl _ d rfl (-(a : Int)) _ HO3.out rfl (by unfold I64; omega) (by omega) hs3 ?_)
            intro v4 w4 ho4 hsm4 hz4 _
            have hb4 : Below w.heap.size w w4 := HBW.out.trans ((HB3.out.trans (hsm4.below (Nat.le_refl _) hs3)).mono hsW')
            have hs4 := hb4.size
            have hs14 : W1.heap.size ≤ w4.heap.size := Nat.le_trans hs3 (by omega)
            obtain ⟨xa, xc, rfl⟩ := ho4.shape1
            have HREC := Lib.hid (HIH.out w4 pf L (.slice ca cs.length cc) _ (.slice pa P.length pc) cs (d ++ [-(a : Int)]) P (lo := lo)
              (by rw [hb4.cell (p := ⟨pf, 0, none⟩) (show pf < w.heap.size by omega)]; exact HP0.out) (by rw [hb4.cell (p := ⟨pf, 1, none⟩) (show pf < w.heap.size by omega)]; exact HP1.out) hpf (HV.out.below hb4 (by omega)) hh HZ.out HCL.out ho4.rd (Nat.le_refl _)
              (fun p hp => .inl (by have := (HGB.out p hp).2; omega)) HCC.out.1 ((HO.out.below hb4 (Nat.le_refl _)).mono (Nat.le_refl _) hs4 (Nat.le_refl _)) (by omega) hPl HPS.out hL (by rw [List.length_append]; simp; omega))
            have HB4 := Lib.hid hb4
            have HD4 := Lib.hid (HD.out.below hb4 hh')
            clear ho4 hsm4 hb4 HO3 HB3
            go_wp2_with fail
            refine HREC.out.mono ?_
            rintro e w5 ⟨hk5, ⟨hn5, rfl⟩ | ⟨P1, r5, he5, rfl, ho5, hb5⟩⟩
            · have HN := Lib.hid (HON2.out hn5)
              have HK5 : Hid (KeepB w w5 (.slice pa P.length pc)) := (KeepB.of_below _ HB4.out).trans hk5 (.inl rfl)
              clear hn5 hk5
              go_wp2
              go_ret2
              exact ⟨HK5.out, .inl ⟨HN.out, rfl⟩⟩
            have HK5 : Hid (KeepB w w5 (.slice pa P.length pc)) := (KeepB.of_below _ HB4.out).trans hk5 (.inl rfl)
            have HBO5 : Hid (BlkOk w (.slice pa P.length pc) r5) := by
              rcases hb5 with h1 | h1
              · exact .inl h1
              · exact .inr (fun p hp => by have := h1 p hp; omega)
            have hs5 := HK5.out.size
            have HL5 : Hid (Below lo w w5) := HK5.out.below hlo (fun p hp => (HGB.out p hp).1)
            have hPl1 : P1.length ≤ 128 := prove_len _ _ _ _ he5
            have HPS1 : Hid ((P1.map List.length).sum ≤ 10 * P1.length) := prove_sum hL10 _ _ _ _ HCC.out.1 HPS.out he5
            have HD5 : Hid (Ints w5 l' h' (.slice da d.length dc) d) := hk5.ints HD4.out (by omega) HDV.out
            have HTW3 := Lib.hid (HTW2.out P1 he5)
            have HTH3 := Lib.hid (fun P2 => HTH2.out P1 P2 he5)
            obtain ⟨ra, rc, rfl⟩ := ho5.shape
            have HO5 := Lib.hid ho5
            have hb05 : Below w5.heap.size w5 (w5.alloc (.cells #[] 2)) := alloc_below _ _
            have H05 := Lib.hid (emptySlice w5)
            have HS05 := Lib.hid hb05.size
            have HB05 := Lib.hid hb05
            have HD15 := Lib.hid (HD5.out.below hb05 (by omega))
            clear he5 hk5 hb5 ho5 hb05 HREC
            go_wp2_with (at_builtin; refine wpList_appIs rfl _ _ rfl _ [] rfl H05.out _ d rfl HD15.out (by simp; omega) HS05.out ?_)
            intro v6 w6 ho6 hsm6 hz6 _
            have HO6 : Hid (OwnI w6 w5.heap.size w6.heap.size v6 d) := by simpa [Hid] using ho6
            have HB6 := Lib.hid (HB05.out.trans (hsm6.below (Nat.le_refl _) HS05.out))
            have hs6 := HB6.out.size
            clear ho6 hsm6
            go_wp2_with (at_builtin; refine wpList_app1 rfl _ _ rfl _ d rfl (a : Int) _ HO6.out rfl (by unfold I64; omega) (by omega) hs6 ?_)
            intro v7 w7 ho7 hsm7 hz7 _
            have hb7 : Below w5.heap.size w5 w7 := HB6.out.trans (hsm7.below (Nat.le_refl _) hs6)
            have hs7 := hb7.size
            have hbl7 : Below lo w w7 := HL5.out.trans (hb7.mono (by omega))
            obtain ⟨ya, yc, rfl⟩ := ho7.shape1
            have HREC2 := Lib.hid (HIH.out w7 pf L (.slice ca cs.length cc) _ (.slice ra P1.length rc) cs (d ++ [(a : Int)]) P1 (lo := lo)
              (by rw [hbl7.cell (p := ⟨pf, 0, none⟩) hpf]; exact HP0.out) (by rw [hbl7.cell (p := ⟨pf, 1, none⟩) hpf]; exact HP1.out) hpf (HV.out.below hbl7 hh) hh HZ.out HCL.out ho7.rd (Nat.le_refl _)
              (fun p hp => .inl (HO5.out.ge p hp).2) HCC.out.2 ((HO5.out.below hb7 (Nat.le_refl _)).mono (Nat.le_refl _) hs7 (Nat.le_refl _)) (by omega) hPl1 HPS1.out hL (by rw [List.length_append]; simp; omega))
            have HB7 := Lib.hid hb7
            have HD7 := Lib.hid (HD5.out.below hb7 (by omega))
            clear ho7 hsm7 hb7 hbl7 HO6 HB6
            go_wp2_with fail
            refine HREC2.out.mono ?_
            rintro e w8 ⟨hk8, ⟨hn8, rfl⟩ | ⟨P2, r8, he8, rfl, ho8, hb8⟩⟩
            · have HN := Lib.hid (HTW3.out hn8)
              have HK8 : Hid (KeepB w w8 (.slice pa P.length pc)) := HK5.out.trans ((KeepB.of_below (.slice ra P1.length rc) HB7.out).trans hk8 (.inl rfl)) HBO5.out
              clear hn8 hk8
              go_wp2
              go_ret2
              exact ⟨HK8.out, .inl ⟨HN.out, rfl⟩⟩
            have HKB : Hid (KeepB w w8 (.slice pa P.length pc)) := HK5.out.trans ((KeepB.of_below (.slice ra P1.length rc) HB7.out).trans hk8 (.inl rfl)) HBO5.out
            have HBK0 : BlkOk w (.slice pa P.length pc) r8 := by
              rcases hb8 with h1 | h1
              · rcases HBO5.out with h2 | h2
                · exact .inl (h1.trans h2)
                · exact .inr (fun p hp => h2 p (by rw [← h1]; exact hp))
              · exact .inr (fun p hp => by have := h1 p hp; omega)
            have hs8 := HKB.out.size
            have HPL2 : Hid (P2.length ≤ 128) := prove_len _ _ _ _ he8
            have HSU : Hid ((P2.map List.length).sum ≤ 10 * P2.length) := prove_sum hL10 _ _ _ _ HCC.out.2 HPS1.out he8
            have HEQ := Lib.hid (HTH3.out P2 he8)
            have HDT : Hid (Ints w8 l' h' (.slice da d.length dc) d) := hk8.ints HD7.out (by omega) (fun p hp => by
              rcases HBO5.out with h2 | h2
              · exact HDV.out p (by rw [← h2]; exact hp)
              · right; have := h2 p hp; omega)
            have HDH : Hid (h' ≤ w8.heap.size) := by rw [Hid]; omega
            have HLW : Hid (lo ≤ w8.heap.size) := by rw [Hid]; omega
            obtain ⟨ea, ec, rfl⟩ := ho8.shape
            have HOP := Lib.hid ho8
            have HBK := Lib.hid HBK0
            clear he8 hk8 hb8 ho8 HREC2 HBK0 HTW3 HTH3 HTW2 HTH2 HON2
            by_cases hfull : P2.length < 128
            case neg =>
              have hf128 : (P2.length : Int) = 128 := by have := HPL2.out; omega
              have hfb : ((P2.length : Int) == 128) = true := by simpa using hf128
              have HN : Hid (proveGo L cs (n + 1) d P = none) := by rw [Hid, HEQ.out, if_neg hfull]
              clear hfull hf128
              go_wp2
              go_ret2
              exact ⟨HKB.out, .inl ⟨HN.out, rfl⟩⟩
            have hfb : ((P2.length : Int) == 128) = false := beq_eq_false_iff_ne.2 (by omega)
            have HN : Hid (proveGo L cs (n + 1) d P = some (P2 ++ [clauseOf d])) := by rw [Hid, HEQ.out, if_pos hfull]
            have h0 := emptySlice w8
            have hs0 : (w8.alloc (.cells #[] 2)).heap.size = w8.heap.size + 1 := by simp
            have H0 : Hid (OwnI (w8.alloc (.cells #[] 2)) w8.heap.size (w8.alloc (.cells #[] 2)).heap.size (.slice (some ⟨w8.heap.size, 0, none⟩) 0 0) []) := h0.mono (Nat.le_refl _) (by omega) (Nat.le_refl _)
            have HB0 := Lib.hid (alloc_below w8 (.cells #[] 2))
            clear h0 hs0
            go_wp2_with fail
            go_loopw [14, 81] (fun ov iv wr => ∃ (k : Nat) (S : List Int), k ≤ d.length ∧ iv = .int .i64 k ∧ S.length ≤ k ∧ Hid (∀ y ∈ S, -10 ≤ y ∧ y ≤ 10) ∧ Hid (joinUp S ((negs d).drop k) = clauseOf d) ∧ OwnI wr w8.heap.size wr.heap.size ov S ∧ Below w8.heap.size w8 wr) (fun _ iv _ => d.length - (intOf iv).toNat)
            case atStart => exact ⟨0, [], Nat.zero_le _, rfl, Nat.le_refl _, Lib.hid (by simp), Lib.hid (by rw [List.drop_zero]; exact joinUp_clause HCD.out), H0.out, HB0.out⟩
            case round =>
              clear H0 HB0
              obtain ⟨k, S, hk, rfl, hSl, HSR, H, hoc, hbc⟩ := hrel
              have hsc := hbc.size
              have HOC := Lib.hid hoc
              have HBC := Lib.hid hbc
              by_cases hlt : k < d.length
              · obtain ⟨da, dc, hde, _, _, dd⟩ := (HDT.out.below hbc HDH.out).out
                simp only [Value.slice.injEq] at hde
                obtain ⟨rfl, _, rfl⟩ := hde
                rcases dd with dd | ⟨db, do_, rfl, _, _, _, dcell⟩
                · rw [dd] at hlt; simp at hlt
                have hck := dcell k hlt
                have hge : d.getD k 0 = d[k] := by simp [List.getD, hlt]
                rw [hge] at hck
                have hxr := HCD.out.rng hL10 (List.getElem_mem hlt)
                have HD : Hid ((negs d).drop k = -d[k] :: (negs d).drop (k + 1)) := by
                  rw [Hid, List.drop_eq_getElem_cons (by rw [negs_len]; exact hlt)]
                  congr 1
                  simp [negs]
                obtain ⟨x, hx⟩ : ∃ x, x = d[k] := ⟨_, rfl⟩
                rw [← hx] at hck HD hxr
                have hx1 : -10 ≤ x := hxr.2.1
                have hx2 : x ≤ 10 := hxr.2.2
                have HJ := Lib.hid (l05Join_any wr _ S (-x) HOC.out hsc (by omega) HSR.out (by omega) (by omega))
                have HJM : Hid (∀ y ∈ (joinN S (-x)).1, -10 ≤ y ∧ y ≤ 10) := fun y hy => by
                  rcases joinN_mem hy with rfl | hy
                  · omega
                  · exact HSR.out y hy
                have hjl := joinN_len (-x) S
                have HNX : Hid (joinUp (joinN S (-x)).1 ((negs d).drop (k + 1)) = clauseOf d) := by rw [Hid, ← H.out, HD.out]; rfl
                clear dcell hge hx hxr hoc hbc
                go_wp2_with fail
                refine HJ.out.mono ?_
                rintro e wj ⟨uj, rfl, hoj, hbj⟩
                have HOJ := Lib.hid hoj
                have HBJ := Lib.hid (HBC.out.trans (hbj.mono hsc))
                clear hoj hbj
                go_wp2
                go_roundw
                case rel => exact ⟨k + 1, _, by omega, by go_num, by omega, HJM, HNX, HOJ.out, HBJ.out⟩
                case measure => simp [intOf]; omega
              · obtain rfl : k = d.length := by omega
                have hSc : S = clauseOf d := by rw [← H.out, List.drop_eq_nil_of_le (by rw [negs_len]; exact Nat.le_refl _)]; rfl
                subst hSc
                obtain ⟨qa, qc, rfl⟩ := hoc.shape
                have hcl := clauseOf_len d
                have HOPc := Lib.hid (HOP.out.below hbc (Nat.le_refl _))
                have HSM : Hid (((P2 ++ [clauseOf d]).map List.length).sum ≤ 1099511627776) := by rw [Hid, sum_snoc]; have := HSU.out; have := HPL2.out; omega
                have hll : P2.length + 1 ≤ 1048576 := by omega
                have hloW : lo ≤ w8.heap.size := HLW.out
                have hlor : lo ≤ wr.heap.size := by omega
                clear hoc hbc hcl
                go_wp2_with (at_builtin; refine wpList_appIIK rfl _ _ rfl _ P2 rfl _ (clauseOf d) _ HOPc.out HOC.out (Nat.le_refl _) hloW rfl hll HSM.out hlor ?_)
                intro vz wz hoz hkz hsmz hzz hbz
                have HOZ := Lib.hid hoz
                have HKZ : Hid (KeepB w wz (.slice pa P.length pc)) := by
                  have h1 : KeepB wr wz (.slice ea P2.length ec) := ⟨hsmz.os, hsmz.tape, hsmz.output, hsmz.size, hkz⟩
                  have h2 : KeepB w8 wz (.slice ea P2.length ec) := by
                    refine ⟨h1.os.trans HBC.out.os, h1.tape.trans HBC.out.tape, h1.output.trans HBC.out.output, Nat.le_trans HBC.out.size h1.size, fun k hk hn => ?_⟩
                    rw [h1.block k (by omega) hn, HBC.out.block k hk]
                  exact HKB.out.trans h2 HBK.out
                have HBZ : Hid (BlkOk w (.slice pa P.length pc) vz) := by
                  rcases hbz with hbz | hbz
                  · rcases HBK.out with h1 | h1
                    · exact .inl (hbz.trans h1)
                    · exact .inr (fun p hp => h1 p (by rw [← hbz]; exact hp))
                  · refine .inr (fun p hp => ?_)
                    rw [hbz] at hp
                    injection hp with hp
                    have := HKB.out.size
                    omega
                clear hoz hkz hsmz hzz hbz
                go_wp2
                go_ret2
                exact ⟨HKZ.out, .inr ⟨_, _, HN.out, rfl, HOZ.out, HBZ.out⟩⟩
          · obtain ⟨z, hz1, hz2⟩ : ∃ z : Int, knownN U.known (a : Int) = z ∧ (z = 1 ∨ z = -1) := by
              rw [Bool.or_eq_true] at hfr
              by_cases h1 : hasI U.known (a : Int) = true
              · exact ⟨1, by simp [knownN, h1], .inl rfl⟩
              · have h2 : hasI U.known (-(a : Int)) = true := hfr.resolve_left h1
                exact ⟨-1, by simp [knownN, h1, h2], .inr rfl⟩
            rw [hz1] at HKC
            have HN := Lib.hid (free_step haL hfr)
            have hzn : (z != 0) = true := by rcases hz2 with rfl | rfl <;> decide
            clear hz1 hz2 hfr
            go_wp2_with fail
            refine HKC.out.mono ?_
            rintro e w' ⟨rfl, rfl⟩
            go_wp2
            go_round
            case rel => exact ⟨a + 1, by omega, by omega, by go_num, Lib.hid (by rw [← HN.out, H.out])⟩
            case measure => (simp [intOf]; try omega)
        · have haL2 : L < a := by omega
          have HFO : Hid (¬ freeOf L U.known ≤ L) := by rw [Hid, ← H.out, free_end haL2]; exact haL
          have hai : ¬ (a : Int) ≤ (L : Int) := by omega
          have hai2 : (L : Int) < (a : Int) := by omega
          have HN := Lib.hid (HFU.out HWR.out HFO.out)
          clear haL haL2
          go_wp2
          go_ret2
          exact ⟨KeepB.of_below _ HBW.out, .inl ⟨HN.out, rfl⟩⟩
    · have hwd : decide (U.wrong < 0) = false := by simpa using hwr
      have HEQ := Lib.hid (HW1.out (by omega))
      have HPL2 : Hid (P.length ≤ 128) := hPl
      have HKB : Hid (KeepB w W1 (.slice pa P.length pc)) := KeepB.of_below _ HBW.out
      have HBK : Hid (BlkOk w (.slice pa P.length pc) (.slice pa P.length pc)) := .inl rfl
      have HOP : Hid (OwnII W1 lo W1.heap.size (.slice pa P.length pc) P) := by
        exact (HO.out.below HBW.out (Nat.le_refl _)).mono (Nat.le_refl _) hsW' (Nat.le_refl _)
      have HDT := Lib.hid (HD.out.below HBW.out hh')
      have HDH : Hid (h' ≤ W1.heap.size) := by rw [Hid]; omega
      have HSU := HPS
      have HLW : Hid (lo ≤ W1.heap.size) := by rw [Hid]; omega
      rw [HW1e.out] at t2
      have hwn : 0 ≤ U.wrong := by omega
      clear hwr HIH HTH HTW HON HFU HFC
      go_upto_region 16 with (fail)
      rw [← HW1e.out]
      clear t2
      by_cases hfull : P.length < 128
      case neg =>
        have hf128 : (P.length : Int) = 128 := by have := HPL2.out; omega
        have hfb : ((P.length : Int) == 128) = true := by simpa using hf128
        have HN : Hid (proveGo L cs (n + 1) d P = none) := by rw [Hid, HEQ.out, if_neg hfull]
        clear hfull hf128
        go_wp2
        go_ret2
        exact ⟨HKB.out, .inl ⟨HN.out, rfl⟩⟩
      have hfb : ((P.length : Int) == 128) = false := beq_eq_false_iff_ne.2 (by omega)
      have HN : Hid (proveGo L cs (n + 1) d P = some (P ++ [clauseOf d])) := by rw [Hid, HEQ.out, if_pos hfull]
      have h0 := emptySlice W1
      have hs0 : (W1.alloc (.cells #[] 2)).heap.size = W1.heap.size + 1 := by simp
      have H0 : Hid (OwnI (W1.alloc (.cells #[] 2)) W1.heap.size (W1.alloc (.cells #[] 2)).heap.size (.slice (some ⟨W1.heap.size, 0, none⟩) 0 0) []) := h0.mono (Nat.le_refl _) (by omega) (Nat.le_refl _)
      have HB0 := Lib.hid (alloc_below W1 (.cells #[] 2))
      clear h0 hs0
      go_wp2_with fail
      go_loopw [14, 81] (fun ov iv wr => ∃ (k : Nat) (S : List Int), k ≤ d.length ∧ iv = .int .i64 k ∧ S.length ≤ k ∧ Hid (∀ y ∈ S, -10 ≤ y ∧ y ≤ 10) ∧ Hid (joinUp S ((negs d).drop k) = clauseOf d) ∧ OwnI wr W1.heap.size wr.heap.size ov S ∧ Below W1.heap.size W1 wr) (fun _ iv _ => d.length - (intOf iv).toNat)
      case atStart => exact ⟨0, [], Nat.zero_le _, rfl, Nat.le_refl _, Lib.hid (by simp), Lib.hid (by rw [List.drop_zero]; exact joinUp_clause HCD.out), H0.out, HB0.out⟩
      case round =>
        clear H0 HB0
        obtain ⟨k, S, hk, rfl, hSl, HSR, H, hoc, hbc⟩ := hrel
        have hsc := hbc.size
        have HOC := Lib.hid hoc
        have HBC := Lib.hid hbc
        by_cases hlt : k < d.length
        · obtain ⟨da, dc, hde, _, _, dd⟩ := (HDT.out.below hbc HDH.out).out
          simp only [Value.slice.injEq] at hde
          obtain ⟨rfl, _, rfl⟩ := hde
          rcases dd with dd | ⟨db, do_, rfl, _, _, _, dcell⟩
          · rw [dd] at hlt; simp at hlt
          have hck := dcell k hlt
          have hge : d.getD k 0 = d[k] := by simp [List.getD, hlt]
          rw [hge] at hck
          have hxr := HCD.out.rng hL10 (List.getElem_mem hlt)
          have HD : Hid ((negs d).drop k = -d[k] :: (negs d).drop (k + 1)) := by
            rw [Hid, List.drop_eq_getElem_cons (by rw [negs_len]; exact hlt)]
            congr 1
            simp [negs]
          obtain ⟨x, hx⟩ : ∃ x, x = d[k] := ⟨_, rfl⟩
          rw [← hx] at hck HD hxr
          have hx1 : -10 ≤ x := hxr.2.1
          have hx2 : x ≤ 10 := hxr.2.2
          have HJ := Lib.hid (l05Join_any wr _ S (-x) HOC.out hsc (by omega) HSR.out (by omega) (by omega))
          have HJM : Hid (∀ y ∈ (joinN S (-x)).1, -10 ≤ y ∧ y ≤ 10) := fun y hy => by
            rcases joinN_mem hy with rfl | hy
            · omega
            · exact HSR.out y hy
          have hjl := joinN_len (-x) S
          have HNX : Hid (joinUp (joinN S (-x)).1 ((negs d).drop (k + 1)) = clauseOf d) := by rw [Hid, ← H.out, HD.out]; rfl
          clear dcell hge hx hxr hoc hbc
          go_wp2_with fail
          refine HJ.out.mono ?_
          rintro e wj ⟨uj, rfl, hoj, hbj⟩
          have HOJ := Lib.hid hoj
          have HBJ := Lib.hid (HBC.out.trans (hbj.mono hsc))
          clear hoj hbj
          go_wp2
          go_roundw
          case rel => exact ⟨k + 1, _, by omega, by go_num, by omega, HJM, HNX, HOJ.out, HBJ.out⟩
          case measure => simp [intOf]; omega
        · obtain rfl : k = d.length := by omega
          have hSc : S = clauseOf d := by rw [← H.out, List.drop_eq_nil_of_le (by rw [negs_len]; exact Nat.le_refl _)]; rfl
          subst hSc
          obtain ⟨qa, qc, rfl⟩ := hoc.shape
          have hcl := clauseOf_len d
          have HOPc := Lib.hid (HOP.out.below hbc (Nat.le_refl _))
          have HSM : Hid (((P ++ [clauseOf d]).map List.length).sum ≤ 1099511627776) := by rw [Hid, sum_snoc]; have := HSU.out; have := HPL2.out; omega
          have hll : P.length + 1 ≤ 1048576 := by omega
          have hloW : lo ≤ W1.heap.size := HLW.out
          have hlor : lo ≤ wr.heap.size := by omega
          clear hoc hbc hcl
          go_wp2_with (at_builtin; refine wpList_appIIK rfl _ _ rfl _ P rfl _ (clauseOf d) _ HOPc.out HOC.out (Nat.le_refl _) hloW rfl hll HSM.out hlor ?_)
          intro vz wz hoz hkz hsmz hzz hbz
          have HOZ := Lib.hid hoz
          have HKZ : Hid (KeepB w wz (.slice pa P.length pc)) := by
            have h1 : KeepB wr wz (.slice pa P.length pc) := ⟨hsmz.os, hsmz.tape, hsmz.output, hsmz.size, hkz⟩
            have h2 : KeepB W1 wz (.slice pa P.length pc) := by
              refine ⟨h1.os.trans HBC.out.os, h1.tape.trans HBC.out.tape, h1.output.trans HBC.out.output, Nat.le_trans HBC.out.size h1.size, fun k hk hn => ?_⟩
              rw [h1.block k (by omega) hn, HBC.out.block k hk]
            exact HKB.out.trans h2 HBK.out
          have HBZ : Hid (BlkOk w (.slice pa P.length pc) vz) := by
            rcases hbz with hbz | hbz
            · rcases HBK.out with h1 | h1
              · exact .inl (hbz.trans h1)
              · exact .inr (fun p hp => h1 p (by rw [← hbz]; exact hp))
            · refine .inr (fun p hp => ?_)
              rw [hbz] at hp
              injection hp with hp
              have := HKB.out.size
              omega
          clear hoz hkz hsmz hzz hbz
          go_wp2
          go_ret2
          exact ⟨HKZ.out, .inr ⟨_, _, HN.out, rfl, HOZ.out, HBZ.out⟩⟩
end Go.Proofs.Ytcpbgjnijhcpkaa
