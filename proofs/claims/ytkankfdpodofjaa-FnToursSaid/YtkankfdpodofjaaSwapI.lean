/-
  SwapTour: the program's contract.
-/
import Derived.Test.YtkankfdpodofjaaRevO
import Derived.Test.YtkankfdpodofjaaMoveI
namespace Go.Proofs.Ytkankfdpodofjaa
open Go.RowKit
set_option linter.unusedVariables false
set_option maxRecDepth 100000

theorem swappedP_okT {A : List Int} {n : Nat} (h : TourOk A n) {i k : Nat} (hk : k < n) : TourOk (swappedP A i k) n := by
  have hl := h.1
  refine ⟨by rw [swappedP_len, hl], fun x hx => ?_⟩
  simp only [swappedP, List.mem_map, List.mem_range] at hx
  obtain ⟨q, hq, rfl⟩ := hx
  exact h.getD (by split <;> omega)
def swapT (ws A : List Int) : List Int × Int × Bool :=
  if isCit ws = true ∧ isOrder (citN ws) A = true then ((smGo ws (citN ws) ((longP ws (citN ws) A).toNat + 1) A 0).1, (smGo ws (citN ws) ((longP ws (citN ws) A).toNat + 1) A 0).2, true) else ([], 0, false)
set_option maxHeartbeats 4000000 in
set_option maxRecDepth 100000 in
theorem shortenedS_any {l h l' h' : Nat} (v u : Value) (ws A : List Int) (n : Nat) (w : World) (hv : Ints w l h v ws) (hu : Ints w l' h' u A) (hh : h ≤ w.heap.size) (hh' : h' ≤ w.heap.size) (hz : ws.length ≤ 1048576) (hci : citI ws.length = (n : Int)) (hn1 : 1 ≤ n) (hn : n ≤ 10) (hw : WaysOk ws n) (hA : TourOk A n) :
    Calls Try.prog 78 #[v, u, .bool true, .func (.func 79) #[] #[]] w fun e w' => ∃ r, e = .returned (.tuple #[r, .int .i64 (smGo ws n ((longP ws n A).toNat + 1) A 0).2]) ∧ OwnI w' w.heap.size w'.heap.size r (smGo ws n ((longP ws n A).toNat + 1) A 0).1 ∧ Below w.heap.size w w' := by
  have HCP := Lib.hid (copyInts_any u A w hu hh' (by have := hA.1; omega))
  have HV := Lib.hid hv
  obtain ⟨va, vc, rfl, hc1, hc2, _⟩ := hv.out
  obtain ⟨ua, uc, rfl, gc1, gc2, _⟩ := hu.out
  have HW := Lib.hid hw
  have HCI := Lib.hid hci
  have HLONG : Hid (∀ (lo' : Nat) (ov : Value) (B : List Int) (wx : World), Below w.heap.size w wx → Ints wx lo' wx.heap.size ov B → TourOk B n → Calls Try.prog 77 #[.slice va ws.length vc, ov] wx fun e w' => e = .returned (.int .i64 (longP ws n B)) ∧ wx = w') := fun lo' ov B wx hb hB hT =>
    tourLong_any _ ov ws B n wx (HV.out.below hb hh) hB hz HCI.out hn1 hn HW.out hT
  have HMV : Hid (∀ (lo' : Nat) (ov : Value) (B : List Int) (i k : Nat) (wx : World), Ints wx lo' wx.heap.size ov B → TourOk B n → i ≤ k → k < n → Calls Try.prog 79 #[ov, .int .i64 i, .int .i64 k] wx fun e w' => ∃ u, e = .returned u ∧ OwnI w' wx.heap.size w'.heap.size u (swappedP B i k) ∧ Below wx.heap.size wx w') := fun lo' ov B i k wx hB hT hik hk =>
    swapped_any ov B i k wx hB (Nat.le_refl _) hik (by rw [hT.1]; exact hk) (by rw [hT.1]; omega)
  have HRG : Hid (∀ B, TourOk B n → 0 ≤ longP ws n B ∧ longP ws n B ≤ 10000) := fun B hB => by have := longTo_rng hw hB n (Nat.le_refl _); unfold longP; omega
  obtain ⟨RES, hRES⟩ : ∃ r, r = smGo ws n ((longP ws n A).toNat + 1) A 0 := ⟨_, rfl⟩
  have HRES := Lib.hid hRES
  rw [← hRES]
  obtain ⟨L0, hL0⟩ : ∃ x, x = longP ws n A := ⟨_, rfl⟩
  have HL0 := Lib.hid hL0
  have HA := Lib.hid hA
  have h0 := HRG.out A hA
  rw [← hL0] at h0
  have l1 := h0.1
  have l2 := h0.2
  clear hv hu hw hci hRES hL0 hA h0
  go_enter Try.func78, Try.ntmps78
  go_wp2_with fail
  refine HCP.out.mono ?_
  rintro e w1 ⟨u1, rfl, ho1, hb1⟩
  have HO1 := Lib.hid ho1
  have HB1 := Lib.hid hb1
  clear ho1 hb1
  go_wp2_with fail
  go_loopw [10, 11, 12] (fun ov cv bv wr => ∃ (B : List Int) (c : Int) (f : Nat) (bt : Bool), bv = .bool bt ∧ cv = .int .i64 c ∧ 0 ≤ c ∧ Hid (TourOk B n) ∧ Hid (c ≤ L0 - longP ws n B) ∧ Hid ((longP ws n B).toNat < f) ∧ Hid (OwnI wr w.heap.size wr.heap.size ov B) ∧ Hid (Below w.heap.size w wr) ∧ Hid (bt = true → smGo ws n f B c = RES) ∧ Hid (bt = false → RES = (B, c))) (fun _ cv bv _ => 2 * (L0 - intOf cv).toNat + boolN bv)
  case atStart => exact ⟨A, 0, (longP ws n A).toNat + 1, true, rfl, rfl, by omega, HA, by rw [Hid, HL0.out]; omega, by rw [Hid]; omega, HO1, HB1, fun _ => HRES.out.symm, fun h => by cases h⟩
  case round =>
    clear HO1 HB1 HRES
    obtain ⟨B, c, f, bt, rfl, rfl, hc0, HT, HCB, HF, HO, HB, HY, HN⟩ := hrel
    have hrg := HRG.out B HT.out
    have hcb := HCB.out
    have hcL : c ≤ L0 := by omega
    cases bt
    · have HE := Lib.hid (HN.out rfl)
      go_wp2
      go_ret2
      exact ⟨_, by rw [HE.out]; rfl, by rw [HE.out]; exact HO.out, HB.out⟩
    · have HY1 := Lib.hid (HY.out rfl)
      obtain ⟨IRES, hI⟩ : ∃ r, r = siGo ws n B n 0 := ⟨_, rfl⟩
      have HI := Lib.hid hI
      have HS0 : Hid (Scan w wr ws n B c (siGo ws n B n 0) IRES _ (.int .i64 c) (.bool false)) := ⟨.inl ⟨rfl, rfl, HO.out, HI.out.symm⟩, HB.out⟩
      have hrg1 := hrg.1
      have hrg2 := hrg.2
      clear HY HN hI hrg hcb HO HB
      obtain ⟨wo, hwo⟩ : ∃ wo : World, wo = wr := ⟨_, rfl⟩
      rw [← hwo] at HS0 ⊢
      clear hwo
      go_wp2_with fail
      go_loopw [10, 11, 12, 13] (fun ov cv bv iv wr => ∃ i : Nat, i ≤ n ∧ iv = .int .i64 i ∧ Hid (Scan w wr ws n B c (siGo ws n B (n - i) i) IRES ov cv bv)) (fun _ _ _ iv _ => n - (intOf iv).toNat)
      case atStart => exact ⟨0, Nat.zero_le _, rfl, HS0⟩
      case round =>
        clear HS0
        obtain ⟨i, hi, rfl, HS⟩ := hrel
        have HBi := Lib.hid HS.out.bl
        rcases HS.out.st with ⟨rfl, rfl, ho, hres⟩ | ⟨B', rfl, rfl, ho, hres, hT', hlt⟩
        · obtain ⟨oa, oc, e0⟩ := ho.shape2
          rw [HT.out.1] at e0
          subst e0
          have HO := Lib.hid ho
          have HRS := Lib.hid hres
          by_cases hin : i < n
          · obtain ⟨KRES, hK⟩ : ∃ r, r = skGo ws n B i (n - (i + 1)) (i + 1) := ⟨_, rfl⟩
            have HK := Lib.hid hK
            have HST : Hid (Scan w wr ws n B c (skGo ws n B i (n - (i + 1)) (i + 1)) KRES (.slice oa n oc) (.int .i64 c) (.bool false)) := ⟨.inl ⟨rfl, rfl, ho, HK.out.symm⟩, HBi.out⟩
            have HIN : Hid (n - i = (n - (i + 1)) + 1) := by rw [Hid]; omega
            clear ho hres hK HS HBi
            obtain ⟨wp, hwp⟩ : ∃ wp : World, wp = wr := ⟨_, rfl⟩
            rw [← hwp] at HST HO ⊢
            clear hwp
            go_wp2_with fail
            go_loopw [10, 11, 12, 15] (fun ov cv bv kv wr => ∃ k : Nat, i + 1 ≤ k ∧ k ≤ n ∧ kv = .int .i64 k ∧ Hid (Scan w wr ws n B c (skGo ws n B i (n - k) k) KRES ov cv bv)) (fun _ _ _ kv _ => n - (intOf kv).toNat)
            case atStart => exact ⟨i + 1, Nat.le_refl _, by omega, by go_num, HST⟩
            case round =>
              clear HST HO
              obtain ⟨k, hk0, hk, rfl, HS⟩ := hrel
              have HBk := Lib.hid HS.out.bl
              rcases HS.out.st with ⟨rfl, rfl, ho, hres⟩ | ⟨B', rfl, rfl, ho, hres, hT', hlt⟩
              · obtain ⟨pa, pc, e0⟩ := ho.shape2
                rw [HT.out.1] at e0
                subst e0
                have HO := Lib.hid ho
                have HRK := Lib.hid hres
                clear ho hres HS
                by_cases hkn : k < n
                · have hnk : n - k = (n - (k + 1)) + 1 := by omega
                  have hki : ¬ k = i := by omega
                  · have e1 : ((k : Int) == (i : Int)) = false := by (simp; omega)
                    have e2 : (k == i) = false := by (simp; omega)
                    have e3 : ¬ (k : Int) = (i : Int) := by omega
                    have HMO := Lib.hid (HMV.out w.heap.size _ B i k wr HO.out.rd HT.out (by omega) hkn)
                    have HMT := Lib.hid (swappedP_okT HT.out (i := i) hkn)
                    have HYES : Hid (longP ws n (swappedP B i k) < longP ws n B → KRES = some (swappedP B i k)) := fun h' => by rw [← HRK.out, hnk, skGo_yes h']
                    have HNO : Hid (¬ longP ws n (swappedP B i k) < longP ws n B → skGo ws n B i (n - (k + 1)) (k + 1) = KRES) := fun h' => by rw [← HRK.out, hnk, skGo_no h']
                    obtain ⟨C, hC⟩ : ∃ C, C = swappedP B i k := ⟨_, rfl⟩
                    rw [← hC] at HMO HMT HYES HNO
                    have hsk := HBk.out.size
                    clear hnk HRK hC hki
                    go_wp2_with fail
                    refine HMO.out.mono ?_
                    rintro e w4 ⟨u4, rfl, ho4, hb4⟩
                    have HO4 := Lib.hid (ho4.mono hsk (Nat.le_refl _) (Nat.le_refl _))
                    have HB4 := Lib.hid (HBk.out.trans (hb4.mono hsk))
                    have hs4 := hb4.size
                    have HP4 := Lib.hid ((HO.out.below hb4 (Nat.le_refl _)).mono (Nat.le_refl _) hs4 (Nat.le_refl _))
                    have HL1 := Lib.hid (HLONG.out w.heap.size u4 C w4 HB4.out HO4.out.rd HMT.out)
                    have HL2 := Lib.hid (HLONG.out w.heap.size (.slice pa n pc) B w4 HB4.out HP4.out.rd HT.out)
                    obtain ⟨x, hx⟩ : ∃ x, x = longP ws n C := ⟨_, rfl⟩
                    obtain ⟨y, hy⟩ : ∃ y, y = longP ws n B := ⟨_, rfl⟩
                    have HX := Lib.hid hx
                    have HYY := Lib.hid hy
                    rw [← hx] at HL1
                    rw [← hy] at HL2
                    clear ho4 hb4 hx hy
                    go_wp2_with fail
                    refine HL1.out.mono ?_
                    rintro e w' ⟨rfl, rfl⟩
                    go_wp2_with fail
                    refine HL2.out.mono ?_
                    rintro e w' ⟨rfl, rfl⟩
                    by_cases hxy : x < y
                    · have HXY : Hid (longP ws n C < longP ws n B) := by rw [Hid, ← HX.out, ← HYY.out]; exact hxy
                      have HSC : Hid (Scan w w4 ws n B c (skGo ws n B i (n - (k + 1)) (k + 1)) KRES u4 (.int .i64 (c + 1)) (.bool true)) := ⟨.inr ⟨C, rfl, rfl, HO4.out, HYES.out HXY.out, HMT.out, HXY.out⟩, HB4.out⟩
                      clear HYES HNO
                      go_wp2
                      go_roundw
                      case rel => exact ⟨k + 1, by omega, by omega, by go_num, HSC⟩
                      case measure => (simp [intOf]; try omega)
                    · have hxyd : decide (x < y) = false := decide_eq_false hxy
                      have HXY : Hid (¬ longP ws n C < longP ws n B) := by rw [Hid, ← HX.out, ← HYY.out]; exact hxy
                      have HSC : Hid (Scan w w4 ws n B c (skGo ws n B i (n - (k + 1)) (k + 1)) KRES (.slice pa n pc) (.int .i64 c) (.bool false)) := ⟨.inl ⟨rfl, rfl, HP4.out, HNO.out (by have := HXY.out; omega)⟩, HB4.out⟩
                      clear HYES HNO
                      go_wp2
                      go_roundw
                      case rel => exact ⟨k + 1, by omega, by omega, by go_num, HSC⟩
                      case measure => (simp [intOf]; try omega)
                · obtain rfl : k = n := by omega
                  have HKN : Hid (KRES = none) := by rw [Hid, ← HRK.out, Nat.sub_self, skGo]
                  have HSI : Hid (siGo ws k B (k - (i + 1)) (i + 1) = IRES) := by rw [Hid, ← HRS.out, HIN.out, siGo_no (by rw [← HK.out, HKN.out])]
                  have HSC : Hid (Scan w wr ws k B c (siGo ws k B (k - (i + 1)) (i + 1)) IRES (.slice pa k pc) (.int .i64 c) (.bool false)) := ⟨.inl ⟨rfl, rfl, HO.out, HSI.out⟩, HBk.out⟩
                  clear HRS HRK HKN HSI
                  go_wp2
                  go_roundw
                  case rel => exact ⟨i + 1, by omega, by go_num, HSC⟩
                  case measure => (simp [intOf]; try omega)
              · obtain ⟨pa, pc, e0⟩ := ho.shape2
                rw [hT'.1] at e0
                subst e0
                have HIR : Hid (IRES = some B') := by rw [Hid, ← HRS.out, HIN.out, siGo_yes (by rw [← HK.out]; exact hres)]
                have HSC : Hid (Scan w wr ws n B c (siGo ws n B (n - (i + 1)) (i + 1)) IRES (.slice pa n pc) (.int .i64 (c + 1)) (.bool true)) := ⟨.inr ⟨B', rfl, rfl, ho, HIR.out, hT', hlt⟩, HBk.out⟩
                clear ho hres hT' hlt HS HRS HIR
                by_cases hkn : k < n
                all_goals
                  go_wp2
                  go_roundw
                  case rel => exact ⟨i + 1, by omega, by go_num, HSC⟩
                  case measure => (simp [intOf]; try omega)
          · obtain rfl : i = n := by omega
            have HIN : Hid (siGo ws i B i 0 = none) := by rw [Hid, ← HI.out, ← HRS.out, Nat.sub_self, siGo]
            have HRE : Hid (RES = (B, c)) := by rw [Hid, ← HY1.out, smGo_no HIN.out]
            clear ho hres HS HY1 HIN HRS
            go_wp2
            go_roundw
            case rel => exact ⟨B, c, f, false, rfl, rfl, hc0, HT, HCB, HF, HO, HBi, (fun h' => by cases h'), fun _ => HRE.out⟩
            case measure => (simp [intOf, boolN]; try omega)
        · obtain ⟨oa, oc, e0⟩ := ho.shape2
          rw [hT'.1] at e0
          subst e0
          have HO := Lib.hid ho
          have HT2 := Lib.hid hT'
          have hf := HF.out
          obtain ⟨f', rfl⟩ : ∃ f', f = f' + 1 := ⟨f - 1, by omega⟩
          have HY2 : Hid (smGo ws n f' B' (c + 1) = RES) := by rw [Hid, ← HY1.out, smGo_yes (by rw [← HI.out]; exact hres)]
          have hr2 := (HRG.out B' hT').1
          have HF2 : Hid ((longP ws n B').toNat < f') := by rw [Hid]; omega
          have HC2 : Hid (c + 1 ≤ L0 - longP ws n B') := by have := HCB.out; rw [Hid]; omega
          have hcl2 : c + 1 ≤ L0 := by have := HC2.out; omega
          clear ho hres hT' hlt HS HY1 hf hr2 HF
          by_cases hin : i < n
          all_goals
            go_wp2
            go_roundw
            case rel => exact ⟨B', c + 1, f', true, rfl, rfl, by omega, HT2, HC2, HF2, HO, HBi, fun _ => HY2.out, fun h' => by cases h'⟩
            case measure => (simp [intOf, boolN]; try omega)
set_option maxHeartbeats 1000000 in
set_option maxRecDepth 100000 in
theorem implSwapTour_any (w : World) {l h l' h' : Nat} (v : Value) (ws : List Int) (u : Value) (A : List Int) (hv : Ints w l h v ws) (hh : h ≤ w.heap.size) (hz : ws.length ≤ 1048576) (hu : Ints w l' h' u A) (hh' : h' ≤ w.heap.size) (hz' : A.length ≤ 1048576) :
    Calls Try.prog 35 #[v, u] w fun e w' => ∃ r, e = .returned (.tuple #[r, .int .i64 (swapT ws A).2.1, .bool (swapT ws A).2.2]) ∧ OwnI w' w.heap.size w'.heap.size r (swapT ws A).1 ∧ Below w.heap.size w w' := by
  have HT := Lib.hid (isTour_any v u ws A w hv hu hz hz')
  have HV := Lib.hid hv
  have HU := Lib.hid hu
  cases hc : (isCit ws && isOrder (citN ws) A)
  · have HE := Lib.hid (show swapT ws A = ([], 0, false) by
      rw [swapT, if_neg]
      rintro ⟨h1, h2⟩
      rw [h1, h2] at hc
      exact absurd hc (by decide))
    rw [hc] at HT
    clear hv hu hc
    go_enter Try.func35, Try.ntmps35
    go_wp2_with fail
    refine HT.out.mono ?_
    rintro e w1 ⟨rfl, hd⟩
    have HD := Lib.hid hd
    clear hd
    go_wp2
    go_ret3
    exact ⟨_, by rw [HE.out]; rfl, by rw [HE.out]; exact OwnI.nil _ _ _ (Nat.le_refl _), HD.out.below _⟩
  · rw [hc] at HT
    rw [Bool.and_eq_true] at hc
    obtain ⟨p1, p2, p3, p4⟩ := cit_pos hc.1
    have hto := tourOk_of hc.2
    have HE := Lib.hid (show swapT ws A = ((smGo ws (citN ws) ((longP ws (citN ws) A).toNat + 1) A 0).1, (smGo ws (citN ws) ((longP ws (citN ws) A).toNat + 1) A 0).2, true) by rw [swapT, if_pos hc])
    have HSH := Lib.hid (fun (wx : World) (hd : Drew w wx) => shortenedS_any v u ws A (citN ws) wx (HV.out.drew hd) (HU.out.drew hd) (by rw [hd.heap]; exact hh) (by rw [hd.heap]; exact hh') hz p3 p1 p2 p4 hto)
    clear hv hu hc p1 p2 p3 p4 hto
    go_enter Try.func35, Try.ntmps35
    go_wp2_with fail
    refine HT.out.mono ?_
    rintro e w1 ⟨rfl, hd⟩
    have HD := Lib.hid hd
    have hs1 : w.heap.size ≤ w1.heap.size := by rw [hd.heap]; exact Nat.le_refl _
    clear hd
    go_wp2_with fail
    refine (HSH.out w1 HD.out).mono ?_
    rintro e w2 ⟨r, rfl, ho2, hb2⟩
    have HO2 := Lib.hid (ho2.mono hs1 (Nat.le_refl _) (Nat.le_refl _))
    have HB2 := Lib.hid ((HD.out.below w.heap.size).trans (hb2.mono hs1))
    clear ho2 hb2
    go_wp2
    go_ret3
    exact ⟨_, by rw [HE.out]; rfl, by rw [HE.out]; exact HO2.out, HB2.out⟩
end Go.Proofs.Ytkankfdpodofjaa
