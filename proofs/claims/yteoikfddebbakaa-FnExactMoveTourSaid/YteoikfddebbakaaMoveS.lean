/-
  MoveTour: the reference's contract.
-/
import Derived.Test.YteoikfddebbakaaMoveI
namespace Go.Proofs.Yteoikfddebbakaa
open Go.RowKit
set_option linter.unusedVariables false
set_option maxRecDepth 100000

set_option maxHeartbeats 4000000 in
set_option maxRecDepth 100000 in
theorem specMoveTour_any (w : World) {l h l' h' : Nat} (v : Value) (ws : List Int) (u : Value) (A : List Int) (hv : Ints w l h v ws) (hh : h ≤ w.heap.size) (hz : ws.length ≤ 1048576) (hu : Ints w l' h' u A) (hh' : h' ≤ w.heap.size) (hz' : A.length ≤ 1048576) :
    Calls Try.prog 26 #[v, u] w fun e w' => ∃ r, e = .returned (.tuple #[r, .int .i64 (moveTour ws A).2.1, .bool (moveTour ws A).2.2]) ∧ OwnI w' w.heap.size w'.heap.size r (moveTour ws A).1 ∧ Below w.heap.size w w' := by
  have HT := Lib.hid (l04Valid_any v u ws A w hv hu hh' hz hz')
  have HV := Lib.hid hv
  have HU := Lib.hid hu
  obtain ⟨va, vc, rfl, hc1, hc2, _⟩ := hv.out
  obtain ⟨ua, uc, rfl, gc1, gc2, _⟩ := hu.out
  cases hc : (isCit ws && isOrder (citN ws) A)
  · have HE := Lib.hid (show moveTour ws A = ([], 0, false) by
      rw [moveTour, if_neg]
      rintro ⟨h1, h2⟩
      rw [h1, h2] at hc
      exact absurd hc (by decide))
    rw [hc] at HT
    clear hv hu hc
    go_enter Try.func26, Try.ntmps26
    go_wp2_with fail
    refine HT.out.mono ?_
    rintro e w1 ⟨rfl, hb⟩
    have HB := Lib.hid hb
    clear hb
    go_wp2
    go_ret3
    exact ⟨_, by rw [HE.out]; rfl, by rw [HE.out]; exact OwnI.nil _ _ _ (Nat.le_refl _), HB.out⟩
  rw [hc] at HT
  rw [Bool.and_eq_true] at hc
  obtain ⟨p1, p2, p3, p4⟩ := cit_pos hc.1
  have hto := tourOk_of hc.2
  have HE := Lib.hid (show moveTour ws A = ((mvGo ws (citN ws) ((longP ws (citN ws) A).toNat + 1) A 0).1, (mvGo ws (citN ws) ((longP ws (citN ws) A).toNat + 1) A 0).2, true) by rw [moveTour, if_pos hc])
  obtain ⟨n, hn⟩ : ∃ n, n = citN ws := ⟨_, rfl⟩
  rw [← hn] at p1 p2 p4 hto HE
  have HW := Lib.hid p4
  have HLONG : Hid (∀ (lo' : Nat) (ov : Value) (B : List Int) (wx : World), Below w.heap.size w wx → Ints wx lo' wx.heap.size ov B → TourOk B n → Calls Try.prog 66 #[.slice va ws.length vc, ov] wx fun e w' => e = .returned (.int .i64 (longP ws n B)) ∧ Drew wx w') := fun lo' ov B wx hb hB hT =>
    l04Long_any _ ov ws B n wx (HV.out.below hb hh) hB p1 p2 HW.out hT
  have HMV : Hid (∀ (lo' : Nat) (ov : Value) (B : List Int) (i k : Nat) (wx : World), Ints wx lo' wx.heap.size ov B → TourOk B n → i < n → k < n → Calls Try.prog 65 #[ov, .int .i64 i, .int .i64 k] wx fun e w' => ∃ u, e = .returned u ∧ OwnI w' wx.heap.size w'.heap.size u (movedP B i k) ∧ Below wx.heap.size wx w') := fun lo' ov B i k wx hB hT hi hk =>
    l04Moved_any ov B i k wx hB (Nat.le_refl _) (by rw [hT.1]; exact hi) (by rw [hT.1]; exact hk) (by rw [hT.1]; omega)
  have HRG : Hid (∀ B, TourOk B n → 0 ≤ longP ws n B ∧ longP ws n B ≤ 10000) := fun B hB => by have := longTo_rng p4 hB n (Nat.le_refl _); unfold longP; omega
  obtain ⟨RES, hRES⟩ : ∃ r, r = mvGo ws n ((longP ws n A).toNat + 1) A 0 := ⟨_, rfl⟩
  rw [← hRES] at HE
  have HRES := Lib.hid hRES
  obtain ⟨L0, hL0⟩ : ∃ x, x = longP ws n A := ⟨_, rfl⟩
  have HL0 := Lib.hid hL0
  have HA := Lib.hid hto
  have HAl := Lib.hid hto.1
  have h0 := HRG.out A hto
  rw [← hL0] at h0
  have l1 := h0.1
  have l2 := h0.2
  clear hv hu hc hn p3 p4 hto hRES hL0 h0
  go_enter Try.func26, Try.ntmps26
  go_wp2_with fail
  refine HT.out.mono ?_
  rintro e w1 ⟨rfl, hb1⟩
  have HB1 := Lib.hid hb1
  have hs1 := hb1.size
  have H0 := Lib.hid (emptySlice w1)
  have HAB := Lib.hid (alloc_belowI w1 (.cells #[] 2))
  have HUA := Lib.hid ((HU.out.below hb1 hh').below (alloc_belowI w1 (.cells #[] 2)) (by omega))
  have HLW : Hid (w1.heap.size ≤ (w1.alloc (.cells #[] 2)).heap.size) := by rw [Hid]; simp
  have HLN : Hid (([] : List Int).length + A.length ≤ 1099511627776) := by rw [Hid]; simp; omega
  clear hb1
  go_wp2_with (at_builtin; refine wpList_appIs rfl _ _ rfl _ [] rfl H0.out _ A rfl HUA.out HLN.out HLW.out ?_)
  intro v2 w2 ho2 hsm2 hz2 _
  have ho2' : OwnI w2 w1.heap.size w2.heap.size v2 A := by simpa using ho2
  have HO2 := Lib.hid (ho2'.mono hs1 (Nat.le_refl _) (Nat.le_refl _))
  have HB2 := Lib.hid (HB1.out.trans ((HAB.out.trans (hsm2.below (Nat.le_refl _) HLW.out)).mono hs1))
  clear ho2 ho2' hsm2 hz2 H0 HAB HUA HLW HLN
  go_wp2_with fail
  go_loopw [7, 8, 9] (fun ov cv iv wr => ∃ (B : List Int) (c : Int) (f i : Nat), i ≤ n ∧ iv = .int .i64 i ∧ cv = .int .i64 c ∧ 0 ≤ c ∧ Hid (TourOk B n) ∧ Hid (c ≤ L0 - longP ws n B) ∧ Hid ((longP ws n B).toNat < f) ∧ Hid (OwnI wr w.heap.size wr.heap.size ov B) ∧ Hid (Below w.heap.size w wr) ∧ Hid (iGo ws n B (n - i) i = iGo ws n B n 0) ∧ Hid (mvGo ws n f B c = RES)) (fun _ cv iv _ => (L0 - intOf cv).toNat * 11 + (n - (intOf iv).toNat))
  case atStart => exact ⟨A, 0, (longP ws n A).toNat + 1, 0, Nat.zero_le _, rfl, rfl, by omega, HA, by rw [Hid, HL0.out]; omega, by rw [Hid]; omega, HO2, HB2, rfl, HRES.out.symm⟩
  case round =>
    clear HO2 HB2 HRES
    obtain ⟨B, c, f, i, hi, rfl, rfl, hc0, HT, HCB, HF, HO, HB, HI, HY⟩ := hrel
    have hrg := HRG.out B HT.out
    have hcb := HCB.out
    have hcL : c ≤ L0 := by omega
    have hrg1 := hrg.1
    have hrg2 := hrg.2
    obtain ⟨oa, oc, e0⟩ := HO.out.shape2
    rw [HT.out.1] at e0
    subst e0
    clear hrg hcb
    by_cases hin : i < n
    · have HIN : Hid (n - i = (n - (i + 1)) + 1) := by rw [Hid]; omega
      obtain ⟨KRES, hK⟩ : ∃ r, r = kGo ws n B i n 0 := ⟨_, rfl⟩
      have HK := Lib.hid hK
      clear hK
      obtain ⟨wp, hwp⟩ : ∃ wp : World, wp = wr := ⟨_, rfl⟩
      rw [← hwp] at HO HB ⊢
      clear hwp
      go_wp2_with fail
      go_loopw [7, 8, 9, 10] (fun ov cv iv kv wr => ∃ (k : Nat) (pa : Option Addr) (pc : Nat), k ≤ n ∧ kv = .int .i64 k ∧ ov = .slice pa n pc ∧ cv = .int .i64 c ∧ iv = .int .i64 i ∧ Hid (OwnI wr w.heap.size wr.heap.size (.slice pa n pc) B) ∧ Hid (Below w.heap.size w wr) ∧ Hid (kGo ws n B i (n - k) k = KRES)) (fun _ _ _ kv _ => n - (intOf kv).toNat)
      case atStart => exact ⟨0, _, _, Nat.zero_le _, rfl, rfl, rfl, rfl, HO, HB, HK.out.symm⟩
      case round =>
        clear HO HB
        obtain ⟨k, pa, pc, hk, rfl, rfl, rfl, rfl, HO, HB, HRK⟩ := hrel
        by_cases hkn : k < n
        · have hnk : n - k = (n - (k + 1)) + 1 := by omega
          by_cases hki : k = i
          · have HSN : Hid (kGo ws n B i (n - (k + 1)) (k + 1) = KRES) := by rw [Hid, ← HRK.out, hnk, kGo_skip hki]
            clear hnk HRK
            subst hki
            go_wp2
            go_roundw
            case rel => exact ⟨k + 1, _, _, by omega, by go_num, rfl, rfl, rfl, HO, HB, HSN⟩
            case measure => (simp [intOf]; try omega)
          · have e1 : ((k : Int) == (i : Int)) = false := by (simp; omega)
            have e2 : (k == i) = false := by (simp; omega)
            have e3 : ¬ (k : Int) = (i : Int) := by omega
            have HMO := Lib.hid (HMV.out w.heap.size _ B i k wr HO.out.rd HT.out hin hkn)
            have HMT := Lib.hid (movedP_ok HT.out hin hkn)
            have HYES : Hid (longP ws n (movedP B i k) < longP ws n B → KRES = some (movedP B i k)) := fun h' => by rw [← HRK.out, hnk, kGo_yes hki h']
            have HNO : Hid (¬ longP ws n (movedP B i k) < longP ws n B → kGo ws n B i (n - (k + 1)) (k + 1) = KRES) := fun h' => by rw [← HRK.out, hnk, kGo_no h']
            obtain ⟨C, hC⟩ : ∃ C, C = movedP B i k := ⟨_, rfl⟩
            rw [← hC] at HMO HMT HYES HNO
            have hsk := HB.out.size
            clear hnk HRK hC hki
            go_wp2_with fail
            refine HMO.out.mono ?_
            rintro e w4 ⟨u4, rfl, ho4, hb4⟩
            have HO4 := Lib.hid (ho4.mono hsk (Nat.le_refl _) (Nat.le_refl _))
            have HB4 := Lib.hid (HB.out.trans (hb4.mono hsk))
            have hs4 := hb4.size
            have HP4 := Lib.hid ((HO.out.below hb4 (Nat.le_refl _)).mono (Nat.le_refl _) hs4 (Nat.le_refl _))
            have HL1 := Lib.hid (HLONG.out w.heap.size u4 C w4 HB4.out HO4.out.rd HMT.out)
            have HL2 := Lib.hid (fun (wx : World) (hd : Drew w4 wx) => HLONG.out w.heap.size (.slice pa n pc) B wx (HB4.out.trans (hd.below _)) (by have := HP4.out.rd.drew hd; rw [hd.heap]; exact this) HT.out)
            obtain ⟨x, hx⟩ : ∃ x, x = longP ws n C := ⟨_, rfl⟩
            obtain ⟨y, hy⟩ : ∃ y, y = longP ws n B := ⟨_, rfl⟩
            have HX := Lib.hid hx
            have HYY := Lib.hid hy
            rw [← hx] at HL1
            rw [← hy] at HL2
            clear ho4 hb4 hx hy
            go_wp2_with fail
            refine HL1.out.mono ?_
            rintro e w5 ⟨rfl, hd5⟩
            have HD5 := Lib.hid hd5
            clear hd5
            go_wp2_with fail
            refine (HL2.out w5 HD5.out).mono ?_
            rintro e w6 ⟨rfl, hd6⟩
            have HD6 := Lib.hid (HD5.out.trans hd6)
            have hh6 : w4.heap.size ≤ w6.heap.size := by rw [HD6.out.heap]; exact Nat.le_refl _
            have HB6 := Lib.hid (HB4.out.trans (HD6.out.below _))
            clear hd6
            by_cases hxy : x < y
            · have HXY : Hid (longP ws n C < longP ws n B) := by rw [Hid, ← HX.out, ← HYY.out]; exact hxy
              have HO6 := Lib.hid ((HO4.out.drew HD6.out).mono (Nat.le_refl _) hh6 (Nat.le_refl _))
              have hf := HF.out
              obtain ⟨f', rfl⟩ : ∃ f', f = f' + 1 := ⟨f - 1, by omega⟩
              have HII : Hid (iGo ws n B n 0 = some C) := by rw [Hid, ← HI.out, HIN.out, iGo_yes (by rw [← HK.out]; exact HYES.out HXY.out)]
              have HY2 : Hid (mvGo ws n f' C (c + 1) = RES) := by rw [Hid, ← HY.out, mvGo_yes HII.out]
              have hr2 := (HRG.out C HMT.out).1
              have hxy2 := HXY.out
              have HF2 : Hid ((longP ws n C).toNat < f') := by rw [Hid]; omega
              have HC2 : Hid (c + 1 ≤ L0 - longP ws n C) := by have := HCB.out; rw [Hid]; omega
              have hcl2 : c + 1 ≤ L0 := by have := HC2.out; omega
              clear HYES HNO hf hr2 hxy2 HF HY HI HII
              go_wp2
              go_roundw
              case rel => exact ⟨C, c + 1, f', 0, Nat.zero_le _, rfl, rfl, by omega, HMT, HC2, HF2, HO6, HB6, rfl, HY2⟩
              case measure => (simp [intOf]; try omega)
            · have hxyd : decide (x < y) = false := decide_eq_false hxy
              have HXY : Hid (¬ longP ws n C < longP ws n B) := by rw [Hid, ← HX.out, ← HYY.out]; exact hxy
              have HO6 := Lib.hid ((HP4.out.drew HD6.out).mono (Nat.le_refl _) hh6 (Nat.le_refl _))
              have HSN : Hid (kGo ws n B i (n - (k + 1)) (k + 1) = KRES) := HNO.out (by have := HXY.out; omega)
              clear HYES HNO
              go_wp2
              go_roundw
              case rel => exact ⟨k + 1, _, _, by omega, by go_num, rfl, rfl, rfl, HO6, HB6, HSN⟩
              case measure => (simp [intOf]; try omega)
        · obtain rfl : k = n := by omega
          have HKN : Hid (KRES = none) := by rw [Hid, ← HRK.out, Nat.sub_self, kGo]
          have HSI : Hid (iGo ws k B (k - (i + 1)) (i + 1) = iGo ws k B k 0) := by rw [Hid, ← HI.out, HIN.out, iGo_no (by rw [← HK.out, HKN.out])]
          clear HRK HKN HI
          go_wp2
          go_roundw
          case rel => exact ⟨B, c, f, i + 1, by omega, by go_num, rfl, hc0, HT, HCB, HF, HO, HB, HSI, HY⟩
          case measure => (simp [intOf]; try omega)
    · obtain rfl : i = n := by omega
      have HIE : Hid (iGo ws i B i 0 = none) := by rw [Hid, ← HI.out, Nat.sub_self, iGo]
      have HRE : Hid (RES = (B, c)) := by rw [Hid, ← HY.out, mvGo_no HIE.out]
      clear HIE HI HY
      go_wp2
      go_ret3
      exact ⟨_, by rw [HE.out, HRE.out]; rfl, by rw [HE.out, HRE.out]; exact HO.out, HB.out⟩
end Go.Proofs.Yteoikfddebbakaa
