/-
  The library's insertionSort at a block of a []int64: contract.
-/
import Derived.Test.YtkankfdpodofjaaSymH
namespace Go.Proofs.Ytkankfdpodofjaa
open Go.RowKit
set_option linter.unusedVariables false
set_option maxRecDepth 100000

theorem Seg.nil {N a b : Nat} {A : List Int} : Seg N A A a b := Seg.refl _ _ _ _
set_option maxHeartbeats 4000000 in
set_option maxRecDepth 100000 in
theorem insBlock_any (F : FuncId) (hF : ∀ args wx, (callFunc F args).run Try.prog wx = .ok (.enter F args) wx) (cap : Array Value) (cf : Int → Int → Int) (key : Int → Int) (hkey : ∀ x y, decide (cf x y < 0) = decide (key x < key y)) {lo g cp N : Nat} (hN : N ≤ 1000) (A : List Int) (w : World) (a b : Nat) (hrow : RowI w lo g N cp A) (hA : IdxR A N) (hab : a ≤ b) (h3 : b ≤ N)
    (hcmp : CmpOk F cap cf g N w) (hc : ∀ p q, a ≤ p → p < q → q < b → at0 A p < at0 A q) :
    Calls Try.prog 115 #[.slice (some ⟨g, 0, none⟩) N cp, .int .i64 a, .int .i64 b, .func (.func F) #[] cap] w (SymPost lo g cp N key A a b w) := by
  have HKEY := Lib.hid hkey
  have HROW := Lib.hid hrow
  have HA := Lib.hid hA
  have HC := Lib.hid hcmp
  have HCR := Lib.hid hc
  have u1 : IntKind.i64.wrap ((a : Int) + 1) = (a : Int) + 1 := IntWalk.i64_in _ (by omega)
  clear hkey hrow hA hcmp hc
  go_enter Try.func115, Try.ntmps115
  go_wp2_with fail
  go_loopw [8] (fun iv wr => ∃ (k : Nat) (R : List Int), Hid (a + 1 ≤ k ∧ (k ≤ b ∨ k = a + 1)) ∧ iv = .int .i64 k ∧ Hid (RowI wr lo g N cp R) ∧ Hid (Seg N A R a (min k b)) ∧ Hid (SortR key R a (min k b)) ∧ Hid (Same g (g + 1) w wr)) (fun iv _ => b - (intOf iv).toNat)
  case atStart => exact ⟨a + 1, A, ⟨Nat.le_refl _, .inr rfl⟩, by go_num, HROW, Seg.refl _ _ _ _, fun p q h1 h2 h3 => by omega, Same.refl _ _ _⟩
  case round =>
    clear u1
    obtain ⟨k, R, ⟨hak, hkb⟩, rfl, HR, HSG, HSO, HS⟩ := hrel
    by_cases hkn : k < b
    · rw [Nat.min_eq_left (Nat.le_of_lt hkn)] at HSG HSO
      have hidx := HSG.out.idx (show k ≤ N by omega) HA.out
      have HIX := Lib.hid hidx
      have hcross : Cross R a k (k + 1) := fun p q p1 p2 q1 q2 => by
        have : q = k := by omega
        subst this
        obtain ⟨p', a1, a2, a3⟩ := HSG.out.src p p1 p2
        rw [a3, HSG.out.out q (by omega) (by omega)]
        exact HCR.out p' q a1 a2 hkn
      have HCX := Lib.hid hcross
      obtain ⟨wu, hwu⟩ : ∃ wu : World, wu = wr := ⟨_, rfl⟩
      rw [← hwu] at HR HS
      rw [← hwu]
      clear hwu hcross hidx
      go_wp2_with fail
      go_loopw [9] (fun jv wr => ∃ (j : Nat) (C : List Int), Hid (a ≤ j ∧ j ≤ k) ∧ jv = .int .i64 j ∧ Hid (RowI wr lo g N cp C) ∧ Hid (∀ q, q < N → at0 C q = at0 R (if j < q ∧ q ≤ k then q - 1 else if q = j then k else q)) ∧ Hid (∀ h, j ≤ h → h < k → key (at0 R k) < key (at0 R h)) ∧ Hid (Same g (g + 1) w wr)) (fun jv _ => (intOf jv).toNat)
      case atStart => exact ⟨k, R, ⟨by omega, Nat.le_refl _⟩, rfl, HR, fun q hq => by
        rw [if_neg (by omega)]
        by_cases e : q = k
        · rw [if_pos e, e]
        · rw [if_neg e], fun h h1 h2 => by omega, HS⟩
      case round =>
        clear HR HS
        obtain ⟨j, C, ⟨haj, hjk⟩, rfl, HR, HF, HLT, HS⟩ := hrel
        have hCl := HR.out.length
        by_cases hj0 : a < j
        · obtain ⟨r, rfl⟩ : ∃ r, j = r + 1 := ⟨j - 1, by omega⟩
          have e1 : at0 C (r + 1) = at0 R k := by rw [HF.out (r + 1) (by omega), if_neg (by omega), if_pos rfl]
          have e2 : at0 C r = at0 R r := by rw [HF.out r (by omega), if_neg (by omega), if_neg (by omega)]
          have c1 := HR.out.cell (k := r + 1) (by omega)
          have c2 := HR.out.cell (k := r) (by omega)
          have f1 := HR.out.frozen (r + 1)
          have f2 := HR.out.frozen r
          have ix := HIX.out k (by omega)
          have iy := HIX.out r (by omega)
          have HCC := Lib.hid (fun (wx : World) (hx : Drew wr wx) => HC.out wx (HS.out.trans (hx.same _ _)) (at0 R k) (at0 R r) ix.1 ix.2 iy.1 iy.2)
          have HK := Lib.hid (HKEY.out (at0 R k) (at0 R r))
          have HT : Hid (∀ q, q < N → at0 ((C.set (r + 1) (at0 C r)).set r (at0 C (r + 1))) q = at0 R (if r < q ∧ q ≤ k then q - 1 else if q = r then k else q)) := fun q hq => by
            rw [at0_two hCl (by omega) (by omega), HF.out _ (by
              repeat' split
              all_goals omega)]
            congr 1
            repeat' split
            all_goals omega
          obtain ⟨x, hx⟩ : ∃ x, x = at0 R k := ⟨_, rfl⟩
          obtain ⟨y, hy⟩ : ∃ x, x = at0 R r := ⟨_, rfl⟩
          rw [← hx] at e1
          rw [← hy] at e2
          obtain ⟨t1, t2, t3, t4⟩ := two_facts HR.out (p := r + 1) (q := r) (by omega) (by omega) (by omega) e1 e2
          rw [show C.getD (r + 1) 0 = x from e1] at c1
          rw [show C.getD r 0 = y from e2] at c2
          rw [e1, e2] at HT
          rw [← hx, ← hy] at HCC HK
          have k1 : IntKind.i64.wrap (((r + 1 : Nat) : Int) - 1) = (r : Int) := by rw [show ((r + 1 : Nat) : Int) - 1 = (r : Int) by omega]; exact IntWalk.i64_in _ (by omega)
          have k2 : IntKind.i64.wrap ((r : Int) + 1 - 1) = (r : Int) := by rw [show (r : Int) + 1 - 1 = (r : Int) by omega]; exact IntWalk.i64_in _ (by omega)
          have z1 : (r : Int) + 1 < (N : Int) := by omega
          have z2 : (r : Int) < (N : Int) := by omega
          have z3 : ((r : Int) + 1).toNat = r + 1 := by omega
          have z4 : (0 : Int) ≤ (r : Int) + 1 := by omega
          have z5 : (a : Int) < (r : Int) + 1 := by omega
          have HX := Lib.hid hx
          have HYY := Lib.hid hy
          clear hx hy e1 e2 ix iy
          cases hcf : decide (cf x y < 0)
          · have HOL := Lib.hid (one_right (key := key) (N := N) (a := a) (m := k) (i := r + 1) (A := R) (R := C) (by omega) (by omega) (by omega) HSO.out HCX.out (fun h h1 h2 => by
              have e := HK.out
              rw [hcf] at e
              have e2 := of_decide_eq_false e.symm
              rw [HX.out, HYY.out] at e2
              have := sort_key HSO.out (p := h) (q := r) h1 (by omega) (by omega)
              omega) HLT.out HF.out)
            go_wp2_with fail
            go_quiet ((exact quiet_drew (HCC.out _ (Drew.one _ _))))
            go_wp2
            go_roundw
            case rel => exact ⟨k + 1, C, ⟨by omega, .inl (by omega)⟩, by go_num, HR.out.drewN _, by
              rw [Nat.min_eq_left (show k + 1 ≤ b by omega)]
              exact (HSG.out.widen (Nat.le_refl _) (by omega) (by omega)).trans HOL.out.1, by
              rw [Nat.min_eq_left (show k + 1 ≤ b by omega)]
              exact HOL.out.2, HS.out.drewN _⟩
            case measure => (simp [intOf]; try omega)
          · have HNL : Hid (∀ h, r ≤ h → h < k → key (at0 R k) < key (at0 R h)) := fun h h1 h2 => by
              by_cases hr : h = r
              · have e := HK.out
                rw [hcf] at e
                have e2 := of_decide_eq_true e.symm
                rw [HX.out, HYY.out] at e2
                rw [hr]; exact e2
              · exact HLT.out h (by omega) h2
            go_wp2_with fail
            go_quiet ((exact quiet_drew (HCC.out _ (Drew.one _ _))))
            go_wp2_with fail
            go_region
            all_goals
              go_wp2
              go_roundw
              case rel => exact ⟨r, _, ⟨by omega, by omega⟩, by go_num, ((HR.out.stored (r + 1) y).stored r x).drewN _, HT, HNL, ((HS.out.setCell (p := ⟨g, r + 1, none⟩) (Nat.le_refl _) (Nat.lt_succ_self _) _).setCell (p := ⟨g, r, none⟩) (Nat.le_refl _) (Nat.lt_succ_self _) _).drewN _⟩
              case measure => (simp [intOf]; try omega)
        · have hja : j = a := by omega
          have z5 : ¬ (a : Int) < (j : Int) := by omega
          have z6 : decide ((a : Int) < (j : Int)) = false := decide_eq_false z5
          have HOL := Lib.hid (one_right (key := key) (N := N) (a := a) (m := k) (i := j) (A := R) (R := C) (by omega) (by omega) (by omega) HSO.out HCX.out (fun h h1 h2 => by omega) HLT.out HF.out)
          clear hja
          go_wp2_with fail
          go_quiet (fail)
          go_wp2
          go_roundw
          case rel => exact ⟨k + 1, C, ⟨by omega, .inl (by omega)⟩, by go_num, HR.out.drewN _, by
            rw [Nat.min_eq_left (show k + 1 ≤ b by omega)]
            exact (HSG.out.widen (Nat.le_refl _) (by omega) (by omega)).trans HOL.out.1, by
            rw [Nat.min_eq_left (show k + 1 ≤ b by omega)]
            exact HOL.out.2, HS.out.drewN _⟩
          case measure => (simp [intOf]; try omega)
    · rw [Nat.min_eq_right (show b ≤ k by omega)] at HSG HSO
      have z5 : ¬ (k : Int) < (b : Int) := by omega
      go_wp2
      go_end0
      exact ⟨rfl, R, HR.out, HSG.out, HSO.out, HS.out⟩
end Go.Proofs.Ytkankfdpodofjaa
