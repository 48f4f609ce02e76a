/-
  The library's symMerge at []int64: two parts in order become one.
-/
import Derived.Test.YtkankfdpodofjaaSymJ
namespace Go.Proofs.Ytkankfdpodofjaa
open Go.RowKit
set_option linter.unusedVariables false
set_option maxRecDepth 100000

set_option maxHeartbeats 4000000 in
set_option maxRecDepth 100000 in
theorem symMerge_any (F : FuncId) (hF : ∀ args wx, (callFunc F args).run Try.prog wx = .ok (.enter F args) wx) (cap : Array Value) (cf : Int → Int → Int) (key : Int → Int) (hkey : ∀ x y, decide (cf x y < 0) = decide (key x < key y)) {lo g cp N : Nat} (hN : N ≤ 1000) (fuel : Nat) : SymIH F cap cf key lo g cp N fuel := by
  induction fuel with
  | zero => intro A w a m b _ _ h1 h2 _ hf; omega
  | succ fuel ih =>
    intro A w a m b hrow hA h1 h2 h3 hf hcmp hl hr hc
    by_cases e1 : m = a + 1
    · subst e1
      exact symLeft_any F hF cap cf key hkey A w a b hrow hA h2 h3 hN hcmp hr hc
    by_cases e2 : b = m + 1
    · subst e2
      exact symRight_any F hF cap cf key hkey A w a m hrow hA (by omega) h3 hN hcmp hl hc
    have HKEY := Lib.hid hkey
    have HROW := Lib.hid hrow
    have HA := Lib.hid hA
    have HC := Lib.hid hcmp
    have HL := Lib.hid hl
    have HR := Lib.hid hr
    have HCR := Lib.hid hc
    obtain ⟨M, hM⟩ : ∃ M, M = (a + b) / 2 := ⟨_, rfl⟩
    have hM1 : a < M := by omega
    have hM2 : M < b := by omega
    have HINV := Lib.hid (SymInv.start (key := key) (A := A) h1 h2)
    have HIH := Lib.hid ih
    have HMM := Lib.hid hM
    rw [← hM] at HINV
    have u1 : IntKind.i64.wrap ((m : Int) - (a : Int)) = ((m - a : Nat) : Int) := by rw [show (m : Int) - (a : Int) = ((m - a : Nat) : Int) by omega]; exact IntWalk.i64_in _ (by omega)
    have u2 : (((m - a : Nat) : Int) == 1) = false := by simp; omega
    have u3 : IntKind.i64.wrap ((b : Int) - (m : Int)) = ((b - m : Nat) : Int) := by rw [show (b : Int) - (m : Int) = ((b - m : Nat) : Int) by omega]; exact IntWalk.i64_in _ (by omega)
    have u4 : (((b - m : Nat) : Int) == 1) = false := by simp; omega
    have u5 : ((a : Int) + (b : Int)) / 2 = (M : Int) := by omega
    have u6 : IntKind.i64.wrap ((a : Int) + (b : Int)) = (a : Int) + (b : Int) := IntWalk.i64_in _ (by omega)
    have u7 : IntKind.i64.wrap ((M : Int) + (m : Int)) = (M : Int) + (m : Int) := IntWalk.i64_in _ (by omega)
    have v3 : ¬ m - a = 1 := by omega
    have v4 : ¬ b - m = 1 := by omega
    clear hkey hrow hA hcmp hl hr hc ih hM
    by_cases hMm : M < m
    · have hMI : (M : Int) < (m : Int) := by omega
      rw [if_pos hMm, if_pos hMm] at HINV
      have hsb : b ≤ M + m := by have := HMM.out; omega
      obtain ⟨s, hs⟩ : ∃ s, s = M + m - b := ⟨_, rfl⟩
      rw [← hs] at HINV
      have w1 : (M : Int) + (m : Int) - (b : Int) = (s : Int) := by omega
      have w2 : IntKind.i64.wrap (s : Int) = (s : Int) := IntWalk.i64_in _ (by omega)
      clear hs
      go_enter Try.func116, Try.ntmps116
      go_upto_region 32 with (fail)
      exact join_sym (by assumption) (sym6 w w hN HIH.out hf h3 hM1 hM2 (Same.refl _ _ _) HROW.out HA.out HC.out hF HKEY.out HMM.out h1 h2 HINV.out HL.out HR.out HCR.out)
    · have hMI : ¬ (M : Int) < (m : Int) := by omega
      rw [if_neg hMm, if_neg hMm] at HINV
      go_enter Try.func116, Try.ntmps116
      go_upto_region 32 with (fail)
      exact join_sym (by assumption) (sym6 w w hN HIH.out hf h3 hM1 hM2 (Same.refl _ _ _) HROW.out HA.out HC.out hF HKEY.out HMM.out h1 h2 HINV.out HL.out HR.out HCR.out)
end Go.Proofs.Ytkankfdpodofjaa
