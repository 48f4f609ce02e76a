/-
  The library's swapRange, rotate and symMerge at []int64: contracts.
-/
import Derived.Test.YtkankfdpodofjaaSymP
import Derived.RegionTactic
import Derived.BigQuiet
import Derived.Deep.DeepCutAuto
namespace Go.Proofs.Ytkankfdpodofjaa
open Go.RowKit
set_option linter.unusedVariables false
set_option maxRecDepth 100000

theorem at0_set (zs : List Int) (p q : Nat) (x : Int) (hq : p < zs.length) : at0 (zs.set p x) q = if q = p then x else at0 zs q := by
  simp only [at0, List.getD, List.getElem?_set]
  by_cases h : p = q
  · subst h; simp [hq]
  · rw [if_neg h, if_neg (fun e => h e.symm)]
theorem swp_step {A R : List Int} {N a b n i : Nat} (hl : R.length = N) (h1 : a + n ≤ b) (h2 : b + n ≤ N) (hi : i < n) (h : ∀ q, q < N → at0 R q = at0 A (swpF a b i q)) :
    ∀ q, q < N → at0 ((R.set (a + i) (at0 R (b + i))).set (b + i) (at0 R (a + i))) q = at0 A (swpF a b (i + 1) q) := by
  intro q hq
  have ha := h (a + i) (by omega)
  have hb := h (b + i) (by omega)
  rw [show swpF a b i (a + i) = a + i by unfold swpF; rw [if_neg (by omega), if_neg (by omega)]] at ha
  rw [show swpF a b i (b + i) = b + i by unfold swpF; rw [if_neg (by omega), if_neg (by omega)]] at hb
  rw [at0_set _ _ _ _ (by rw [List.length_set]; omega), at0_set _ _ _ _ (by omega), ha, hb]
  by_cases e1 : q = b + i
  · rw [if_pos e1]; unfold swpF; rw [if_neg (by omega), if_pos (by omega)]; congr 1; omega
  · rw [if_neg e1]
    by_cases e2 : q = a + i
    · rw [if_pos e2]; unfold swpF; rw [if_pos (by omega)]; congr 1; omega
    · rw [if_neg e2, h q hq]
      congr 1
      unfold swpF
      repeat' split
      all_goals omega
set_option maxHeartbeats 1600000 in
set_option maxRecDepth 100000 in
theorem swapRange_any {lo g cp N : Nat} (A : List Int) (w : World) (cv : Value) (a b n : Nat) (hrow : RowI w lo g N cp A) (h1 : a + n ≤ b) (h2 : b + n ≤ N) (hN : N ≤ 1000) :
    Calls Try.prog 120 #[.slice (some ⟨g, 0, none⟩) N cp, .int .i64 a, .int .i64 b, .int .i64 n, cv] w fun e w' => e = .returned (.tuple #[]) ∧ ∃ R, RowI w' lo g N cp R ∧ (∀ q, q < N → at0 R q = at0 A (swpF a b n q)) ∧ Same g (g + 1) w w' := by
  have HROW := Lib.hid hrow
  clear hrow
  go_enter Try.func120, Try.ntmps120
  go_wp2_with fail
  go_loopw [10] (fun iv wr => ∃ (i : Nat) (R : List Int), i ≤ n ∧ iv = .int .i64 i ∧ Hid (RowI wr lo g N cp R) ∧ Hid (∀ q, q < N → at0 R q = at0 A (swpF a b i q)) ∧ Hid (Same g (g + 1) w wr)) (fun iv _ => n - (intOf iv).toNat)
  case atStart => exact ⟨0, A, Nat.zero_le _, rfl, HROW, fun q hq => by unfold swpF; rw [if_neg (by omega), if_neg (by omega)], Same.refl _ _ _⟩
  case round =>
    obtain ⟨i, R, hi, rfl, HR, HF, HS⟩ := hrel
    have hRl := HR.out.length
    by_cases hin : i < n
    · have ca := HR.out.cell (k := a + i) (by omega)
      have cb := HR.out.cell (k := b + i) (by omega)
      have fa := HR.out.frozen (a + i)
      have fb := HR.out.frozen (b + i)
      have HST := Lib.hid (swp_step hRl h1 h2 hin HF.out)
      obtain ⟨x, hx⟩ : ∃ x, x = at0 R (a + i) := ⟨_, rfl⟩
      obtain ⟨y, hy⟩ : ∃ x, x = at0 R (b + i) := ⟨_, rfl⟩
      rw [show R.getD (a + i) 0 = x from hx.symm] at ca
      rw [show R.getD (b + i) 0 = y from hy.symm] at cb
      rw [← hx, ← hy] at HST
      have s1 : (wr.setCell ⟨g, a + i, none⟩ (.int .i64 y)).cell? ⟨g, b + i, none⟩ = some (.int .i64 x) ∨ True := .inr trivial
      have t1 : (wr.setCell ⟨g, a + i, none⟩ (.int .i64 y)).cell? ⟨g, b + i, none⟩ = some (.int .i64 y) := by
        have := (HR.out.stored (a + i) y).cell (k := b + i) (by omega)
        rw [this]
        have e : (R.set (a + i) y).getD (b + i) 0 = y := by
          have := at0_set R (a + i) (b + i) y (by omega)
          rw [if_neg (by omega)] at this
          exact this.trans hy.symm
        rw [e]
      have t2 : (wr.setCell ⟨g, a + i, none⟩ (.int .i64 y)).frozen? ⟨g, b + i, none⟩ = false := (HR.out.stored (a + i) y).frozen (b + i)
      have t3 : (wr.setCell ⟨g, b + i, none⟩ (.int .i64 x)).cell? ⟨g, a + i, none⟩ = some (.int .i64 x) := by
        have := (HR.out.stored (b + i) x).cell (k := a + i) (by omega)
        rw [this]
        have e : (R.set (b + i) x).getD (a + i) 0 = x := by
          have := at0_set R (b + i) (a + i) x (by omega)
          rw [if_neg (by omega)] at this
          exact this.trans hx.symm
        rw [e]
      have t4 : (wr.setCell ⟨g, b + i, none⟩ (.int .i64 x)).frozen? ⟨g, a + i, none⟩ = false := (HR.out.stored (b + i) x).frozen (a + i)
      have z1 : (a : Int) + (i : Int) < (N : Int) := by omega
      have z2 : (b : Int) + (i : Int) < (N : Int) := by omega
      have z3 : (0 : Int) ≤ (a : Int) + (i : Int) := by omega
      have z4 : (0 : Int) ≤ (b : Int) + (i : Int) := by omega
      have v1 : IntKind.i64.wrap ((a : Int) + (i : Int)) = (a : Int) + (i : Int) := IntWalk.i64_in _ (by omega)
      have v2 : IntKind.i64.wrap ((b : Int) + (i : Int)) = (b : Int) + (i : Int) := IntWalk.i64_in _ (by omega)
      have z5 : ((a : Int) + (i : Int)).toNat = a + i := by omega
      have z6 : ((b : Int) + (i : Int)).toNat = b + i := by omega
      clear s1 hx hy
      go_wp2_with fail
      go_region
      all_goals
        clear v1 v2
        go_wp2
        go_roundw
        case rel => exact ⟨i + 1, _, by omega, by go_num, ((HR.out.stored (a + i) y).stored (b + i) x).drewN _, HST, ((HS.out.setCell (p := ⟨g, a + i, none⟩) (Nat.le_refl _) (Nat.lt_succ_self _) _).setCell (p := ⟨g, b + i, none⟩) (Nat.le_refl _) (Nat.lt_succ_self _) _).drewN _⟩
        case measure => simp [intOf]; omega
    · obtain rfl : i = n := by omega
      go_wp2
      go_end0
      exact ⟨rfl, R, HR.out, HF.out, HS.out⟩
set_option maxHeartbeats 1600000 in
set_option maxRecDepth 100000 in
theorem rotate_any {lo g cp N : Nat} (A : List Int) (w : World) (cv : Value) (a m b : Nat) (hrow : RowI w lo g N cp A) (h1 : a < m) (h2 : m < b) (h3 : b ≤ N) (hN : N ≤ 1000) :
    Calls Try.prog 119 #[.slice (some ⟨g, 0, none⟩) N cp, .int .i64 a, .int .i64 m, .int .i64 b, cv] w fun e w' => e = .returned (.tuple #[]) ∧ ∃ R, RowI w' lo g N cp R ∧ (∀ q, q < N → at0 R q = at0 A (rotF a m b q)) ∧ Same g (g + 1) w w' := by
  have HROW := Lib.hid hrow
  clear hrow
  have u1 : IntKind.i64.wrap ((m : Int) - (a : Int)) = ((m - a : Nat) : Int) := by rw [show (m : Int) - (a : Int) = ((m - a : Nat) : Int) by omega]; exact IntWalk.i64_in _ (by omega)
  have u2 : IntKind.i64.wrap ((b : Int) - (m : Int)) = ((b - m : Nat) : Int) := by rw [show (b : Int) - (m : Int) = ((b - m : Nat) : Int) by omega]; exact IntWalk.i64_in _ (by omega)
  have HGO : Hid (∀ (i j : Nat), 0 < i → 0 < j → i ≤ m → m + j ≤ N → ∀ q, q < N → rotF (m - i) m (m + j) q < N) := fun i j h1 h2 h3 h4 q hq => by
    unfold rotF
    repeat' split
    all_goals omega
  go_enter Try.func119, Try.ntmps119
  go_wp2_with fail
  go_loopw [10, 11] (fun iv jv wr => ∃ (i j : Nat) (R : List Int), 0 < i ∧ 0 < j ∧ i ≤ m ∧ m + j ≤ N ∧ iv = .int .i64 i ∧ jv = .int .i64 j ∧ Hid (RowI wr lo g N cp R) ∧ Hid (∀ q, q < N → at0 R (rotF (m - i) m (m + j) q) = at0 A (rotF a m b q)) ∧ Hid (Same g (g + 1) w wr)) (fun iv jv _ => (intOf iv).toNat + (intOf jv).toNat)
  case atStart => exact ⟨m - a, b - m, A, by omega, by omega, by omega, by omega, rfl, rfl, HROW, fun q hq => by rw [show m - (m - a) = a by omega, show m + (b - m) = b by omega], Same.refl _ _ _⟩
  case round =>
    clear u1 u2
    obtain ⟨i, j, R, hi0, hj0, him, hjN, rfl, rfl, HR, HF, HS⟩ := hrel
    have w1 : IntKind.i64.wrap ((m : Int) - (i : Int)) = ((m - i : Nat) : Int) := by rw [show (m : Int) - (i : Int) = ((m - i : Nat) : Int) by omega]; exact IntWalk.i64_in _ (by omega)
    have w4 : (m : Int) - (i : Int) = ((m - i : Nat) : Int) := by omega
    by_cases hij : i = j
    · subst hij
      have HSW := Lib.hid (swapRange_any R wr cv (m - i) m i HR.out (by omega) (by omega) hN)
      go_wp2_with fail
      refine HSW.out.mono ?_
      rintro e w2 ⟨rfl, T, hT, hF, hs⟩
      have HT := Lib.hid hT
      have HFT := Lib.hid hF
      have HS2 := Lib.hid (HS.out.trans hs)
      clear hT hF hs
      go_wp2
      go_end0
      exact ⟨rfl, T, HT.out, fun q hq => by rw [HFT.out q hq, rot_same him]; exact HF.out q hq, HS2.out⟩
    · by_cases hlt : j < i
      · have HSW := Lib.hid (swapRange_any R wr cv (m - i) m j HR.out (by omega) (by omega) hN)
        have e1 : ((i : Int) != (j : Int)) = true := by simp; omega
        have e2 : (i != j) = true := by simp; omega
        have w2' : IntKind.i64.wrap ((i : Int) - (j : Int)) = ((i - j : Nat) : Int) := by rw [show (i : Int) - (j : Int) = ((i - j : Nat) : Int) by omega]; exact IntWalk.i64_in _ (by omega)
        have hltI : (j : Int) < (i : Int) := by omega
        go_wp2_with fail
        refine HSW.out.mono ?_
        rintro e w2 ⟨rfl, T, hT, hF, hs⟩
        have HT := Lib.hid hT
        have HFT := Lib.hid hF
        have HS2 := Lib.hid (HS.out.trans hs)
        have HNX : Hid (∀ q, q < N → at0 T (rotF (m - (i - j)) m (m + j) q) = at0 A (rotF a m b q)) := fun q hq => by
          rw [HFT.out _ (HGO.out (i - j) j (by omega) hj0 (by omega) hjN q hq), rot_left hlt him]
          exact HF.out q hq
        clear hT hF hs
        go_wp2
        go_roundw
        case rel => exact ⟨i - j, j, T, by omega, hj0, by omega, hjN, by go_num, rfl, HT, HNX, HS2⟩
        case measure => simp [intOf]; omega
      · have HSW := Lib.hid (swapRange_any R wr cv (m - i) (m + j - i) i HR.out (by omega) (by omega) hN)
        have e1 : ((i : Int) != (j : Int)) = true := by simp; omega
        have e2 : (i != j) = true := by simp; omega
        have w2' : IntKind.i64.wrap ((j : Int) - (i : Int)) = ((j - i : Nat) : Int) := by rw [show (j : Int) - (i : Int) = ((j - i : Nat) : Int) by omega]; exact IntWalk.i64_in _ (by omega)
        have w3' : IntKind.i64.wrap ((m : Int) + (j : Int)) = (m : Int) + (j : Int) := IntWalk.i64_in _ (by omega)
        have w5' : IntKind.i64.wrap ((m : Int) + (j : Int) - (i : Int)) = ((m + j - i : Nat) : Int) := by rw [show (m : Int) + (j : Int) - (i : Int) = ((m + j - i : Nat) : Int) by omega]; exact IntWalk.i64_in _ (by omega)
        have hltI : ¬ (j : Int) < (i : Int) := by omega
        go_wp2_with fail
        refine HSW.out.mono ?_
        rintro e w2 ⟨rfl, T, hT, hF, hs⟩
        have HT := Lib.hid hT
        have HFT := Lib.hid hF
        have HS2 := Lib.hid (HS.out.trans hs)
        have HNX : Hid (∀ q, q < N → at0 T (rotF (m - i) m (m + (j - i)) q) = at0 A (rotF a m b q)) := fun q hq => by
          rw [HFT.out _ (HGO.out i (j - i) hi0 (by omega) him (by omega) q hq), rot_right (by omega) him]
          exact HF.out q hq
        clear hT hF hs
        go_wp2
        go_roundw
        case rel => exact ⟨i, j - i, T, hi0, by omega, him, by omega, rfl, by go_num, HT, HNX, HS2⟩
        case measure => simp [intOf]; omega
end Go.Proofs.Ytkankfdpodofjaa
