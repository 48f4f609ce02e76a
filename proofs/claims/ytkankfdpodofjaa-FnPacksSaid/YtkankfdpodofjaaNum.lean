/-
  Contracts of small functions of the program on integers and on lists of integers that are only read.
-/
import Derived.Test.YtkankfdpodofjaaBase
namespace Go.Proofs.Ytkankfdpodofjaa
open Go.RowKit
set_option linter.unusedVariables false
set_option maxRecDepth 100000
theorem within_any (n lo hi : Int) (w : World) :
    Calls Try.prog 49 #[.int .i64 n, .int .i64 lo, .int .i64 hi] w fun e w' => e = .returned (.bool (inB lo hi n)) ∧ w = w' := by
  by_cases h1 : lo ≤ n <;> by_cases h2 : n ≤ hi <;>
  · go_enter Try.func49, Try.ntmps49
    go_wp2
    go_ret
    exact ⟨ret_bool (by simp [inB, *]), rfl⟩
theorem l00In_any (n lo hi : Int) (w : World) :
    Calls Try.prog 92 #[.int .i64 n, .int .i64 lo, .int .i64 hi] w fun e w' => e = .returned (.bool (inB lo hi n)) ∧ w = w' := by
  by_cases h1 : lo ≤ n <;> by_cases h2 : n ≤ hi <;>
  · go_enter Try.func92, Try.ntmps92
    go_wp2
    go_ret
    exact ⟨ret_bool (by simp [inB, *]), rfl⟩
theorem l00Max_any (a b : Int) (w : World) :
    Calls Try.prog 71 #[.int .i64 a, .int .i64 b] w fun e w' => e = .returned (.int .i64 (max a b)) ∧ w = w' := by
  go_enter Try.func71, Try.ntmps71
  go_wp2
  all_goals
    go_ret
    exact ⟨ret_int (by omega), rfl⟩
theorem size_any (n : Nat) (hn : n ≤ 17592186043904) (w : World) :
    Calls Try.prog 66 #[.int .i64 n] w fun e w' => e = .returned (.int .i64 n) ∧ w = w' := by
  go_enter Try.func66, Try.ntmps66
  go_wp2
  go_ret
  exact ⟨rfl, rfl⟩
set_option maxHeartbeats 400000 in
set_option maxRecDepth 100000 in
theorem allWithin_any (l h : Nat) (v : Value) (zs : List Int) (lo hi : Int) (w : World) (hv : Ints w l h v zs) :
    Calls Try.prog 82 #[v, .int .i64 lo, .int .i64 hi] w fun e w' => e = .returned (.bool (zs.all (inB lo hi))) ∧ w = w' := by
  obtain ⟨a, cap, rfl, hc1, hc2, hd⟩ := hv.out
  go_enter Try.func82, Try.ntmps82
  go_wp2_with fail
  go_loop [11] (fun i => ∃ k : Nat, k ≤ zs.length ∧ i = .int .i64 k ∧ Hid ((zs.drop k).all (inB lo hi) = zs.all (inB lo hi))) (fun i => zs.length - (intOf i).toNat)
  case atStart => exact ⟨0, Nat.zero_le _, rfl, Lib.hid (by simp)⟩
  case round =>
    obtain ⟨k, hk, rfl, H⟩ := hrel
    by_cases hlt : k < zs.length
    · have HD := Lib.hid (drop_cons zs k hlt)
      rcases hd with rfl | ⟨b, off, rfl, hb1, hb2, hb3, hcell⟩
      · simp at hlt
      have hck := hcell k hlt
      clear hcell
      cases hin : inB lo hi zs[k]
      · go_wp2_with (go_at_call 49; refine (within_any _ _ _ _).mono ?_; rintro e w' ⟨rfl, rfl⟩)
        go_ret
        exact ⟨ret_bool (by rw [← H.out, HD.out, List.all_cons, hin, Bool.false_and]), rfl⟩
      · go_wp2_with (go_at_call 49; refine (within_any _ _ _ _).mono ?_; rintro e w' ⟨rfl, rfl⟩)
        go_round
        case rel => exact ⟨k + 1, by omega, by go_num, Lib.hid (by rw [← H.out, HD.out, List.all_cons, hin, Bool.true_and])⟩
        case measure => simp [intOf]; omega
    · go_wp2
      go_ret
      exact ⟨ret_bool (by rw [← H.out, drop_len _ _ (by omega), List.all_nil]), rfl⟩
set_option maxHeartbeats 400000 in
set_option maxRecDepth 100000 in
theorem has_any {l h : Nat} (v : Value) (zs : List Int) (n : Int) (w : World) (hv : Ints w l h v zs) :
    Calls Try.prog 84 #[v, .int .i64 n] w fun e w' => e = .returned (.bool (hasI zs n)) ∧ w = w' := by
  obtain ⟨a, cap, rfl, hc1, hc2, hd⟩ := hv.out
  go_enter Try.func84, Try.ntmps84
  go_wp2_with fail
  go_loop [9] (fun i => ∃ k : Nat, k ≤ zs.length ∧ i = .int .i64 k ∧ Hid (hasI (zs.drop k) n = hasI zs n)) (fun i => zs.length - (intOf i).toNat)
  case atStart => exact ⟨0, Nat.zero_le _, rfl, Lib.hid rfl⟩
  case round =>
    obtain ⟨k, hk, rfl, H⟩ := hrel
    by_cases hlt : k < zs.length
    · have HD := Lib.hid (drop_cons zs k hlt)
      rcases hd with rfl | ⟨b, off, rfl, hb1, hb2, hb3, hcell⟩
      · simp at hlt
      have hck := hcell k hlt
      clear hcell
      cases hin : (zs[k] == n)
      · go_wp2
        go_round
        case rel => exact ⟨k + 1, by omega, by go_num, Lib.hid (by rw [← H.out, HD.out, hasI, hin, Bool.false_or])⟩
        case measure => simp [intOf]; omega
      · go_wp2
        go_ret
        exact ⟨ret_bool (by rw [← H.out, HD.out, hasI, hin, Bool.true_or]), rfl⟩
    · go_wp2
      go_ret
      exact ⟨ret_bool (by rw [← H.out, drop_len _ _ (by omega)]; rfl), rfl⟩
set_option maxHeartbeats 400000 in
set_option maxRecDepth 100000 in
theorem eqInt64S_any {l h l' h' : Nat} (v u : Value) (xs ys : List Int) (w : World) (hv : Ints w l h v xs) (hu : Ints w l' h' u ys) :
    Calls Try.prog 28 #[v, u] w fun e w' => e = .returned (.bool (decide (xs = ys))) ∧ Drew w w' := by
  obtain ⟨a, cap, rfl, hc1, hc2, hd⟩ := hv.out
  obtain ⟨a', cap', rfl, gc1, gc2, gd⟩ := hu.out
  by_cases hlen : xs.length = ys.length
  · have hne : ((xs.length : Int) != (ys.length : Int)) = false := by simp [hlen]
    have Hl := Lib.hid hlen
    clear hlen
    go_enter Try.func28, Try.ntmps28
    go_wp2_with fail
    go_loopw [5] (fun i wr => ∃ k : Nat, k ≤ xs.length ∧ i = .int .i64 k ∧ Hid (xs = ys ↔ xs.drop k = ys.drop k) ∧ Drew w wr) (fun i _ => xs.length - (intOf i).toNat)
    case atStart => exact ⟨0, Nat.zero_le _, rfl, Lib.hid (by simp), Drew.refl _⟩
    case round =>
      obtain ⟨k, hk, rfl, H, hD⟩ := hrel
      have hcw := hD.cell
      by_cases hlt : k < xs.length
      · have glt : k < ys.length := by rw [← Hl.out]; exact hlt
        have HD := Lib.hid (drop_cons xs k hlt)
        have GD := Lib.hid (drop_cons ys k glt)
        rcases hd with rfl | ⟨b, off, rfl, hb1, hb2, hb3, hcell⟩
        · simp at hlt
        rcases gd with rfl | ⟨b', off', rfl, gb1, gb2, gb3, gcell⟩
        · simp at glt
        have hck := hcell k hlt
        have gck := gcell k glt
        clear hcell gcell
        cases hq : (xs[k] != ys[k])
        · go_wp2_with fail
          go_quiet (fail)
          go_wp2
          go_roundw
          case rel => exact ⟨k + 1, by omega, by go_num, Lib.hid (by rw [H.out, HD.out, GD.out, List.cons.injEq]; simp at hq; simp [hq]), hD.step _⟩
          case measure => simp [intOf]; omega
        · go_wp2_with fail
          go_quiet (fail)
          go_wp2
          go_ret
          exact ⟨ret_bool (decide_eq_false (by rw [H.out, HD.out, GD.out, List.cons.injEq]; simp at hq; simp [hq])).symm, hD.step _⟩
      · go_wp2
        go_ret
        exact ⟨ret_bool (decide_eq_true (by rw [H.out, drop_len _ _ (by omega), drop_len _ _ (by rw [← Hl.out]; omega)])).symm, hD⟩
  · have hne : ((xs.length : Int) != (ys.length : Int)) = true := by simp; omega
    have hxy : xs ≠ ys := fun e => hlen (by rw [e])
    go_enter Try.func28, Try.ntmps28
    go_wp2
    go_ret
    exact ⟨ret_bool (by simp [hxy]), Drew.refl _⟩
set_option maxHeartbeats 400000 in
set_option maxRecDepth 100000 in
theorem slicesMax_any (l h : Nat) (v : Value) (zs : List Int) (w : World) (hv : Ints w l h v zs) (h0 : 0 < zs.length) :
    Calls Try.prog 62 #[v] w fun e w' => e = .returned (.int .i64 (maxL zs)) ∧ w = w' := by
  obtain ⟨a, cap, rfl, hc1, hc2, hd⟩ := hv.out
  rcases hd with rfl | ⟨b, off, rfl, hb1, hb2, hb3, hcell⟩
  · simp at h0
  have hc0 : w.cell? ⟨b, off, none⟩ = some (.int .i64 (zs.getD 0 0)) := hcell 0 h0
  have Hc := Lib.hid hcell
  have HM := Lib.hid (show (zs.drop 1).foldl max (zs[0]'h0) = maxL zs by cases zs with | nil => simp at h0 | cons x r => rfl)
  clear hcell
  go_enter Try.func62, Try.ntmps62
  go_wp2_with fail
  go_loop [3, 4] (fun m i => ∃ (k : Nat) (y : Int), k ≤ zs.length ∧ i = .int .i64 k ∧ m = .int .i64 y ∧ Hid ((zs.drop k).foldl max y = maxL zs)) (fun _ i => zs.length - (intOf i).toNat)
  case atStart => exact ⟨1, _, h0, rfl, rfl, HM⟩
  case round =>
    obtain ⟨k, y, hk, rfl, rfl, H⟩ := hrel
    by_cases hlt : k < zs.length
    · have HD := Lib.hid (drop_cons zs k hlt)
      have hck := Hc.out k hlt
      go_wp2
      go_round
      case rel => exact ⟨k + 1, _, by omega, by go_num, rfl, Lib.hid (by rw [← H.out, HD.out, List.foldl_cons, ite_max])⟩
      case measure => simp [intOf]; omega
    · go_wp2
      go_ret
      exact ⟨ret_int (by rw [← H.out, drop_len _ _ (by omega)]; rfl), rfl⟩
end Go.Proofs.Ytkankfdpodofjaa
