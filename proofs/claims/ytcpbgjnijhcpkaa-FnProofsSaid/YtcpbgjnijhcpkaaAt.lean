/-
  Choices by bytes (b10At), the test of length (b10Long), equal lists (b10Ints): contracts.
-/
import Derived.Test.YtcpbgjnijhcpkaaSrc
import Derived.Test.YtcpbgjnijhcpkaaNum
import Derived.BigQuiet
namespace Go.Proofs.Ytcpbgjnijhcpkaa
open Go.RowKit
set_option linter.unusedVariables false
set_option maxRecDepth 100000

/-- the number that some bytes choose -/
def atF (bs : List Int) (i n : Int) : Int := if n ≤ 1 then 0 else if i < (bs.length : Int) then bs.getD i.toNat 0 % n else (i * 37 + 11) % n
theorem atF_rng (bs : List Int) (i n : Int) (hn : 1 ≤ n) : 0 ≤ atF bs i n ∧ atF bs i n < n := by
  unfold atF
  split
  · omega
  · split
    · exact ⟨Int.emod_nonneg _ (by omega), Int.emod_lt_of_pos _ (by omega)⟩
    · exact ⟨Int.emod_nonneg _ (by omega), Int.emod_lt_of_pos _ (by omega)⟩
set_option maxHeartbeats 800000 in
set_option maxRecDepth 100000 in
theorem b10At_any {l h : Nat} (v : Value) (bs : List Int) (i : Nat) (n : Int) (w : World) (hv : Byts w l h v bs) (hi : i ≤ 4294967296) (hn : 0 ≤ n) (hn2 : n ≤ 4294967296) :
    Calls Try.prog 16 #[v, .int .i64 i, .int .i64 n] w fun e w' => e = .returned (.int .i64 (atF bs i n)) ∧ w = w' := by
  obtain ⟨a, cap, rfl, hc1, hc2, hd⟩ := hv.out
  by_cases h1 : n ≤ 1
  · have HE : Hid (atF bs i n = 0) := by unfold Hid atF; rw [if_pos h1]
    clear hv hd
    go_enter Try.func16, Try.ntmps16
    go_wp2
    go_ret
    exact ⟨by rw [HE.out]; rfl, rfl⟩
  · have hn0 : n ≠ 0 := by omega
    have hn1 : n ≠ -1 := by omega
    by_cases h2 : i < bs.length
    · rcases hd with hd | ⟨b, off, rfl, hb1, hb2, hb3, hcell⟩
      · rw [hd] at h2; simp at h2
      have hck := hcell i h2
      have hby := hv.byte h2
      obtain ⟨y, hy⟩ : ∃ y, y = bs.getD i 0 := ⟨_, rfl⟩
      rw [← hy] at hck hby
      have HE : Hid (atF bs i n = y % n) := by unfold Hid atF; rw [if_neg h1, if_pos (by omega), Int.toNat_natCast, hy]
      have e1 : y.tmod n = y % n := Int.tmod_eq_emod_of_nonneg hby.1
      have hr0 : 0 ≤ y % n := Int.emod_nonneg _ hn0
      have hr1 : y % n < n := Int.emod_lt_of_pos _ (by omega)
      obtain ⟨z, hz⟩ : ∃ z, y % n = z := ⟨_, rfl⟩
      rw [hz] at e1 hr0 hr1
      have HZ := Lib.hid hz
      clear hv hcell hy hz
      go_enter Try.func16, Try.ntmps16
      go_wp2_with fail
      go_ret
      exact ⟨by rw [HE.out, HZ.out]; rfl, rfl⟩
    · have HE : Hid (atF bs i n = ((i : Int) * 37 + 11) % n) := by unfold Hid atF; rw [if_neg h1, if_neg (by omega)]
      have e1 : ((i : Int) * 37 + 11).tmod n = ((i : Int) * 37 + 11) % n := Int.tmod_eq_emod_of_nonneg (by omega)
      have hr0 : 0 ≤ ((i : Int) * 37 + 11) % n := Int.emod_nonneg _ hn0
      have hr1 : ((i : Int) * 37 + 11) % n < n := Int.emod_lt_of_pos _ (by omega)
      obtain ⟨z, hz⟩ : ∃ z, ((i : Int) * 37 + 11) % n = z := ⟨_, rfl⟩
      rw [hz] at e1 hr0 hr1
      have HZ := Lib.hid hz
      clear hv hd hz
      go_enter Try.func16, Try.ntmps16
      go_wp2_with fail
      go_ret
      exact ⟨by rw [HE.out, HZ.out]; rfl, rfl⟩
def longF (xs ys : List Int) : Bool := decide (1048576 < (xs.length : Int)) || decide (1048576 < (ys.length : Int))
theorem longF_no {xs ys : List Int} (h : longF xs ys = false) : xs.length ≤ 1048576 ∧ ys.length ≤ 1048576 := by
  unfold longF at h
  rw [Bool.or_eq_false_iff, decide_eq_false_iff_not, decide_eq_false_iff_not] at h
  omega
theorem b10Long_any {l h l' h' : Nat} (v u : Value) (xs ys : List Int) (w : World) (hv : Byts w l h v xs) (hu : Byts w l' h' u ys) :
    Calls Try.prog 7 #[v, u] w fun e w' => e = .returned (.bool (longF xs ys)) ∧ w = w' := by
  obtain ⟨a, cap, rfl, hc1, hc2, hd⟩ := hv.out
  obtain ⟨a', cap', rfl, hc1', hc2', hd'⟩ := hu.out
  clear hv hd hu hd'
  unfold longF
  by_cases h1 : 1048576 < (xs.length : Int)
  · rw [decide_eq_true h1, Bool.true_or]
    go_enter Try.func7, Try.ntmps7
    go_wp2
    go_ret
    exact ⟨rfl, rfl⟩
  · rw [decide_eq_false h1, Bool.false_or]
    have h1' : decide (1048576 < (xs.length : Int)) = false := decide_eq_false h1
    by_cases h2 : 1048576 < (ys.length : Int)
    · rw [decide_eq_true h2]
      have h2' : decide (1048576 < (ys.length : Int)) = true := decide_eq_true h2
      go_enter Try.func7, Try.ntmps7
      go_wp2
      go_ret
      refine ⟨?_, rfl⟩
      first | rfl | (simp [h1', h2'])
    · rw [decide_eq_false h2]
      have h2' : decide (1048576 < (ys.length : Int)) = false := decide_eq_false h2
      go_enter Try.func7, Try.ntmps7
      go_wp2
      go_ret
      refine ⟨?_, rfl⟩
      first | rfl | (simp [h1', h2'])
set_option maxHeartbeats 400000 in
set_option maxRecDepth 100000 in
theorem b10Ints_any {l h l' h' : Nat} (v u : Value) (xs ys : List Int) (w : World) (hv : Ints w l h v xs) (hu : Ints w l' h' u ys) :
    Calls Try.prog 14 #[v, u] w fun e w' => e = .returned (.bool (decide (xs = ys))) ∧ Drew w w' := by
  obtain ⟨a, cap, rfl, hc1, hc2, hd⟩ := hv.out
  obtain ⟨a', cap', rfl, gc1, gc2, gd⟩ := hu.out
  by_cases hlen : xs.length = ys.length
  · have hne : ((xs.length : Int) != (ys.length : Int)) = false := by simp [hlen]
    have Hl := Lib.hid hlen
    clear hlen
    go_enter Try.func14, Try.ntmps14
    go_wp2_with fail
    go_loopw [13] (fun i wr => ∃ k : Nat, k ≤ xs.length ∧ i = .int .i64 k ∧ Hid (xs = ys ↔ xs.drop k = ys.drop k) ∧ Drew w wr) (fun i _ => xs.length - (intOf i).toNat)
    case atStart => exact ⟨0, Nat.zero_le _, rfl, Lib.hid (by simp), Drew.refl _⟩
    case round =>
      obtain ⟨k, hk, rfl, H, hD⟩ := hrel
      have hcw := hD.cell
      by_cases hlt : k < xs.length
      · have glt : k < ys.length := by rw [← Hl.out]; exact hlt
        have HD := Lib.hid (drop_cons xs k hlt)
        have GD := Lib.hid (drop_cons ys k glt)
        rcases hd with rfl | ⟨b, off, rfl, hb1, hb2, hb3, hcell⟩
        · simp at hlt
        rcases gd with rfl | ⟨b', off', rfl, gb1, gb2, gb3, gcell⟩
        · simp at glt
        have hck := hcell k hlt
        have gck := gcell k glt
        clear hcell gcell
        cases hq : (xs[k] != ys[k])
        · go_wp2_with fail
          go_quiet (fail)
          go_wp2
          go_roundw
          case rel => exact ⟨k + 1, by omega, by go_num, Lib.hid (by rw [H.out, HD.out, GD.out, List.cons.injEq]; simp at hq; simp [hq]), hD.step _⟩
          case measure => simp [intOf]; omega
        · go_wp2_with fail
          go_quiet (fail)
          go_wp2
          go_ret
          exact ⟨ret_bool (decide_eq_false (by rw [H.out, HD.out, GD.out, List.cons.injEq]; simp at hq; simp [hq])).symm, hD.step _⟩
      · go_wp2
        go_ret
        exact ⟨ret_bool (decide_eq_true (by rw [H.out, drop_len _ _ (by omega), drop_len _ _ (by rw [← Hl.out]; omega)])).symm, hD⟩
  · have hne : ((xs.length : Int) != (ys.length : Int)) = true := by simp; omega
    have hxy : xs ≠ ys := fun e => hlen (by rw [e])
    go_enter Try.func14, Try.ntmps14
    go_wp2
    go_ret
    exact ⟨ret_bool (by simp [hxy]), Drew.refl _⟩
end Go.Proofs.Ytcpbgjnijhcpkaa
