/-
  Whether all literals of one list stand in another, in the reference and in the program.
-/
import Derived.Test.YtcpbgjnijhcpkaaPure
namespace Go.Proofs.Ytcpbgjnijhcpkaa
open Go.RowKit
set_option linter.unusedVariables false
set_option maxRecDepth 100000

def isPart (xs bs : List Int) : Bool := xs.all (hasI bs)
set_option maxHeartbeats 400000 in
set_option maxRecDepth 100000 in
theorem isPart_any {l h l' h' : Nat} (u v : Value) (xs bs : List Int) (w : World) (hu : Ints w l h u xs) (hv : Ints w l' h' v bs) :
    Calls Try.prog 99 #[u, v] w fun e w' => e = .returned (.bool (isPart xs bs)) ∧ w = w' := by
  obtain ⟨a, cap, rfl, hc1, hc2, hd⟩ := hu.out
  have HV := Lib.hid hv
  clear hv
  go_enter Try.func99, Try.ntmps99
  go_wp2_with fail
  go_loop [9] (fun i => ∃ k : Nat, k ≤ xs.length ∧ i = .int .i64 k ∧ Hid (isPart (xs.drop k) bs = isPart xs bs)) (fun i => xs.length - (intOf i).toNat)
  case atStart => exact ⟨0, Nat.zero_le _, rfl, Lib.hid rfl⟩
  case round =>
    obtain ⟨k, hk, rfl, H⟩ := hrel
    by_cases hlt : k < xs.length
    · have HD := Lib.hid (drop_cons xs k hlt)
      rcases hd with rfl | ⟨b, off, rfl, hb1, hb2, hb3, hcell⟩
      · simp at hlt
      have hck := hcell k hlt
      clear hcell
      cases hin : hasI bs xs[k]
      · go_wp2_with (go_at_call 66; refine (has_any _ _ _ _ HV.out).mono ?_; rintro e w' ⟨rfl, rfl⟩)
        go_ret
        exact ⟨ret_bool (by rw [← H.out, HD.out, isPart, List.all_cons, hin, Bool.false_and]), rfl⟩
      · go_wp2_with (go_at_call 66; refine (has_any _ _ _ _ HV.out).mono ?_; rintro e w' ⟨rfl, rfl⟩)
        go_round
        case rel => exact ⟨k + 1, by omega, by go_num, Lib.hid (by rw [← H.out, HD.out, isPart, isPart, List.all_cons, hin, Bool.true_and])⟩
        case measure => simp [intOf]; omega
    · go_wp2
      go_ret
      exact ⟨ret_bool (by rw [← H.out, drop_len _ _ (by omega)]; rfl), rfl⟩
end Go.Proofs.Ytcpbgjnijhcpkaa
