/-
  The reference's PureIn (letters that stand with one sign alone) and what it calls.
-/
import Derived.Test.YtcpbgjnijhcpkaaApp
import Derived.Test.YtcpbgjnijhcpkaaModels
import Derived.OwnWalk
namespace Go.Proofs.Ytcpbgjnijhcpkaa
open Go.RowKit
set_option linter.unusedVariables false
set_option maxRecDepth 100000

set_option maxHeartbeats 400000 in
set_option maxRecDepth 100000 in
theorem l00Has_any {l h : Nat} (v : Value) (zs : List Int) (n : Int) (w : World) (hv : Ints w l h v zs) :
    Calls Try.prog 100 #[v, .int .i64 n] w fun e w' => e = .returned (.bool (hasI zs n)) ∧ w = w' := by
  obtain ⟨a, cap, rfl, hc1, hc2, hd⟩ := hv.out
  go_enter Try.func100, Try.ntmps100
  go_wp2_with fail
  go_loop [5] (fun i => ∃ k : Nat, k ≤ zs.length ∧ i = .int .i64 k ∧ Hid (hasI (zs.drop k) n = hasI zs n)) (fun i => zs.length - (intOf i).toNat)
  case atStart => exact ⟨0, Nat.zero_le _, rfl, Lib.hid rfl⟩
  case round =>
    obtain ⟨k, hk, rfl, H⟩ := hrel
    by_cases hlt : k < zs.length
    · have HD := Lib.hid (drop_cons zs k hlt)
      rcases hd with rfl | ⟨b, off, rfl, hb1, hb2, hb3, hcell⟩
      · simp at hlt
      have hck := hcell k hlt
      clear hcell
      cases hin : (zs[k] == n)
      · go_wp2
        go_round
        case rel => exact ⟨k + 1, by omega, by go_num, Lib.hid (by rw [← H.out, HD.out, hasI, hin, Bool.false_or])⟩
        case measure => simp [intOf]; omega
      · go_wp2
        go_ret
        exact ⟨ret_bool (by rw [← H.out, HD.out, hasI, hin, Bool.true_or]), rfl⟩
    · go_wp2
      go_ret
      exact ⟨ret_bool (by rw [← H.out, drop_len _ _ (by omega)]; rfl), rfl⟩
/-- a literal stands in a clause of the list -/
def hasAny (cs : List (List Int)) (x : Int) : Bool := cs.any fun c => hasI c x
def pureOf (cs : List (List Int)) (x : Int) : List Int := if hasAny cs x && !hasAny cs (-x) then [x] else if hasAny cs (-x) && !hasAny cs x then [-x] else []
theorem pureOf_same {cs : List (List Int)} {x : Int} {b : Bool} (h1 : hasAny cs x = b) (h2 : hasAny cs (-x) = b) : pureOf cs x = [] := by
  unfold pureOf; rw [h1, h2]; cases b <;> rfl
theorem pureOf_up {cs : List (List Int)} {x : Int} (h1 : hasAny cs x = true) (h2 : hasAny cs (-x) = false) : pureOf cs x = [x] := by
  unfold pureOf; rw [h1, h2]; rfl
theorem pureOf_down {cs : List (List Int)} {x : Int} (h1 : hasAny cs x = false) (h2 : hasAny cs (-x) = true) : pureOf cs x = [-x] := by
  unfold pureOf; rw [h1, h2]; rfl
def pureFrom (cs : List (List Int)) : Int → Nat → List Int
  | _, 0 => []
  | x, k + 1 => pureOf cs x ++ pureFrom cs (x + 1) k
def pureIn (f : FormD) : List Int × Bool := if validForm f then (pureFrom f.clauses 1 f.letters.toNat, true) else ([], false)
end Go.Proofs.Ytcpbgjnijhcpkaa
