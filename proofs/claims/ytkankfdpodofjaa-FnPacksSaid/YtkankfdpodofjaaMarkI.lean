/-
  Contracts of the functions of the laws that copy, compare, measure and mark slices of integers.
-/
import Derived.Test.YtkankfdpodofjaaNum
namespace Go.Proofs.Ytkankfdpodofjaa
open Go.RowKit
set_option linter.unusedVariables false
set_option maxRecDepth 100000
def markI (k : Int) : Int := k
def marksI (k : Int) (n : Nat) : List Int := (List.range n).map fun (j : Nat) => markI (k + (j : Int))
theorem marksI_succ (k : Int) (n : Nat) : marksI k (n + 1) = marksI k n ++ [markI (k + (n : Int))] := by simp [marksI, List.range_succ]
theorem marksI_len (k : Int) (n : Nat) : (marksI k n).length = n := by simp [marksI]
theorem marksI_rng (k : Int) (n : Nat) (h0 : 0 ≤ k) (h1 : k + n ≤ 17592186043904) : ∀ x ∈ marksI k n, I64 x := by
  intro x hx
  simp only [marksI, markI, List.mem_map, List.mem_range] at hx
  obtain ⟨j, hj, rfl⟩ := hx
  unfold I64; omega
theorem marksI_set (k : Int) (xs : List Int) (j : Nat) (hj : j < xs.length) : (marksI k j ++ xs.drop j).set j (markI (k + (j : Int))) = marksI k (j + 1) ++ xs.drop (j + 1) := by
  rw [drop_cons xs j hj, List.set_append_right _ _ (by rw [marksI_len]; exact Nat.le_refl _), marksI_len, Nat.sub_self, List.set_cons_zero, marksI_succ]; simp
set_option maxHeartbeats 400000 in
set_option maxRecDepth 100000 in
theorem markInt64S_any {lo hi : Nat} (v : Value) (xs : List Int) (k : Int) (w : World) (hv : OwnI w lo hi v xs) (h0 : 0 ≤ k) (h1 : k + xs.length ≤ 17592186043904) :
    Calls Try.prog 31 #[v, .int .i64 k] w fun e w' => e = .returned (.int .i64 (k + xs.length)) ∧ OwnI w' lo hi v (marksI k xs.length) ∧ Same lo hi w w' := by
  have hh := hv.own.hsz
  rcases hv.rowOf with ⟨rfl, rfl⟩ | ⟨g, cap, rfl, hg, hc1, hc2, hrow⟩
  · have hl0 : ¬ ((0 : Int) < (([] : List Int).length : Int)) := by simp
    go_enter Try.func31, Try.ntmps31
    go_wp2_with fail
    refine wp_loop_rounds 1 ?_
    rw [rounds_succ]
    go_wp2
    go_ret
    exact ⟨ret_int (by simp), by simpa [marksI] using hv, Same.refl _ _ _⟩
  · have hown0 := Lib.hid hv
    have hge := hrow.ge
    go_enter Try.func31, Try.ntmps31
    go_wp2_with fail
    go_loopw [1, 5] (fun q i wr => ∃ j : Nat, j ≤ xs.length ∧ i = .int .i64 j ∧ q = .int .i64 (k + (j : Int)) ∧ RowI wr lo g xs.length cap (marksI k j ++ xs.drop j) ∧ Same lo hi w wr) (fun _ i _ => xs.length - (intOf i).toNat)
    case atStart => exact ⟨0, Nat.zero_le _, rfl, by simp, by simpa [marksI] using hrow, Same.refl _ _ _⟩
    case round =>
      obtain ⟨j, hj, rfl, rfl, hown, hs⟩ := hrel
      clear hrow
      by_cases hlt : j < xs.length
      · have hd1 := hown.cell hlt
        have hf1 := hown.frozen j
        go_wp2_with fail
        go_roundw
        case rel =>
          refine ⟨j + 1, by omega, by go_num, by first | go_num | (simp; omega), ?_, hs.setCell hge hg _⟩
          rw [← marksI_set k xs j hlt]
          exact hown.stored j _
        case measure => simp [intOf]; omega
      · go_wp2
        go_ret
        obtain rfl : j = xs.length := by omega
        rw [List.drop_length, List.append_nil] at hown
        have hsz := hs.size
        have hl := hown0.out.len
        have e := hown.own (marksI_rng _ _ h0 h1) hl hg (show hi ≤ wr.heap.size by omega)
        have e2 : (marksI k xs.length).length = xs.length := marksI_len _ _
        exact ⟨rfl, e, hs⟩
set_option maxHeartbeats 400000 in
set_option maxRecDepth 100000 in
theorem heldInt64S_any {l h : Nat} (v : Value) (k : Int) (n : Nat) (w : World) (hv : Ints w l h v (marksI k n)) (h0 : 0 ≤ k) (h1 : k + n ≤ 17592186043904) :
    Calls Try.prog 32 #[v, .int .i64 k] w fun e w' => e = .returned (.int .i64 (k + n)) ∧ Drew w w' := by
  obtain ⟨a, cap, rfl, hc1, hc2, hd⟩ := hv.out
  rw [marksI_len] at *
  go_enter Try.func32, Try.ntmps32
  go_wp2_with fail
  go_loopw [1, 5] (fun q i wr => ∃ j : Nat, j ≤ n ∧ i = .int .i64 j ∧ q = .int .i64 (k + (j : Int)) ∧ Drew w wr) (fun _ i _ => n - (intOf i).toNat)
  case atStart => exact ⟨0, Nat.zero_le _, rfl, by simp, Drew.refl _⟩
  case round =>
    obtain ⟨j, hj, rfl, rfl, hD⟩ := hrel
    have hcw := hD.cell
    by_cases hlt : j < n
    · rcases hd with hd | ⟨b, off, rfl, hb1, hb2, hb3, hcell⟩
      · have := congrArg List.length hd; rw [marksI_len] at this; simp at this; omega
      have hck := hcell j hlt
      have he : (marksI k n).getD j 0 = markI (k + (j : Int)) := by simp [marksI, hlt]
      rw [he] at hck
      clear hcell he
      unfold markI at hck
      go_wp2
      go_roundw
      case rel => exact ⟨j + 1, by omega, by go_num, by first | go_num | (simp; omega), hD⟩
      case measure => simp [intOf]; omega
    · go_wp2
      go_ret
      obtain rfl : j = n := by omega
      exact ⟨rfl, hD⟩
end Go.Proofs.Ytkankfdpodofjaa
