/-
  Contracts of the functions of the laws that copy, compare, measure and mark slices of bools.
-/
import Derived.Test.YtdeelgnfnhdklaaBool
namespace Go.Proofs.Ytdeelgnfnhdklaa
open Go.RowKit
set_option linter.unusedVariables false
set_option maxHeartbeats 400000 in
set_option maxRecDepth 100000 in
theorem toBoolS_any {l h : Nat} (v : Value) (xs : List Bool) (w : World) (hv : Bools w l h v xs) (hl : xs.length ≤ 1099511627776) :
    Calls Try.prog 18 #[v] w fun e w' => ∃ u, e = .returned u ∧ OwnB w' w.heap.size w'.heap.size u xs ∧ Below w.heap.size w w' := by
  obtain ⟨a, cap, rfl, hc1, hc2, hd⟩ := hv.out
  obtain ⟨i0, hi, hz0, hz1, hz2⟩ := info_parts info_bool
  have hml : xs.length ≤ maxLen := by unfold maxLen; omega
  go_enter Try.func18, Try.ntmps18
  go_wp2_with (refine wpList_make_full _ rfl _ _ 25 rfl w.heap.size 4 i0 (.bool false) 1 Try.underlying25 hi hz0 hz1 .i64 .i64 _ _ xs.length rfl rfl rfl rfl ?c1 hml ?c2 ?_)
  case c1 => rw [hz2]; omega
  case c2 => exact Nat.le_refl _
  intro w1 hown hg
  have hrow := RowB.made hown
  have hb0 : Below w.heap.size w w1 := (Below.refl _ _).grown hg (Nat.le_refl _) (fun k hk => by cases hk)
  clear hown hg
  go_wp2_with fail
  go_loopw [4] (fun i wr => ∃ (k : Nat) (L : List Bool), k ≤ xs.length ∧ i = .int .i64 k ∧ Hid (∀ j, j < k → L[j]? = xs[j]?) ∧ RowB wr w.heap.size w.heap.size xs.length xs.length L ∧ Below w.heap.size w wr) (fun i _ => xs.length - (intOf i).toNat)
  case atStart => exact ⟨0, _, Nat.zero_le _, rfl, fun j hj => by omega, hrow, hb0⟩
  case round =>
    obtain ⟨k, L, hk, rfl, HL, hown, hb⟩ := hrel
    clear hrow hb0
    by_cases hlt : k < xs.length
    · rcases hd with rfl | ⟨b, off, rfl, hb1, hb2, hb3, hcell⟩
      · simp at hlt
      have hck := hcell k hlt
      rw [← hb.cell (p := ⟨b, off + k, none⟩) (show b < w.heap.size by omega)] at hck
      have hd1 := hown.cell hlt
      have hf1 := hown.frozen k
      clear hcell
      go_wp2_with fail
      go_roundw
      case rel =>
        refine ⟨k + 1, _, by omega, by go_num, ?_, hown.stored k _, hb.setCell (Nat.le_refl _) _⟩
        intro j hj
        have hL := hown.length
        by_cases e : j = k
        · subst e; rw [List.getElem?_set_self (by omega)]; simp
        · rw [List.getElem?_set_ne (by omega)]; exact HL.out j (by omega)
      case measure => simp [intOf]; omega
    · go_wp2
      go_ret
      have hL := hown.length
      have e : L = xs := by
        apply List.ext_getElem?
        intro j
        by_cases hj : j < k
        · exact HL.out j hj
        · rw [List.getElem?_eq_none (by omega), List.getElem?_eq_none (by omega)]
      subst e
      exact ⟨_, rfl, hown.own hl hown.lt (Nat.le_refl _), hb⟩
set_option maxHeartbeats 400000 in
set_option maxRecDepth 100000 in
theorem eqBoolS_any {l h l' h' : Nat} (v u : Value) (xs ys : List Bool) (w : World) (hv : Bools w l h v xs) (hu : Bools w l' h' u ys) :
    Calls Try.prog 21 #[v, u] w fun e w' => e = .returned (.bool (decide (xs = ys))) ∧ Drew w w' := by
  obtain ⟨a, cap, rfl, hc1, hc2, hd⟩ := hv.out
  obtain ⟨a', cap', rfl, gc1, gc2, gd⟩ := hu.out
  by_cases hlen : xs.length = ys.length
  · have hne : ((xs.length : Int) != (ys.length : Int)) = false := by simp [hlen]
    have Hl := Lib.hid hlen
    clear hlen
    go_enter Try.func21, Try.ntmps21
    go_wp2_with fail
    go_loopw [5] (fun i wr => ∃ k : Nat, k ≤ xs.length ∧ i = .int .i64 k ∧ Hid (xs = ys ↔ xs.drop k = ys.drop k) ∧ Drew w wr) (fun i _ => xs.length - (intOf i).toNat)
    case atStart => exact ⟨0, Nat.zero_le _, rfl, Lib.hid (by simp), Drew.refl _⟩
    case round =>
      obtain ⟨k, hk, rfl, H, hD⟩ := hrel
      have hcw := hD.cell
      by_cases hlt : k < xs.length
      · have glt : k < ys.length := by rw [← Hl.out]; exact hlt
        have HD := Lib.hid (drop_cons xs k hlt)
        have GD := Lib.hid (drop_cons ys k glt)
        rcases hd with rfl | ⟨b, off, rfl, hb1, hb2, hb3, hcell⟩
        · simp at hlt
        rcases gd with rfl | ⟨b', off', rfl, gb1, gb2, gb3, gcell⟩
        · simp at glt
        have hck := hcell k hlt
        have gck := gcell k glt
        clear hcell gcell
        have gx : Hid (xs.getD k false = xs[k]) := by simp [Hid, List.getD, hlt]
        have gy : Hid (ys.getD k false = ys[k]) := by simp [Hid, List.getD, glt]
        cases hq : decide (xs[k] = ys[k])
        · have HN := Lib.hid (of_decide_eq_false hq)
          cases h1 : xs.getD k false <;> cases h2 : ys.getD k false
          case false.false => exact absurd (by rw [← gx.out, ← gy.out, h1, h2]) HN.out
          case true.true => exact absurd (by rw [← gx.out, ← gy.out, h1, h2]) HN.out
          all_goals
            rw [h1] at hck
            rw [h2] at gck
            clear hq
            go_wp2_with fail
            go_quiet (fail)
            go_wp2
            go_ret
            exact ⟨ret_bool (decide_eq_false (by rw [H.out, HD.out, GD.out, List.cons.injEq]; exact fun h => HN.out h.1)).symm, hD.step _⟩
        · have HN := Lib.hid (of_decide_eq_true hq)
          cases h1 : xs.getD k false <;> cases h2 : ys.getD k false
          case false.true => exact absurd HN.out (by rw [← gx.out, ← gy.out, h1, h2]; decide)
          case true.false => exact absurd HN.out (by rw [← gx.out, ← gy.out, h1, h2]; decide)
          all_goals
            rw [h1] at hck
            rw [h2] at gck
            clear hq
            go_wp2_with fail
            go_quiet (fail)
            go_wp2
            go_roundw
            case rel => exact ⟨k + 1, by omega, by go_num, Lib.hid (by rw [H.out, HD.out, GD.out, List.cons.injEq]; simp [HN.out]), hD.step _⟩
            case measure => simp [intOf]; omega
      · go_wp2
        go_ret
        exact ⟨ret_bool (decide_eq_true (by rw [H.out, drop_len _ _ (by omega), drop_len _ _ (by rw [← Hl.out]; omega)])).symm, hD⟩
  · have hne : ((xs.length : Int) != (ys.length : Int)) = true := by simp; omega
    have hxy : xs ≠ ys := fun e => hlen (by rw [e])
    go_enter Try.func21, Try.ntmps21
    go_wp2
    go_ret
    exact ⟨ret_bool (by simp [hxy]), Drew.refl _⟩
def markB (k : Int) : Bool := k % 3 == 0
def marksB (k : Int) (n : Nat) : List Bool := (List.range n).map fun (j : Nat) => markB (k + (j : Int))
theorem marksB_succ (k : Int) (n : Nat) : marksB k (n + 1) = marksB k n ++ [markB (k + (n : Int))] := by simp [marksB, List.range_succ]
theorem marksB_len (k : Int) (n : Nat) : (marksB k n).length = n := by simp [marksB]
theorem marksB_set (k : Int) (xs : List Bool) (j : Nat) (hj : j < xs.length) : (marksB k j ++ xs.drop j).set j (markB (k + (j : Int))) = marksB k (j + 1) ++ xs.drop (j + 1) := by
  rw [drop_cons xs j hj, List.set_append_right _ _ (by rw [marksB_len]; exact Nat.le_refl _), marksB_len, Nat.sub_self, List.set_cons_zero, marksB_succ]; simp
set_option maxHeartbeats 400000 in
set_option maxRecDepth 100000 in
theorem markBoolS_any {lo hi : Nat} (v : Value) (xs : List Bool) (k : Int) (w : World) (hv : OwnB w lo hi v xs) (h0 : 0 ≤ k) (h1 : k + xs.length ≤ 17592186043904) :
    Calls Try.prog 40 #[v, .int .i64 k] w fun e w' => e = .returned (.int .i64 (k + xs.length)) ∧ OwnB w' lo hi v (marksB k xs.length) ∧ Same lo hi w w' := by
  have hh := hv.own.hsz
  rcases hv.rowOf with ⟨rfl, rfl⟩ | ⟨g, cap, rfl, hg, hc1, hc2, hrow⟩
  · have hl0 : ¬ ((0 : Int) < (([] : List Bool).length : Int)) := by simp
    go_enter Try.func40, Try.ntmps40
    go_wp2_with fail
    refine wp_loop_rounds 1 ?_
    rw [rounds_succ]
    go_wp2
    go_ret
    exact ⟨ret_int (by simp), by simpa [marksB] using hv, Same.refl _ _ _⟩
  · have hown0 := Lib.hid hv
    have hge := hrow.ge
    go_enter Try.func40, Try.ntmps40
    go_wp2_with fail
    go_loopw [1, 5] (fun q i wr => ∃ j : Nat, j ≤ xs.length ∧ i = .int .i64 j ∧ q = .int .i64 (k + (j : Int)) ∧ RowB wr lo g xs.length cap (marksB k j ++ xs.drop j) ∧ Same lo hi w wr) (fun _ i _ => xs.length - (intOf i).toNat)
    case atStart => exact ⟨0, Nat.zero_le _, rfl, by simp, by simpa [marksB] using hrow, Same.refl _ _ _⟩
    case round =>
      obtain ⟨j, hj, rfl, rfl, hown, hs⟩ := hrel
      clear hrow
      by_cases hlt : j < xs.length
      · have hd1 := hown.cell hlt
        have hf1 := hown.frozen j
        go_wp2_with fail
        go_roundw
        case rel =>
          refine ⟨j + 1, by omega, by go_num, by first | go_num | (simp; omega), ?_, hs.setCell hge hg _⟩
          rw [← marksB_set k xs j hlt]
          exact hown.stored j _
        case measure => simp [intOf]; omega
      · go_wp2
        go_ret
        obtain rfl : j = xs.length := by omega
        rw [List.drop_length, List.append_nil] at hown
        have hsz := hs.size
        have hl := hown0.out.len
        have e := hown.own hl hg (show hi ≤ wr.heap.size by omega)
        have e2 : (marksB k xs.length).length = xs.length := marksB_len _ _
        exact ⟨rfl, e, hs⟩
set_option maxHeartbeats 400000 in
set_option maxRecDepth 100000 in
theorem heldBoolS_any {l h : Nat} (v : Value) (k : Int) (n : Nat) (w : World) (hv : Bools w l h v (marksB k n)) (h0 : 0 ≤ k) (h1 : k + n ≤ 17592186043904) :
    Calls Try.prog 41 #[v, .int .i64 k] w fun e w' => e = .returned (.int .i64 (k + n)) ∧ Drew w w' := by
  obtain ⟨a, cap, rfl, hc1, hc2, hd⟩ := hv.out
  rw [marksB_len] at *
  go_enter Try.func41, Try.ntmps41
  go_wp2_with fail
  go_loopw [1, 5] (fun q i wr => ∃ j : Nat, j ≤ n ∧ i = .int .i64 j ∧ q = .int .i64 (k + (j : Int)) ∧ Drew w wr) (fun _ i _ => n - (intOf i).toNat)
  case atStart => exact ⟨0, Nat.zero_le _, rfl, by simp, Drew.refl _⟩
  case round =>
    obtain ⟨j, hj, rfl, rfl, hD⟩ := hrel
    have hcw := hD.cell
    by_cases hlt : j < n
    · rcases hd with hd | ⟨b, off, rfl, hb1, hb2, hb3, hcell⟩
      · have := congrArg List.length hd; rw [marksB_len] at this; simp at this; omega
      have hck := hcell j hlt
      have he : (marksB k n).getD j false = markB (k + (j : Int)) := by simp [marksB, hlt]
      rw [he] at hck
      clear hcell he
      unfold markB at hck
      go_wp2
      go_roundw
      case rel => exact ⟨j + 1, by omega, by go_num, by first | go_num | (simp; omega), hD⟩
      case measure => simp [intOf]; omega
    · go_wp2
      go_ret
      obtain rfl : j = n := by omega
      exact ⟨rfl, hD⟩
end Go.Proofs.Ytdeelgnfnhdklaa
