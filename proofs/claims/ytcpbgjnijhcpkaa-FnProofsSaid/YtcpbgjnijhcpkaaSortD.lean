/-
  The library's insertion sort and stable sort of at most 19 integers of a range (written by wip/gen/sortd.py out of XSort).
-/
import Derived.Test.YtcpbgjnijhcpkaaLetter
namespace Go.Proofs.Ytcpbgjnijhcpkaa
open Go.RowKit
set_option linter.unusedVariables false
set_option maxRecDepth 100000

set_option maxHeartbeats 2000000 in
set_option maxRecDepth 100000 in
theorem insSortD_any (F : FuncId) (hF : ∀ args wx, (callFunc F args).run Try.prog wx = .ok (.enter F args) wx) (cap : Array Value) (cf : Int → Int → Int) {lo g cp n : Nat} {dl dh : Int} (A : List Int) (w : World) (hrow : RowI w lo g n cp A) (hA : Idx2 dl dh A) (hn : n ≤ 1048576) (hcp : n ≤ cp) (hcp2 : cp ≤ 9223372036854775807)
    (hcmp : ∀ wx, Same g (g + 1) w wx → ∀ a b, dl ≤ a → a < dh → dl ≤ b → b < dh → Calls Try.prog F (#[.int .i64 a, .int .i64 b] ++ cap) wx fun e w' => e = .returned (.int .i64 (cf a b)) ∧ Drew wx w') :
    Calls Try.prog 127 #[.slice (some ⟨g, 0, none⟩) n cp, .int .i64 0, .int .i64 n, .func (.func F) #[] cap] w fun e w' => e = .returned (.tuple #[]) ∧ RowI w' lo g n cp (insUp (ltOf cf) n A) ∧ Same g (g + 1) w w' := by
  have HC := Lib.hid hcmp
  have HROW := Lib.hid hrow
  have hAl := hrow.length
  clear hcmp hrow
  go_enter Try.func127, Try.ntmps127
  go_wp2_with fail
  go_loopw [8] (fun i wr => ∃ (k : Nat) (B : List Int), 1 ≤ k ∧ (k ≤ n ∨ n = 0) ∧ i = .int .i64 k ∧ RowI wr lo g n cp B ∧ Hid (B = insUp (ltOf cf) k A) ∧ Hid (Idx2 dl dh B) ∧ Same g (g + 1) w wr) (fun i _ => n - (intOf i).toNat)
  case atStart => exact ⟨1, A, Nat.le_refl _, by omega, rfl, HROW.out, Lib.hid rfl, Lib.hid hA, Same.refl _ _ _⟩
  case round =>
    obtain ⟨k, B, hk1, hk2, rfl, hr, HB, HI, hs⟩ := hrel
    have HR := Lib.hid hr
    have HS := Lib.hid hs
    clear hr hs
    by_cases hlt : k < n
    · obtain ⟨wu, hwu⟩ : ∃ wu : World, wu = wr := ⟨_, rfl⟩
      rw [← hwu] at HR HS
      rw [← hwu]
      clear hwu
      go_wp2_with fail
      go_loopw [9] (fun jv wr => ∃ (j : Nat) (C : List Int), j ≤ k ∧ jv = .int .i64 j ∧ RowI wr lo g n cp C ∧ Hid (sinkAt (ltOf cf) j C = insUp (ltOf cf) (k + 1) A) ∧ Hid (Idx2 dl dh C) ∧ Same g (g + 1) w wr) (fun jv _ => (intOf jv).toNat)
      case atStart => exact ⟨k, B, Nat.le_refl _, rfl, HR.out, Lib.hid (by rw [HB.out]; rfl), HI, HS.out⟩
      case round =>
        obtain ⟨j, C, hj, rfl, hr, HK, HI2, hs⟩ := hrel
        have HR2 := Lib.hid hr
        have HS2 := Lib.hid hs
        have hlt' : j < n := by omega
        have hCl := hr.length
        by_cases hj0 : 0 < j
        · obtain ⟨i, hi⟩ : ∃ i, j = i + 1 := ⟨j - 1, by omega⟩
          subst hi
          have hi1 : i < n := by omega
          have hcj := hr.cell hlt'
          have hci := hr.cell hi1
          have hfj := hr.frozen (i + 1)
          have hfi := hr.frozen i
          have hx := HI2.out _ (getD_mem (show i + 1 < C.length by omega))
          have hy := HI2.out _ (getD_mem (show i < C.length by omega))
          have HCC := Lib.hid (fun (wx : World) (hD : Drew wr wx) => HC.out wx (hs.trans ⟨by obtain ⟨m, rfl⟩ := hD; rfl, by obtain ⟨m, rfl⟩ := hD; rfl, by obtain ⟨m, rfl⟩ := hD; rfl, by rw [hD.heap]; exact Nat.le_refl _, fun _ _ _ => by rw [hD.heap]⟩) (C.getD (i + 1) 0) (C.getD i 0) hx.1 hx.2 hy.1 hy.2)
          have HSW : Hid (swapAt C i = (C.set (i + 1) (C.getD i 0)).set i (C.getD (i + 1) 0)) := rfl
          have hwr : IntKind.i64.wrap (((i + 1 : Nat) : Int) - 1) = (i : Int) := by rw [show ((i + 1 : Nat) : Int) - 1 = (i : Int) by omega]; exact IntWalk.i64_in _ (by omega)
          have hwr2 : IntKind.i64.wrap ((i : Int) + 1 - 1) = (i : Int) := by rw [show (i : Int) + 1 - 1 = (i : Int) by omega]; exact IntWalk.i64_in _ (by omega)
          have hin1 : (0 : Int) ≤ (i : Int) := by omega
          have hin2 : (i : Int) < (n : Int) := by omega
          have hin3 : (0 : Int) ≤ (i : Int) + 1 := by omega
          have hin4 : (i : Int) + 1 < (n : Int) := by omega
          have hin5 : ((i : Int) + 1).toNat = i + 1 := by omega
          have hgt : (0 : Int) < (i : Int) + 1 := by omega
          have Hx1 := Lib.hid (fun (W : World) (hR : RowI W lo g n cp C) (u : Int) => show (W.setCell ⟨g, i + 1, none⟩ (.int .i64 u)).cell? ⟨g, i, none⟩ = some (.int .i64 (C.getD i 0)) by
            have := (hR.stored (i + 1) u).cell hi1
            rw [this]; simp [List.getD])
          generalize hX : C.getD (i + 1) 0 = X at *
          generalize hY : C.getD i 0 = Y at *
          have HX := Lib.hid hX
          have HY := Lib.hid hY
          clear hr hs hx hy hX hY
          cases hc : decide (cf X Y < 0)
          · have HN : Hid (sinkAt (ltOf cf) (i + 1) C = C) := sinkAt_no (by rw [HX.out, HY.out]; exact hc)
            go_wp2_with fail
            go_quiet ((exact quiet_drew (HCC.out _ (Drew.one _ _))))
            go_wp2
            go_roundw
            case rel => exact ⟨k + 1, C, by omega, by omega, by go_num, HR2.out.drewN _, Lib.hid (by rw [← HK.out, HN.out]), HI2, (HS2.out.drewN _)⟩
            case measure => (simp [intOf]; try omega)
          · have HN : Hid (sinkAt (ltOf cf) (i + 1) C = sinkAt (ltOf cf) i (swapAt C i)) := sinkAt_yes (by rw [HX.out, HY.out]; exact hc)
            have HID : Hid (Idx2 dl dh (swapAt C i)) := swapAt_idx2 HI2.out (by omega)
            have hst1 : (wr.setCell ⟨g, i + 1, none⟩ (.int .i64 Y)).cell? ⟨g, i, none⟩ = some (.int .i64 Y) := Hx1.out wr HR2.out Y
            have hst2 : (wr.setCell ⟨g, i + 1, none⟩ (.int .i64 Y)).frozen? ⟨g, i, none⟩ = false := (HR2.out.stored (i + 1) Y).frozen i
            go_wp2_with fail
            go_quiet ((exact quiet_drew (HCC.out _ (Drew.one _ _))))
            go_wp2_with fail
            go_region
            all_goals
              go_wp2
              go_roundw
              case rel =>
                refine ⟨i, swapAt C i, by omega, by go_num, ?_, Lib.hid (by rw [← HK.out, HN.out]), HID.out, ?_⟩
                · rw [HSW.out]
                  exact ((HR2.out.stored (i + 1) Y).stored i X).drewN _
                · exact ((HS2.out.setCell (p := ⟨g, i + 1, none⟩) (Nat.le_refl _) (Nat.lt_succ_self _) _).setCell (p := ⟨g, i, none⟩) (Nat.le_refl _) (Nat.lt_succ_self _) _).drewN _
              case measure => (simp [intOf]; try omega)
        · obtain rfl : j = 0 := by omega
          have hgt : ¬ (0 : Int) < 0 := by omega
          go_wp2_with fail
          go_quiet (fail)
          go_wp2
          go_roundw
          case rel => exact ⟨k + 1, C, by omega, by omega, by go_num, HR2.out.drewN _, Lib.hid (by rw [← HK.out]; rfl), HI2, (HS2.out.drewN _)⟩
          case measure => (simp [intOf]; try omega)
    · go_wp2
      first | go_ret2 | go_end0
      refine ⟨rfl, ?_, HS.out⟩
      rcases Nat.eq_zero_or_pos n with h0 | h0
      · subst h0
        have e1 : B = [] := List.eq_nil_of_length_eq_zero HR.out.length
        have e2 : A = [] := List.eq_nil_of_length_eq_zero hAl
        have := HR.out
        rw [e1] at this
        rw [e2]; exact this
      · obtain rfl : k = n := by omega
        rw [← HB.out]; exact HR.out
set_option maxHeartbeats 1600000 in
set_option maxRecDepth 100000 in
theorem stableD_any (F : FuncId) (hF : ∀ args wx, (callFunc F args).run Try.prog wx = .ok (.enter F args) wx) (cap : Array Value) (cf : Int → Int → Int) {lo g cp n : Nat} {dl dh : Int} (A : List Int) (w : World) (hrow : RowI w lo g n cp A) (hA : Idx2 dl dh A) (hn : n ≤ 19) (hcp : n ≤ cp) (hcp2 : cp ≤ 9223372036854775807)
    (hcmp : ∀ wx, Same g (g + 1) w wx → ∀ a b, dl ≤ a → a < dh → dl ≤ b → b < dh → Calls Try.prog F (#[.int .i64 a, .int .i64 b] ++ cap) wx fun e w' => e = .returned (.int .i64 (cf a b)) ∧ Drew wx w') :
    Calls Try.prog 124 #[.slice (some ⟨g, 0, none⟩) n cp, .int .i64 n, .func (.func F) #[] cap] w fun e w' => e = .returned (.tuple #[]) ∧ RowI w' lo g n cp (insUp (ltOf cf) n A) ∧ Same g (g + 1) w w' := by
  have HC := Lib.hid (insSortD_any F hF cap cf A w hrow hA (by omega) hcp hcp2 hcmp)
  clear hcmp hrow
  go_enter Try.func124, Try.ntmps124
  go_wp2_with fail
  refine wp_loop_rounds 1 ?_
  rw [rounds_succ]
  go_wp2_with fail
  refine HC.out.mono ?_
  rintro e w2 ⟨rfl, hr, hs⟩
  go_wp2_with fail
  refine wp_loop_rounds 1 ?_
  rw [rounds_succ]
  go_wp2
  first | go_ret2 | go_end0
  exact ⟨rfl, hr, hs⟩
set_option maxHeartbeats 1600000 in
set_option maxRecDepth 100000 in
theorem sortStableD_any (F : FuncId) (hF : ∀ args wx, (callFunc F args).run Try.prog wx = .ok (.enter F args) wx) (cap : Array Value) (cf : Int → Int → Int) {lo g cp n : Nat} {dl dh : Int} (A : List Int) (w : World) (hrow : RowI w lo g n cp A) (hA : Idx2 dl dh A) (hn : n ≤ 19) (hcp : n ≤ cp) (hcp2 : cp ≤ 9223372036854775807)
    (hcmp : ∀ wx, Same g (g + 1) w wx → ∀ a b, dl ≤ a → a < dh → dl ≤ b → b < dh → Calls Try.prog F (#[.int .i64 a, .int .i64 b] ++ cap) wx fun e w' => e = .returned (.int .i64 (cf a b)) ∧ Drew wx w') :
    Calls Try.prog 111 #[.slice (some ⟨g, 0, none⟩) n cp, .func (.func F) #[] cap] w fun e w' => e = .returned (.tuple #[]) ∧ RowI w' lo g n cp (insUp (ltOf cf) n A) ∧ Same g (g + 1) w w' := by
  have HC := Lib.hid (stableD_any F hF cap cf A w hrow hA hn hcp hcp2 hcmp)
  clear hcmp hrow
  go_enter Try.func111, Try.ntmps111
  go_wp2_with fail
  refine HC.out.mono ?_
  rintro e w2 ⟨rfl, hr, hs⟩
  go_wp2
  first | go_ret2 | go_end0
  exact ⟨rfl, hr, hs⟩
set_option maxHeartbeats 800000 in
set_option maxRecDepth 100000 in
theorem insSortNil_any (F : FuncId) (cap : Array Value) (w : World) :
    Calls Try.prog 127 #[.slice none 0 0, .int .i64 0, .int .i64 0, .func (.func F) #[] cap] w fun e w' => e = .returned (.tuple #[]) ∧ w = w' := by
  go_enter Try.func127, Try.ntmps127
  go_wp2_with fail
  refine wp_loop_rounds 1 ?_
  rw [rounds_succ]
  go_wp2
  first | go_ret2 | go_end0
  exact ⟨rfl, rfl⟩
set_option maxHeartbeats 800000 in
set_option maxRecDepth 100000 in
theorem stableNil_any (F : FuncId) (cap : Array Value) (w : World) :
    Calls Try.prog 124 #[.slice none 0 0, .int .i64 0, .func (.func F) #[] cap] w fun e w' => e = .returned (.tuple #[]) ∧ w = w' := by
  have HC := Lib.hid (insSortNil_any F cap w)
  go_enter Try.func124, Try.ntmps124
  go_wp2_with fail
  refine wp_loop_rounds 1 ?_
  rw [rounds_succ]
  go_wp2_with fail
  refine HC.out.mono ?_
  rintro e w2 ⟨rfl, rfl⟩
  go_wp2_with fail
  refine wp_loop_rounds 1 ?_
  rw [rounds_succ]
  go_wp2
  first | go_ret2 | go_end0
  exact ⟨rfl, rfl⟩
set_option maxHeartbeats 800000 in
set_option maxRecDepth 100000 in
theorem sortStableNil_any (F : FuncId) (cap : Array Value) (w : World) :
    Calls Try.prog 111 #[.slice none 0 0, .func (.func F) #[] cap] w fun e w' => e = .returned (.tuple #[]) ∧ w = w' := by
  have HC := Lib.hid (stableNil_any F cap w)
  go_enter Try.func111, Try.ntmps111
  go_wp2_with fail
  refine HC.out.mono ?_
  rintro e w2 ⟨rfl, rfl⟩
  go_wp2
  first | go_ret2 | go_end0
  exact ⟨rfl, rfl⟩
end Go.Proofs.Ytcpbgjnijhcpkaa
