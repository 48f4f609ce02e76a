/-
  TwoStages: contracts in the reference and in the program.
-/
import Derived.Test.YtcodlhogpmhdlaaSort
import Derived.Test.YtcodlhogpmhdlaaDue
namespace Go.Proofs.Ytcodlhogpmhdlaa
open Go.RowKit
set_option linter.unusedVariables false
set_option maxRecDepth 100000

def okLongs (xs : List Int) : Bool := xs.all (inB 1 1000) && inB 1 12 (xs.length : Int)
def twoOk (fs ss : List Int) : Bool := okLongs fs && (okLongs ss && decide (fs.length = ss.length))
def stageKey (fs ss : List Int) (i : Nat) : Int := if fs.getD i 0 ≤ ss.getD i 0 then fs.getD i 0 else 10000 - ss.getD i 0
def stageKeys (fs ss : List Int) (n : Nat) : List Int := (List.range n).map (stageKey fs ss)
theorem stageKeys_succ (fs ss : List Int) (n : Nat) : stageKeys fs ss (n + 1) = stageKeys fs ss n ++ [stageKey fs ss n] := by simp [stageKeys, List.range_succ]
theorem stageKeys_len (fs ss : List Int) (n : Nat) : (stageKeys fs ss n).length = n := by simp [stageKeys]
theorem stageKeys_getD (fs ss : List Int) (n i : Nat) (h : i < n) : (stageKeys fs ss n).getD i 0 = stageKey fs ss i := by simp [stageKeys, List.getD, h]
def stageCmp (fs ss : List Int) (a b : Int) : Int :=
  if fs.getD a.toNat 0 ≤ ss.getD a.toNat 0 then
    if fs.getD b.toNat 0 ≤ ss.getD b.toNat 0 then cmpI (fs.getD a.toNat 0) (fs.getD b.toNat 0) else -1
  else if fs.getD b.toNat 0 ≤ ss.getD b.toNat 0 then 1 else cmpI (ss.getD b.toNat 0) (ss.getD a.toNat 0)
theorem okLongs_out {xs : List Int} (h : okLongs xs = true) : (∀ x ∈ xs, 1 ≤ x ∧ x ≤ 1000) ∧ 0 < xs.length ∧ xs.length ≤ 12 := by
  simp only [okLongs, Bool.and_eq_true, List.all_eq_true] at h
  have := inB_true h.2
  exact ⟨fun x hx => inB_true (h.1 x hx), by omega, by omega⟩
theorem stage_lt {fs ss : List Int} (h1 : ∀ x ∈ fs, 1 ≤ x ∧ x ≤ 1000) (h2 : ∀ x ∈ ss, 1 ≤ x ∧ x ≤ 1000) (hl : fs.length = ss.length) (x y : Int) (hx : 0 ≤ x) (hx2 : x < (fs.length : Int)) (hy : 0 ≤ y) (hy2 : y < (fs.length : Int)) :
    ltOf (stageCmp fs ss) x y = keyLt (stageKeys fs ss fs.length) x y := by
  have a1 := h1 _ (getD_mem (show x.toNat < fs.length by omega))
  have a2 := h2 _ (getD_mem (show x.toNat < ss.length by omega))
  have b1 := h1 _ (getD_mem (show y.toNat < fs.length by omega))
  have b2 := h2 _ (getD_mem (show y.toNat < ss.length by omega))
  unfold ltOf stageCmp keyLt
  rw [stageKeys_getD _ _ _ _ (show x.toNat < fs.length by omega), stageKeys_getD _ _ _ _ (show y.toNat < fs.length by omega)]
  unfold stageKey
  generalize fs.getD x.toNat 0 = fx at *
  generalize fs.getD y.toNat 0 = fy at *
  generalize ss.getD x.toNat 0 = sx at *
  generalize ss.getD y.toNat 0 = sy at *
  by_cases c1 : fx ≤ sx <;> by_cases c2 : fy ≤ sy <;> simp only [c1, c2, if_true, if_false]
  · exact cmpI_lt _ _
  · simp; omega
  · simp; omega
  · rw [cmpI_lt]; simp
def stageGo (fs ss : List Int) : List Int → Int → Int → Int
  | [], _, two => two
  | i :: r, one, two => stageGo fs ss r (one + fs.getD i.toNat 0) (max (one + fs.getD i.toNat 0) two + ss.getD i.toNat 0)
def stageL (fs ss : List Int) : List Int := ordTo (keyLt (stageKeys fs ss fs.length)) fs.length
def twoStages (fs ss : List Int) : List Int × Int × Bool := if twoOk fs ss then (stageL fs ss, stageGo fs ss (stageL fs ss) 0 0, true) else ([], 0, false)
set_option maxHeartbeats 400000 in
set_option maxRecDepth 100000 in
theorem l04Sizes_any {l h : Nat} (v : Value) (zs : List Int) (w : World) (hv : Ints w l h v zs) :
    Calls Try.prog 134 #[v] w fun e w' => e = .returned (.bool (zs.all (inB 1 1000) && inB 1 16 (zs.length : Int))) ∧ w = w' := by
  obtain ⟨a, cap, rfl, hc1, hc2, hd⟩ := hv.out
  go_enter Try.func134, Try.ntmps134
  go_wp2_with fail
  go_loop [3] (fun i => ∃ k : Nat, k ≤ zs.length ∧ i = .int .i64 k ∧ Hid ((zs.drop k).all (inB 1 1000) = zs.all (inB 1 1000))) (fun i => zs.length - (intOf i).toNat)
  case atStart => exact ⟨0, Nat.zero_le _, rfl, Lib.hid (by simp)⟩
  case round =>
    obtain ⟨k, hk, rfl, H⟩ := hrel
    by_cases hlt : k < zs.length
    · have HD := Lib.hid (drop_cons zs k hlt)
      rcases hd with rfl | ⟨b, off, rfl, hb1, hb2, hb3, hcell⟩
      · simp at hlt
      have hck := hcell k hlt
      clear hcell
      cases hin : inB 1 1000 zs[k]
      · go_wp2_with (go_at_call 116; refine (l00In_any _ _ _ _).mono ?_; rintro e w' ⟨rfl, rfl⟩)
        go_ret
        exact ⟨ret_bool (by rw [← H.out, HD.out, List.all_cons, hin, Bool.false_and, Bool.false_and]), rfl⟩
      · go_wp2_with (go_at_call 116; refine (l00In_any _ _ _ _).mono ?_; rintro e w' ⟨rfl, rfl⟩)
        go_round
        case rel => exact ⟨k + 1, by omega, by go_num, Lib.hid (by rw [← H.out, HD.out, List.all_cons, hin, Bool.true_and])⟩
        case measure => simp [intOf]; omega
    · have HA : Hid (zs.all (inB 1 1000) = true) := by rw [Hid, ← H.out, drop_len _ _ (by omega), List.all_nil]
      by_cases h1 : 1 ≤ zs.length
      · have h1i : (1 : Int) ≤ (zs.length : Int) := by omega
        by_cases h2 : zs.length ≤ 16
        · go_wp2
          go_ret
          exact ⟨ret_bool (by rw [HA.out]; simp [inB]; omega), rfl⟩
        · go_wp2
          go_ret
          exact ⟨ret_bool (by rw [HA.out]; simp [inB]; omega), rfl⟩
      · have h1i : ¬ (1 : Int) ≤ (zs.length : Int) := by omega
        go_wp2
        go_ret
        exact ⟨ret_bool (by rw [HA.out]; simp [inB]; omega), rfl⟩
end Go.Proofs.Ytcodlhogpmhdlaa
