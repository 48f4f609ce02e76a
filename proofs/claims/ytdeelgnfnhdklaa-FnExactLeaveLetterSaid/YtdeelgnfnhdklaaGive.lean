/-
  GiveForm: contracts in the reference and in the program.
-/
import Derived.Test.YtdeelgnfnhdklaaStep
import Derived.Test.YtdeelgnfnhdklaaTwo
import Derived.Test.YtdeelgnfnhdklaaPure
import Derived.Test.YtdeelgnfnhdklaaThin
namespace Go.Proofs.Ytdeelgnfnhdklaa
open Go.RowKit
set_option linter.unusedVariables false

def givGo (L : Int) : List Int → List Int → Bool
  | _, [] => true
  | pre, x :: r => isLit L x && (!hasI pre x && !hasI pre (-x)) && givGo L (pre ++ [x]) r
theorem absI_eq (x y : Int) : absI x = absI y ↔ x = y ∨ x = -y := by unfold absI; split <;> split <;> omega
theorem givGo_lits (L : Int) (zs pre seen : List Int) (h : ∀ y, y ∈ seen ↔ ∃ x ∈ pre, absI x = y) : givGo L pre zs = litsGo L seen zs := by
  induction zs generalizing pre seen with
  | nil => rfl
  | cons a r ih =>
    rw [givGo, litsGo, ih (pre ++ [a]) (absI a :: seen) (by
      intro y
      simp only [List.mem_cons, h, List.mem_append, List.not_mem_nil, or_false]
      constructor
      · rintro (rfl | ⟨x, hx, rfl⟩)
        · exact ⟨a, .inr rfl, rfl⟩
        · exact ⟨x, .inl hx, rfl⟩
      · rintro ⟨x, hx | rfl, rfl⟩
        · exact .inr ⟨x, hx, rfl⟩
        · exact .inl rfl)]
    congr 2
    rw [Bool.eq_iff_iff]
    simp only [Bool.and_eq_true, Bool.not_eq_true', hasI_false, List.contains_eq_mem, decide_eq_false_iff_not, h]
    constructor
    · rintro ⟨h1, h2⟩ ⟨x, hx, e⟩
      rcases (absI_eq x a).1 e with rfl | rfl
      · exact h1 hx
      · exact h2 hx
    · intro hn
      refine ⟨fun hx => hn ⟨a, hx, rfl⟩, fun hx => hn ⟨-a, hx, (absI_eq _ _).2 (.inr rfl)⟩⟩
theorem givGo_all (L : Int) (zs : List Int) : givGo L [] zs = litsGo L [] zs := givGo_lits L zs [] [] (by simp)
set_option maxHeartbeats 800000 in
set_option maxRecDepth 100000 in
theorem areGiven_any {l h : Nat} (L : Int) (v : Value) (zs : List Int) (w : World) (bL : 1 ≤ L ∧ L ≤ 10) (hv : Ints w l h v zs) (hz : zs.length ≤ 1048576) :
    Calls Try.prog 74 #[.int .i64 L, v] w fun e w' => e = .returned (.bool (litsGo L [] zs)) ∧ w = w' := by
  obtain ⟨a, cap, rfl, hc1, hc2, hd⟩ := hv.out
  have HV := Lib.hid hv
  have HG := Lib.hid (givGo_all L zs)
  clear hv
  go_enter Try.func74, Try.ntmps74
  go_wp2_with fail
  go_loop [9] (fun i => ∃ k : Nat, k ≤ zs.length ∧ i = .int .i64 k ∧ Hid (givGo L (zs.take k) (zs.drop k) = givGo L [] zs)) (fun i => zs.length - (intOf i).toNat)
  case atStart => exact ⟨0, Nat.zero_le _, rfl, Lib.hid rfl⟩
  case round =>
    obtain ⟨k, hk, rfl, H⟩ := hrel
    by_cases hlt : k < zs.length
    · have HD := Lib.hid (drop_cons zs k hlt)
      have HT := Lib.hid (show zs.take (k + 1) = zs.take k ++ [zs[k]] from List.take_succ_eq_append_getElem hlt)
      rcases hd with rfl | ⟨b, off, rfl, hb1, hb2, hb3, hcell⟩
      · simp at hlt
      have hck := hcell k hlt
      have HTK := Lib.hid (HV.out.take (k := k) (by omega))
      clear hcell
      cases hin : isLit L zs[k]
      · go_wp2_with (go_at_call 109; refine (isLiteral_any _ _ bL _).mono ?_; rintro e w' ⟨rfl, rfl⟩)
        go_ret
        exact ⟨ret_bool (by rw [← HG.out, ← H.out, HD.out, givGo, hin]; simp), rfl⟩
      · have hx := isLit_iff.1 hin
        have hx1 := hx.2.1
        have hx2 := hx.2.2
        have hx3 : -10 ≤ zs[k] := by omega
        have hx4 : zs[k] ≤ 10 := by omega
        clear hx
        cases h1 : hasI (zs.take k) zs[k] <;> cases h2 : hasI (zs.take k) (-zs[k])
        case false.false =>
          go_wp2_with (first | (go_at_call 109; refine (isLiteral_any _ _ bL _).mono ?_; rintro e w' ⟨rfl, rfl⟩) | (go_at_call 92; refine (has_any _ _ _ _ HTK.out).mono ?_; rintro e w' ⟨rfl, rfl⟩))
          go_round
          case rel => exact ⟨k + 1, by omega, by go_num, Lib.hid (by rw [← H.out, HD.out, givGo, hin, h1, h2, HT.out]; simp)⟩
          case measure => simp [intOf]; omega
        all_goals
          go_wp2_with (first | (go_at_call 109; refine (isLiteral_any _ _ bL _).mono ?_; rintro e w' ⟨rfl, rfl⟩) | (go_at_call 92; refine (has_any _ _ _ _ HTK.out).mono ?_; rintro e w' ⟨rfl, rfl⟩))
          go_ret
          exact ⟨ret_bool (by rw [← HG.out, ← H.out, HD.out, givGo, hin, h1, h2]; simp), rfl⟩
    · go_wp2
      go_ret
      exact ⟨ret_bool (by rw [← HG.out, ← H.out, drop_len _ _ (by omega), givGo]), rfl⟩
def giveRest (g c : List Int) : List Int := c.filter fun x => !hasI g (-x)
def giveDone (g c : List Int) : Bool := c.any (hasI g)
theorem giveRest_snoc (g c : List Int) (x : Int) : giveRest g (c ++ [x]) = giveRest g c ++ (if hasI g (-x) then [] else [x]) := by
  unfold giveRest; rw [List.filter_append]; cases h : hasI g (-x) <;> simp [h]
theorem giveDone_snoc (g c : List Int) (x : Int) : giveDone g (c ++ [x]) = (giveDone g c || hasI g x) := by simp [giveDone]
def giveTo (g : List Int) (cs : List (List Int)) (n : Nat) : List (List Int) := ((cs.take n).filter fun c => !giveDone g c).map (giveRest g)
theorem giveTo_no {g : List Int} {cs : List (List Int)} {n : Nat} (hn : n < cs.length) (h : giveDone g cs[n] = true) : giveTo g cs (n + 1) = giveTo g cs n := by
  unfold giveTo; rw [List.take_succ_eq_append_getElem hn, List.filter_append]; simp [h]
theorem giveTo_yes {g : List Int} {cs : List (List Int)} {n : Nat} (hn : n < cs.length) (h : giveDone g cs[n] = false) : giveTo g cs (n + 1) = giveTo g cs n ++ [giveRest g cs[n]] := by
  unfold giveTo; rw [List.take_succ_eq_append_getElem hn, List.filter_append]; simp [h]
theorem giveTo_len (g : List Int) (cs : List (List Int)) (n : Nat) : (giveTo g cs n).length ≤ n := by
  have h1 := List.length_filter_le (fun c => !giveDone g c) (cs.take n)
  have h2 := List.length_take_le n cs
  unfold giveTo; rw [List.length_map]; omega
theorem giveRest_len (g c : List Int) : (giveRest g c).length ≤ c.length := List.length_filter_le _ _
theorem giveTo_sum (g : List Int) (cs : List (List Int)) (n : Nat) (hn : n ≤ cs.length) : ((giveTo g cs n).map List.length).sum ≤ offs cs n := by
  induction n with
  | zero => simp [giveTo]
  | succ n ih =>
    have h1 := ih (by omega)
    have h2 := offs_succ cs n (by omega)
    have h3 := giveRest_len g (cs[n]'(by omega))
    cases h : giveDone g (cs[n]'(by omega))
    · rw [giveTo_yes (by omega) h, List.map_append, List.sum_append]; simp; omega
    · rw [giveTo_no (by omega) h]; omega
def giveForm (f : FormD) (g : List Int) : FormD × Bool := if validForm f && litsGo f.letters [] g then (⟨f.letters, giveTo g f.clauses f.clauses.length⟩, true) else (⟨0, []⟩, false)
end Go.Proofs.Ytdeelgnfnhdklaa
