/-
  Are rows valid: spec.l02Is.
-/
import Derived.Test.YtocngcpdpeflnaaRowD
import Derived.Test.YtocngcpdpeflnaaFinI
import Derived.BigQuiet
namespace Go.Proofs.Ytocngcpdpeflnaa
open Go.RowKit
set_option linter.unusedVariables false
set_option maxRecDepth 100000

def okRows (r : RowsD) : Bool := inB 1 8 r.vars && inB 1 8 (r.bounds.length : Int) && decide ((r.gains.length : Int) = r.vars) && decide ((r.numbers.length : Int) = r.vars * (r.bounds.length : Int)) && allFin r.numbers && allFin r.gains && r.bounds.all okBy
theorem wrapMul {v : Int} {n : Nat} (h1 : 1 ≤ v) (h2 : v ≤ 8) (h3 : n ≤ 8) : IntKind.i64.wrap (v * (n : Int)) = v * (n : Int) := by
  have h4 : v * (n : Int) ≤ 8 * 8 := Int.mul_le_mul h2 (by omega) (by omega) (by omega)
  have h5 : 0 ≤ v * (n : Int) := Int.mul_nonneg (by omega) (by omega)
  exact IntWalk.i64_in _ (by omega)
theorem quiet2 {P : Program} {f : FuncId} {args : Array Value} {w : World} {k n : Nat} {v : Value}
    (h : Calls P f args (w.drewN (k + n)) fun e w' => e = .returned v ∧ Drew (w.drewN (k + n)) w') : Calls P f args (w.drewN (k + n)) fun e w'' => e = .returned v ∧ ∃ m, w'' = w.drewN (k + m) :=
  h.mono fun _ _ ⟨he, m, hm⟩ => ⟨he, n + m, by rw [hm, World.drewN_drewN, Nat.add_assoc]⟩
set_option maxHeartbeats 2000000 in
set_option maxRecDepth 100000 in
theorem l02Is_any {l h q : Nat} (r : RowsD) (a b c : Value) (w : World) (hq : QuadC w q 33 (.int .i64 r.vars) a b c) (ha : Flts w l h a r.numbers) (hb : Flts w l h b r.bounds) (hc : Flts w l h c r.gains) :
    Calls Try.prog 29 #[.pointer (some ⟨q, 0, none⟩)] w fun e w' => e = .returned (.bool (okRows r)) ∧ Drew w w' := by
  have HFN := Lib.hid (fun n => l02Finite_any a r.numbers (w.drewN n) (ha.drewN n))
  have HFG := Lib.hid (fun n => l02Finite_any c r.gains (w.drewN n) (hc.drewN n))
  obtain ⟨p1, c1, rfl⟩ := ha.shape
  obtain ⟨p3, c3, rfl⟩ := hc.shape
  obtain ⟨p2, c2, rfl, hb1, hb2, hbd⟩ := hb.out
  have k0 := hq.c0
  have k1 := hq.c1
  have k2 := hq.c2
  have k3 := hq.c3
  clear hq ha hb hc
  have HD1 : ∀ wx, Drew w wx → True := fun _ _ => trivial
  clear HD1
  cases h1 : inB 1 8 r.vars
  · have HR := Lib.hid (show okRows r = false by rw [okRows, h1]; rfl)
    have HI := Lib.hid (fun wx => l00In_any r.vars 1 8 wx)
    rw [h1] at HI
    clear h1
    go_enter Try.func29, Try.ntmps29
    go_wp2_with fail
    go_quiet ((go_at_call 30; exact quiet_same (HI.out _)))
    go_wp2
    go_ret
    exact ⟨ret_bool HR.out.symm, Drew.one w _⟩
  have HI := Lib.hid (fun wx => l00In_any r.vars 1 8 wx)
  rw [h1] at HI
  have v12 := inB_true h1
  by_cases h2 : 1 ≤ r.bounds.length
  case neg =>
    have HR := Lib.hid (show okRows r = false by rw [okRows, show inB 1 8 (r.bounds.length : Int) = false by rw [inB, decide_eq_false (p := 1 ≤ (r.bounds.length : Int)) (by omega)]; rfl]; simp)
    have g1 : decide ((r.bounds.length : Int) < 1) = true := decide_eq_true (by omega)
    clear h1
    go_enter Try.func29, Try.ntmps29
    go_wp2_with fail
    go_quiet ((go_at_call 30; exact quiet_same (HI.out _)))
    go_wp2
    go_ret
    exact ⟨ret_bool HR.out.symm, Drew.one w _⟩
  have g1 : decide ((r.bounds.length : Int) < 1) = false := decide_eq_false (by omega)
  by_cases h3 : r.bounds.length ≤ 8
  case neg =>
    have HR := Lib.hid (show okRows r = false by rw [okRows, show inB 1 8 (r.bounds.length : Int) = false by rw [inB, decide_eq_false (p := (r.bounds.length : Int) ≤ 8) (by omega)]; simp]; simp)
    have g2 : decide ((8 : Int) < (r.bounds.length : Int)) = true := decide_eq_true (by omega)
    clear h1
    go_enter Try.func29, Try.ntmps29
    go_wp2_with fail
    go_quiet ((go_at_call 30; exact quiet_same (HI.out _)))
    go_wp2
    go_ret
    exact ⟨ret_bool HR.out.symm, Drew.one w _⟩
  have g2 : decide ((8 : Int) < (r.bounds.length : Int)) = false := decide_eq_false (by omega)
  have hB8 : inB 1 8 (r.bounds.length : Int) = true := by rw [inB, decide_eq_true (by omega), decide_eq_true (by omega)]; rfl
  cases g3 : ((r.gains.length : Int) != r.vars)
  case true =>
    have HR := Lib.hid (show okRows r = false by rw [okRows, decide_eq_false (p := (r.gains.length : Int) = r.vars) (by simpa using g3)]; simp)
    clear h1 hB8
    go_enter Try.func29, Try.ntmps29
    go_wp2_with fail
    go_quiet ((go_at_call 30; exact quiet_same (HI.out _)))
    go_wp2
    go_ret
    exact ⟨ret_bool HR.out.symm, Drew.one w _⟩
  have hw := wrapMul v12.1 v12.2 h3
  cases g4 : ((r.numbers.length : Int) != r.vars * (r.bounds.length : Int))
  case true =>
    have HR := Lib.hid (show okRows r = false by rw [okRows, decide_eq_false (p := (r.numbers.length : Int) = r.vars * (r.bounds.length : Int)) (by simpa using g4)]; simp)
    clear h1 hB8
    go_enter Try.func29, Try.ntmps29
    go_wp2_with fail
    go_quiet ((go_at_call 30; exact quiet_same (HI.out _)))
    go_wp2_with fail
    go_quiet ((first | (with_reducible exact quiet2 (HFN.out _)) | (with_reducible exact quiet2 (HFG.out _))))
    go_wp2
    go_ret
    exact ⟨ret_bool HR.out.symm, (Drew.one w _).step _⟩
  cases h5 : allFin r.numbers
  case false =>
    have HR := Lib.hid (show okRows r = false by rw [okRows, h5]; simp)
    rw [h5] at HFN
    clear h1 hB8 h5
    go_enter Try.func29, Try.ntmps29
    go_wp2_with fail
    go_quiet ((go_at_call 30; exact quiet_same (HI.out _)))
    go_wp2_with fail
    go_quiet ((first | (with_reducible exact quiet2 (HFN.out _)) | (with_reducible exact quiet2 (HFG.out _))))
    go_wp2
    go_ret
    exact ⟨ret_bool HR.out.symm, (Drew.one w _).step _⟩
  cases h6 : allFin r.gains
  case false =>
    have HR := Lib.hid (show okRows r = false by rw [okRows, h6]; simp)
    rw [h5] at HFN
    rw [h6] at HFG
    clear h1 hB8 h5 h6
    go_enter Try.func29, Try.ntmps29
    go_wp2_with fail
    go_quiet ((go_at_call 30; exact quiet_same (HI.out _)))
    go_wp2_with fail
    go_quiet ((first | (with_reducible exact quiet2 (HFN.out _)) | (with_reducible exact quiet2 (HFG.out _))))
    go_wp2
    go_ret
    exact ⟨ret_bool HR.out.symm, (Drew.one w _).step _⟩
  have HR := Lib.hid (show okRows r = r.bounds.all okBy by
    rw [okRows, h1, hB8, h5, h6, decide_eq_true (p := (r.gains.length : Int) = r.vars) (by simpa using g3), decide_eq_true (p := (r.numbers.length : Int) = r.vars * (r.bounds.length : Int)) (by simpa using g4)]; simp)
  rw [h5] at HFN
  rw [h6] at HFG
  clear h1 hB8 h5 h6
  go_enter Try.func29, Try.ntmps29
  go_wp2_with fail
  go_quiet ((go_at_call 30; exact quiet_same (HI.out _)))
  go_wp2_with fail
  go_quiet ((first | (with_reducible exact quiet2 (HFN.out _)) | (with_reducible exact quiet2 (HFG.out _))))
  go_wp2_with fail
  go_loopw [3] (fun i wr => ∃ k : Nat, k ≤ r.bounds.length ∧ i = .int .i64 k ∧ Hid ((r.bounds.drop k).all okBy = r.bounds.all okBy) ∧ Drew w wr) (fun i _ => r.bounds.length - (intOf i).toNat)
  case atStart => exact ⟨0, Nat.zero_le _, rfl, Lib.hid (by simp), (Drew.one w _).step _⟩
  case round =>
    obtain ⟨k, hk, rfl, H, hD⟩ := hrel
    have hcw := hD.cell
    by_cases hlt : k < r.bounds.length
    · have HD := Lib.hid (drop_cons r.bounds k hlt)
      rcases hbd with hbd | ⟨b, off, rfl, hb1, hb2, hb3, hcell⟩
      · rw [hbd] at hlt; simp at hlt
      have hck := hcell k hlt
      clear hcell
      have HO := Lib.hid (fun wx => l02Least_any r.bounds[k] wx)
      cases hf : okBy r.bounds[k]
      all_goals
        rw [hf] at HO
        go_wp2_with (go_at_call 22; refine (HO.out _).mono ?_; rintro e w' ⟨rfl, m, rfl⟩)
      · go_ret
        exact ⟨ret_bool (by rw [HR.out, ← H.out, HD.out, List.all_cons, hf]; rfl), hD.step _⟩
      · go_roundw
        case rel => exact ⟨k + 1, by omega, by go_num, Lib.hid (by rw [← H.out, HD.out, List.all_cons, hf]; rfl), hD.step _⟩
        case measure => simp [intOf]; omega
    · go_wp2
      go_ret
      exact ⟨ret_bool (by rw [HR.out, ← H.out, drop_len _ _ (by omega)]; rfl), hD⟩
end Go.Proofs.Ytocngcpdpeflnaa
