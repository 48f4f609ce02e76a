/-
  Are rows valid: impl.ValidRows.
-/
import Derived.Test.YtocngcpdpeflnaaIsRows
namespace Go.Proofs.Ytocngcpdpeflnaa
open Go.RowKit
set_option linter.unusedVariables false
set_option maxRecDepth 100000
set_option linter.unusedSimpArgs false

def notNeg (b : Nat) : Bool := !(FloatKind.f32.format.order b 0 == some .lt)
theorem all_okBy : ∀ bs : List Nat, bs.all okBy = (allFin bs && bs.all notNeg)
  | [] => rfl
  | b :: r => by
    rw [List.all_cons, List.all_cons, all_okBy r, allFin, okBy]
    show (finF b && notNeg b && _) = _
    cases finF b <;> cases notNeg b <;> cases allFin r <;> simp
set_option maxHeartbeats 2000000 in
set_option maxRecDepth 100000 in
theorem ValidRows_any {l h : Nat} (v : Value) (r : RowsD) (w : World) (hv : RowsR w l h v r) (hh : h ≤ w.heap.size) (hz : SmallR r) :
    Calls Try.prog 32 #[v] w fun e w' => e = .returned (.bool (okRows r)) ∧ Below w.heap.size w w' := by
  unfold SmallR at hz
  obtain ⟨a, b, c, rfl, ha0, hb0, hc0⟩ := hv.ex
  have hBW : Below w.heap.size w (w.alloc (.cells #[.int .i64 r.vars, a, b, c] 33)) := alloc_belowR _ _
  have ha := ha0.below hBW hh
  have hb := hb0.below hBW hh
  have hc := hc0.below hBW hh
  obtain ⟨W, hW⟩ : ∃ W, W = w.alloc (.cells #[.int .i64 r.vars, a, b, c] 33) := ⟨_, rfl⟩
  have hq : QuadC W w.heap.size 33 (.int .i64 r.vars) a b c := by rw [hW]; exact QuadC.new _ _ _ _ _ _
  rw [← hW] at hBW ha hb hc
  have HFB := Lib.hid (fun n => areFinite_any b r.bounds (W.drewN n) (hb.drewN n))
  have HFN := Lib.hid (fun n => areFinite_any a r.numbers (W.drewN n) (ha.drewN n))
  have HFG := Lib.hid (fun n => areFinite_any c r.gains (W.drewN n) (hc.drewN n))
  have HZ1 := Lib.hid (fun n => size_any r.numbers.length (by omega) (W.drewN n))
  have HZ2 := Lib.hid (fun n => size_any r.bounds.length (by omega) (W.drewN n))
  have HZ3 := Lib.hid (fun n => size_any r.gains.length (by omega) (W.drewN n))
  have HI := Lib.hid (fun n => within_any r.vars 1 8 (W.drewN n))
  have HJ := Lib.hid (fun n => within_any (r.bounds.length : Int) 1 8 (W.drewN n))
  obtain ⟨p1, c1, rfl⟩ := ha.shape
  obtain ⟨p3, c3, rfl⟩ := hc.shape
  obtain ⟨p2, c2, rfl, hb1, hb2, hbd⟩ := hb.out
  have k0 := hq.c0
  have k1 := hq.c1
  have k2 := hq.c2
  have k3 := hq.c3
  clear hq ha hb hc ha0 hb0 hc0 hv
  cases h1 : inB 1 8 r.vars
  case false =>
    have HR := Lib.hid (show okRows r = false by rw [okRows, h1]; rfl)
    rw [h1] at HI
    clear h1
    go_enter Try.func32, Try.ntmps32
    go_wp2_with fail
    rw [← hW]
    clear hW
    go_quiet ((first | (with_reducible exact quiet_same (HI.out _)) | (with_reducible exact quiet_same (HJ.out _)) | (with_reducible exact quiet_same (HZ1.out _)) | (with_reducible exact quiet_same (HZ2.out _)) | (with_reducible exact quiet_same (HZ3.out _))))
    go_wp2
    go_ret
    exact ⟨ret_bool HR.out.symm, hBW.trans ((Drew.one W _).below _)⟩
  have v12 := inB_true h1
  rw [h1] at HI
  cases h2 : inB 1 8 (r.bounds.length : Int)
  case false =>
    have HR := Lib.hid (show okRows r = false by rw [okRows, h2]; simp)
    rw [h2] at HJ
    clear h1 h2
    go_enter Try.func32, Try.ntmps32
    go_wp2_with fail
    rw [← hW]
    clear hW
    go_quiet ((first | (with_reducible exact quiet_same (HI.out _)) | (with_reducible exact quiet_same (HJ.out _)) | (with_reducible exact quiet_same (HZ1.out _)) | (with_reducible exact quiet_same (HZ2.out _)) | (with_reducible exact quiet_same (HZ3.out _))))
    go_wp2
    go_ret
    exact ⟨ret_bool HR.out.symm, hBW.trans ((Drew.one W _).below _)⟩
  have v34 := inB_true h2
  rw [h2] at HJ
  cases g3 : ((r.gains.length : Int) != r.vars)
  case true =>
    have HR := Lib.hid (show okRows r = false by rw [okRows, decide_eq_false (p := (r.gains.length : Int) = r.vars) (by simpa using g3)]; simp)
    clear h1 h2
    go_enter Try.func32, Try.ntmps32
    go_wp2_with fail
    rw [← hW]
    clear hW
    go_quiet ((first | (with_reducible exact quiet_same (HI.out _)) | (with_reducible exact quiet_same (HJ.out _)) | (with_reducible exact quiet_same (HZ1.out _)) | (with_reducible exact quiet_same (HZ2.out _)) | (with_reducible exact quiet_same (HZ3.out _))))
    go_wp2
    go_ret
    exact ⟨ret_bool HR.out.symm, hBW.trans ((Drew.one W _).below _)⟩
  have hw := wrapMul (n := r.bounds.length) v12.1 v12.2 (by omega)
  cases g4 : ((r.numbers.length : Int) != r.vars * (r.bounds.length : Int))
  case true =>
    have HR := Lib.hid (show okRows r = false by rw [okRows, decide_eq_false (p := (r.numbers.length : Int) = r.vars * (r.bounds.length : Int)) (by simpa using g4)]; simp)
    clear h1 h2
    go_enter Try.func32, Try.ntmps32
    go_wp2_with fail
    rw [← hW]
    clear hW
    go_quiet ((first | (with_reducible exact quiet_same (HI.out _)) | (with_reducible exact quiet_same (HJ.out _)) | (with_reducible exact quiet_same (HZ1.out _)) | (with_reducible exact quiet_same (HZ2.out _)) | (with_reducible exact quiet_same (HZ3.out _))))
    go_wp2
    go_ret
    exact ⟨ret_bool HR.out.symm, hBW.trans ((Drew.one W _).below _)⟩
  have HR := Lib.hid (show okRows r = (allFin r.numbers && allFin r.gains && (allFin r.bounds && r.bounds.all notNeg)) by
    rw [okRows, h1, h2, all_okBy, decide_eq_true (p := (r.gains.length : Int) = r.vars) (by simpa using g3), decide_eq_true (p := (r.numbers.length : Int) = r.vars * (r.bounds.length : Int)) (by simpa using g4)]; simp)
  clear h1 h2
  go_enter Try.func32, Try.ntmps32
  go_wp2_with fail
  rw [← hW]
  clear hW
  go_quiet ((first | (with_reducible exact quiet_same (HI.out _)) | (with_reducible exact quiet_same (HJ.out _)) | (with_reducible exact quiet_same (HZ1.out _)) | (with_reducible exact quiet_same (HZ2.out _)) | (with_reducible exact quiet_same (HZ3.out _))))
  go_wp2_with fail
  go_loopw [43] (fun i wr => ∃ k : Nat, k ≤ r.bounds.length ∧ i = .int .i64 k ∧ Hid ((r.bounds.drop k).all notNeg = r.bounds.all notNeg) ∧ ∃ m, wr = W.drewN m) (fun i _ => r.bounds.length - (intOf i).toNat)
  case atStart => exact ⟨0, Nat.zero_le _, rfl, Lib.hid (by simp), _, rfl⟩
  case round =>
    obtain ⟨k, hk, rfl, H, m, rfl⟩ := hrel
    by_cases hlt : k < r.bounds.length
    · have HD := Lib.hid (drop_cons r.bounds k hlt)
      rcases hbd with hbd | ⟨bk, off, rfl, hb1, hb2, hb3, hcell⟩
      · rw [hbd] at hlt; simp at hlt
      have hck := hcell k hlt
      clear hcell
      cases hf : (FloatKind.f32.format.order r.bounds[k] 0 == some .lt)
      case true =>
        go_wp2
        go_ret
        exact ⟨ret_bool (by rw [HR.out, ← H.out, HD.out, List.all_cons, notNeg, hf]; simp), hBW.trans ((Drew.one W _).below _)⟩
      · go_wp2
        go_roundw
        case rel => exact ⟨k + 1, by omega, by go_num, Lib.hid (by rw [← H.out, HD.out, List.all_cons, notNeg, hf]; rfl), m, rfl⟩
        case measure => simp [intOf]; omega
    · have HN := Lib.hid (show r.bounds.all notNeg = true by rw [← H.out, drop_len _ _ (by omega)]; rfl)
      rw [HN.out] at HR
      cases f1 : allFin r.bounds
      · rw [f1] at HFB
        have HR2 := Lib.hid (show okRows r = false by have := HR.out; rw [f1] at this; simpa using this)
        clear HR
        clear f1
        go_wp2_with fail
        refine (HFB.out m).mono ?_
        rintro e w' ⟨rfl, m1, rfl⟩
        go_wp2
        go_ret
        exact ⟨ret_bool HR2.out.symm, hBW.trans ((Drew.one W _).below _)⟩
      · rw [f1] at HFB
        cases f2 : allFin r.gains
        · rw [f2] at HFG
          have HR2 := Lib.hid (show okRows r = false by have := HR.out; rw [f1, f2] at this; simpa using this)
          clear HR
          clear f1 f2
          go_wp2_with fail
          refine (HFB.out m).mono ?_
          rintro e w' ⟨rfl, m1, rfl⟩
          go_wp2_with fail
          refine (HFG.out _).mono ?_
          rintro e w' ⟨rfl, m2, rfl⟩
          go_wp2
          go_ret
          exact ⟨ret_bool HR2.out.symm, hBW.trans ((Drew.one W _).below _)⟩
        · rw [f2] at HFG
          cases f3 : allFin r.numbers
          · rw [f3] at HFN
            have HR2 := Lib.hid (show okRows r = false by have := HR.out; rw [f1, f2, f3] at this; simpa using this)
            clear HR
            clear f1 f2 f3
            go_wp2_with fail
            refine (HFB.out m).mono ?_
            rintro e w' ⟨rfl, m1, rfl⟩
            go_wp2_with fail
            refine (HFG.out _).mono ?_
            rintro e w' ⟨rfl, m2, rfl⟩
            go_wp2_with fail
            refine (HFN.out _).mono ?_
            rintro e w' ⟨rfl, m3, rfl⟩
            go_wp2
            go_ret
            exact ⟨ret_bool HR2.out.symm, hBW.trans ((Drew.one W _).below _)⟩
          · rw [f3] at HFN
            have HR2 := Lib.hid (show okRows r = true by have := HR.out; rw [f1, f2, f3] at this; simpa using this)
            clear HR
            clear f1 f2 f3
            go_wp2_with fail
            refine (HFB.out m).mono ?_
            rintro e w' ⟨rfl, m1, rfl⟩
            go_wp2_with fail
            refine (HFG.out _).mono ?_
            rintro e w' ⟨rfl, m2, rfl⟩
            go_wp2_with fail
            refine (HFN.out _).mono ?_
            rintro e w' ⟨rfl, m3, rfl⟩
            go_wp2
            go_ret
            exact ⟨ret_bool HR2.out.symm, hBW.trans ((Drew.one W _).below _)⟩
end Go.Proofs.Ytocngcpdpeflnaa
