/-
  Contract of PureIn in the program.
-/
import Derived.Test.YtmmpgnddaajbjaaPure
import Derived.Test.YtmmpgnddaajbjaaConcat
namespace Go.Proofs.Ytmmpgnddaajbjaa
open Go.RowKit
set_option linter.unusedVariables false

theorem hasI_append (a b : List Int) (x : Int) : hasI (a ++ b) x = (hasI a x || hasI b x) := by
  induction a with
  | nil => simp [hasI]
  | cons y r ih => rw [List.cons_append, hasI, hasI, ih, Bool.or_assoc]
theorem hasI_flat (cs : List (List Int)) (x : Int) : hasI cs.flatten x = hasAny cs x := by
  induction cs with
  | nil => rfl
  | cons a r ih => rw [List.flatten_cons, hasI_append, ih]; rfl
set_option maxHeartbeats 2000000 in
theorem implPureIn_any (w : World) {l h : Nat} (v : Value) (f : FormD) (hv : FormR w l h v f) (hh : h ≤ w.heap.size) (hz : SmallII f.clauses) :
    Calls Try.prog 41 #[v] w fun e w' => ∃ r, e = .returned (.tuple #[r, .bool (pureIn f).2]) ∧ OwnI w' w.heap.size w'.heap.size r (pureIn f).1 ∧ Below w.heap.size w w' := by
  obtain ⟨u, rfl, hu⟩ := hv.ex
  obtain ⟨W, hW⟩ : ∃ W, W = w.alloc (.cells #[.int .i64 f.letters, u] 27) := ⟨_, rfl⟩
  have hBW : Below w.heap.size w W := by rw [hW]; exact alloc_below _ _
  have hsW : W.heap.size = w.heap.size + 1 := by rw [hW]; simp
  have hbx : BoxF W w.heap.size f.letters u := by rw [hW]; exact BoxF.new _ _ _ _
  have HU := Lib.hid (hu.below hBW hh)
  have HF := Lib.hid (hv.below hBW hh)
  have HB := Lib.hid hbx
  have HZ := Lib.hid hz
  clear hbx hu hv
  go_enter Try.func41, Try.ntmps41
  go_wp2_with fail
  rw [← hW]
  clear hW
  refine (implValidForm_any W _ _ HF.out (by omega) hz).mono ?_
  rintro e w2 ⟨rfl, hb2⟩
  have hs2 := hb2.size
  have k0 := (HB.out.below hb2 HB.out.lt).c0
  have k1 := (HB.out.below hb2 HB.out.lt).c1
  cases hval : validForm f
  · have HE := Lib.hid (show pureIn f = ([], false) by simp [pureIn, hval])
    go_wp2
    go_ret2
    exact ⟨_, by rw [HE.out]; rfl, by rw [HE.out]; exact OwnI.nil _ _ _ (Nat.le_refl _), hBW.trans (hb2.mono hBW.size)⟩
  · obtain ⟨L, hL, hL1, hL2⟩ := lettersN hval
    have HE := Lib.hid (show pureIn f = (pureFrom f.clauses 1 L, true) by simp [pureIn, hval, hL])
    have hB2 := HB.out.below hb2 HB.out.lt
    rw [hL] at hB2 k0
    have HB2 := Lib.hid hB2
    clear hval hB2
    go_wp2_with fail
    refine (concat_any u f.clauses w2 (HU.out.below hb2 (by omega)) (by omega) HZ.out).mono ?_
    rintro e w3 ⟨al, rfl, hal, hb3⟩
    have hs3 := hb3.size
    have HA := Lib.hid hal
    have hB3 := HB2.out.below hb3 HB2.out.lt
    have HB3 := Lib.hid hB3
    generalize hall : f.clauses.flatten = all at hal
    have HALL := Lib.hid hall
    have HA2 := Lib.hid hal
    clear hal hall hB3
    go_wp2_with fail
    go_loopw [5, 6] (fun a i wr => ∃ (k : Nat) (out : List Int), 1 ≤ k ∧ k ≤ L + 1 ∧ i = .int .i64 k ∧ OwnI wr w3.heap.size wr.heap.size a out ∧ Hid (out ++ pureFrom f.clauses (k : Int) (L + 1 - k) = pureFrom f.clauses 1 L) ∧ out.length ≤ k ∧ Below w3.heap.size w3 wr) (fun _ i _ => L + 1 - (intOf i).toNat)
    case atStart => exact ⟨1, [], Nat.le_refl _, by omega, rfl, OwnI.nil _ _ _ (Nat.le_refl _), Lib.hid (by simp), by simp, Below.refl _ _⟩
    case round =>
      obtain ⟨k, out, hk1, hk, rfl, ho, H, hol, hb⟩ := hrel
      have hs4 := hb.size
      have HO := Lib.hid ho
      have c0 := (HB3.out.below hb HB3.out.lt).c0
      have HA3 := Lib.hid (HA2.out.below hb (Nat.le_refl _))
      clear ho
      by_cases hlt : k ≤ L
      · have HN : Hid (L + 1 - k = (L + 1 - (k + 1)) + 1) := by show L + 1 - k = _; omega
        have hkk : Hid (((k + 1 : Nat) : Int) = (k : Int) + 1) := by show ((k + 1 : Nat) : Int) = _; omega
        have HI1 : Hid (hasI all (k : Int) = hasAny f.clauses (k : Int)) := by rw [Hid, ← HALL.out, hasI_flat]
        have HI2 : Hid (hasI all (-(k : Int)) = hasAny f.clauses (-(k : Int))) := by rw [Hid, ← HALL.out, hasI_flat]
        cases h1 : hasI all (k : Int) <;> cases h2 : hasI all (-(k : Int))
        case true.true =>
          have HP := Lib.hid (pureOf_same (HI1.out.symm.trans h1) (HI2.out.symm.trans h2))
          go_wp2_with (go_at_call 83; refine (has_any _ _ _ _ HA3.out.rd).mono ?_; rintro e w' ⟨rfl, rfl⟩)
          go_roundw
          case rel => exact ⟨k + 1, out, by omega, by omega, by go_num, HO.out, Lib.hid (by rw [← H.out, HN.out, pureFrom, HP.out, List.nil_append, hkk.out]), by omega, hb⟩
          case measure => simp [intOf]; omega
        case false.false =>
          have HP := Lib.hid (pureOf_same (HI1.out.symm.trans h1) (HI2.out.symm.trans h2))
          go_wp2_with (go_at_call 83; refine (has_any _ _ _ _ HA3.out.rd).mono ?_; rintro e w' ⟨rfl, rfl⟩)
          go_roundw
          case rel => exact ⟨k + 1, out, by omega, by omega, by go_num, HO.out, Lib.hid (by rw [← H.out, HN.out, pureFrom, HP.out, List.nil_append, hkk.out]), by omega, hb⟩
          case measure => simp [intOf]; omega
        case true.false =>
          have HP := Lib.hid (pureOf_up (HI1.out.symm.trans h1) (HI2.out.symm.trans h2))
          go_wp2_with (first | (go_at_call 83; refine (has_any _ _ _ _ HA3.out.rd).mono ?_; rintro e w' ⟨rfl, rfl⟩) | (at_builtin; refine wpList_app1 rfl _ _ rfl _ out rfl (k : Int) _ HO.out rfl (by constructor <;> omega) (by omega) hs4 ?_))
          intro v2 w5 ho2 hsm hz3 _
          have HO2 := Lib.hid ho2
          clear ho2
          go_wp2
          go_roundw
          case rel => exact ⟨k + 1, out ++ [(k : Int)], by omega, by omega, by go_num, HO2.out, Lib.hid (by rw [← H.out, HN.out, pureFrom, HP.out, List.append_assoc, hkk.out]), by simp; omega, hb.trans (hsm.below (Nat.le_refl _) hs4)⟩
          case measure => simp [intOf]; omega
        case false.true =>
          have HP := Lib.hid (pureOf_down (HI1.out.symm.trans h1) (HI2.out.symm.trans h2))
          go_wp2_with (first | (go_at_call 83; refine (has_any _ _ _ _ HA3.out.rd).mono ?_; rintro e w' ⟨rfl, rfl⟩) | (at_builtin; refine wpList_app1 rfl _ _ rfl _ out rfl (-(k : Int)) _ HO.out rfl (by constructor <;> omega) (by omega) hs4 ?_))
          intro v2 w5 ho2 hsm hz3 _
          have HO2 := Lib.hid ho2
          clear ho2
          go_wp2
          go_roundw
          case rel => exact ⟨k + 1, out ++ [-(k : Int)], by omega, by omega, by go_num, HO2.out, Lib.hid (by rw [← H.out, HN.out, pureFrom, HP.out, List.append_assoc, hkk.out]), by simp; omega, hb.trans (hsm.below (Nat.le_refl _) hs4)⟩
          case measure => simp [intOf]; omega
      · obtain rfl : k = L + 1 := by omega
        go_wp2
        go_ret2
        refine ⟨_, by rw [HE.out]; rfl, ?_, hBW.trans ((hb2.trans ((hb3.trans (hb.mono hs3)).mono hs2)).mono hBW.size)⟩
        rw [HE.out, ← H.out, Nat.sub_self, pureFrom, List.append_nil]
        exact HO.out.mono (by omega) (Nat.le_refl _) (Nat.le_refl _)
end Go.Proofs.Ytmmpgnddaajbjaa
