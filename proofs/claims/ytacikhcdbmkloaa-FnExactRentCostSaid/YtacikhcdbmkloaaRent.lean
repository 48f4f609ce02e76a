/-
  Contracts of RentCost and PickAfter, in the reference and in the program.
-/
import Derived.Test.YtacikhcdbmkloaaNum
namespace Go.Proofs.Ytacikhcdbmkloaa
open Go.RowKit
set_option linter.unusedVariables false
def rentCost (d b l : Int) : Int × Bool :=
  if inB 0 100000 d && inB 0 100000 b && inB 0 100000 l then (if d ≤ l then (d, true) else (l + b, true)) else (0, false)

set_option maxHeartbeats 400000 in
theorem specRentCost_any (d b l : Int) (w : World) :
    Calls Try.prog 9 #[.int .i64 d, .int .i64 b, .int .i64 l] w fun e w' => e = .returned (.tuple #[.int .i64 (rentCost d b l).1, .bool (rentCost d b l).2]) ∧ w = w' := by
  by_cases h0 : d ≤ l <;> cases h1 : inB 0 100000 d <;> cases h2 : inB 0 100000 b <;> cases h3 : inB 0 100000 l
  all_goals
    try have b2 := inB_true h2
    try have b3 := inB_true h3
    go_enter Try.func9, Try.ntmps9
    go_wp2_with (go_at_call 33; refine (l00In_any _ _ _ _).mono ?_; rintro e w' ⟨rfl, rfl⟩)
    go_ret2
    exact ⟨ret_p (by first | (simp [rentCost, h0, h1, h2, h3]; done) | (have h0' : ¬ d ≤ l := (by omega); simp [rentCost, h0', h1, h2, h3])), rfl⟩

theorem rentList (d b l : Int) (h1 : I64 d) (h2 : I64 b) (h3 : I64 l) (w : World) :
    Ints (w.alloc (.cells #[.int .i64 d, .int .i64 b, .int .i64 l] 2)) w.heap.size (w.heap.size + 1) (.slice (some ⟨w.heap.size, 0, none⟩) 3 3) [d, b, l] := by
  refine ⟨⟨_, 3, rfl, by simp, by omega, .inr ⟨w.heap.size, 0, rfl, Nat.le_refl _, by omega, by simp, ?_⟩⟩, by simp [h1, h2, h3]⟩
  intro i hi
  rw [World.cell?_alloc_at _ _ _ _ rfl]
  match i, hi with
  | 0, _ => rfl
  | 1, _ => rfl
  | 2, _ => rfl

set_option maxHeartbeats 400000 in
theorem implRentCost_any (d b l : Int) (k1 : I64 d) (k2 : I64 b) (k3 : I64 l) (w : World) :
    Calls Try.prog 10 #[.int .i64 d, .int .i64 b, .int .i64 l] w fun e w' => e = .returned (.tuple #[.int .i64 (rentCost d b l).1, .bool (rentCost d b l).2]) ∧ Below w.heap.size w w' := by
  have hI := rentList d b l k1 k2 k3 w
  cases h1 : [d, b, l].all (inB 0 100000)
  · have e : rentCost d b l = (0, false) := by simp only [List.all_cons, List.all_nil, Bool.and_true] at h1; simp only [rentCost, Bool.and_assoc, h1, if_false, Bool.false_eq_true]
    have HE := Lib.hid e
    clear e
    go_enter Try.func10, Try.ntmps10
    go_wp2_with (go_at_call 34; refine (allWithin_any _ _ _ _ _ _ _ hI).mono ?_; rintro e w' ⟨rfl, rfl⟩)
    go_ret2
    exact ⟨ret_p HE.out, (Below.refl _ _).alloc (Nat.le_refl _) _⟩
  · have h1' := h1
    simp only [List.all_cons, List.all_nil, Bool.and_true, Bool.and_eq_true] at h1'
    have b2 := inB_true h1'.2.1
    have b3 := inB_true h1'.2.2
    have e : rentCost d b l = if d ≤ l then (d, true) else (l + b, true) := by simp [rentCost, h1'.1, h1'.2.1, h1'.2.2]
    have HE := Lib.hid e
    clear e h1'
    by_cases h0 : d ≤ l
    all_goals
      go_enter Try.func10, Try.ntmps10
      go_wp2_with (go_at_call 34; refine (allWithin_any _ _ _ _ _ _ _ hI).mono ?_; rintro e w' ⟨rfl, rfl⟩)
      go_ret2
      exact ⟨ret_p (HE.out.trans (by first | exact if_pos h0 | exact if_neg (by omega))), (Below.refl _ _).alloc (Nat.le_refl _) _⟩
def pickFrom (pre : List Int) : List Int → Int → Int
  | [], i => i - 1
  | x :: r, i => if pre.all (fun y => decide (y < x)) then i else pickFrom pre r (i + 1)
def pickAfter (zs : List Int) (look : Int) : Int × Bool :=
  if inB 1 64 zs.length && inB 0 ((zs.length : Int) - 1) look then (pickFrom (zs.take look.toNat) (zs.drop look.toNat) look, true) else (0, false)

set_option maxHeartbeats 400000 in
theorem implPickAfter_any (w : World) {l h : Nat} (v : Value) (zs : List Int) (look : Int) (hv : Ints w l h v zs) (hh : h ≤ w.heap.size) (hz0 : zs.length ≤ 1048576) (k2 : I64 look) :
    Calls Try.prog 13 #[v, .int .i64 look] w fun e w' => e = .returned (.tuple #[.int .i64 (pickAfter zs look).1, .bool (pickAfter zs look).2]) ∧ Below w.heap.size w w' := by
  have hz : zs.length ≤ 17592186043904 := by omega
  obtain ⟨a, cap, rfl, hc1, hc2, hd⟩ := hv.out
  cases h1 : inB 1 64 zs.length <;> cases h2 : inB 0 ((zs.length : Int) - 1) look
  case true.true =>
    have b1 := inB_true h1
    have b2 := inB_true h2
    obtain ⟨L, rfl⟩ := Int.eq_ofNat_of_zero_le b2.1
    have hL : L < zs.length := by omega
    have HE := Lib.hid (show pickAfter zs L = (pickFrom (zs.take L) (zs.drop L) L, true) by simp only [pickAfter, h1, h2, Bool.and_true, if_true, Int.toNat_natCast])
    rcases hd with rfl | ⟨b, off, rfl, hb1, hb2, hb3, hcell⟩
    · simp at hL
    have hT := Ints.take hv (show L ≤ zs.length by omega)
    have hTl : (zs.take L).length = L := by rw [List.length_take]; omega
    have hLc : L ≤ cap := by omega
    have Hc := Lib.hid hcell
    clear hcell
    have HT := Lib.hid hTl
    clear hTl
    go_enter Try.func13, Try.ntmps13
    go_wp2_with (first | (go_at_call 36; refine (size_any _ hz _).mono ?_; rintro e w' ⟨rfl, rfl⟩) | (go_at_call 35; refine (within_any _ _ _ _).mono ?_; rintro e w' ⟨rfl, rfl⟩) | (go_at_call 37; refine (isIndex_any _ _ hz _).mono ?_; rintro e w' ⟨rfl, rfl⟩))
    go_loopw [6] (fun i wr => ∃ k : Nat, L ≤ k ∧ k ≤ zs.length ∧ i = .int .i64 k ∧ Hid (pickFrom (zs.take L) (zs.drop k) k = pickFrom (zs.take L) (zs.drop L) L) ∧ Drew w wr) (fun i _ => zs.length - (intOf i).toNat)
    case atStart => exact ⟨L, Nat.le_refl _, by omega, rfl, Lib.hid rfl, Drew.refl _⟩
    case round =>
      obtain ⟨k, hk1, hk2, rfl, H, hD⟩ := hrel
      have hcw := hD.cell
      by_cases hlt : k < zs.length
      · have HD := Lib.hid (drop_cons zs k hlt)
        have hck := Hc.out k hlt
        by_cases hz0 : (L : Int) = 0
        · have HP := Lib.hid (show (zs.take L).all (fun y => decide (y < zs[k])) = true by rw [show L = 0 by omega]; simp)
          have hq : ((L : Int) == 0) = true := by simp [hz0]
          clear hz0
          go_wp2_with (go_at_call 36; refine (size_any _ hz _).mono ?_; rintro e w' ⟨rfl, rfl⟩)
          go_quiet (fail)
          go_wp2
          go_ret2
          exact ⟨ret_p (by rw [HE.out, ← H.out, HD.out, pickFrom, if_pos HP.out]), (Drew.below (by first | exact hD.step _ | exact hD) _)⟩
        · have hq : ((L : Int) == 0) = false := by simp; omega
          have hne : zs.take L ≠ [] := fun e => by have := HT.out; rw [e] at this; simp at this; omega
          have hTs : 0 < (zs.take L).length := by rw [HT.out]; omega
          cases hp : decide (maxL (zs.take L) < zs[k])
          all_goals
            have HP := Lib.hid (show (zs.take L).all (fun y => decide (y < zs[k])) = decide (maxL (zs.take L) < zs[k]) by rw [Bool.eq_iff_iff]; simp only [decide_eq_true_eq, List.all_eq_true]; exact (maxL_lt _ hne _).symm)
            have HP' := Lib.hid (HP.out.trans hp)
            go_wp2_with (go_at_call 36; refine (size_any _ hz _).mono ?_; rintro e w' ⟨rfl, rfl⟩)
            go_quiet ((go_at_call 38; exact quiet_same (slicesMax_any _ _ _ _ _ ((hT.drew hD).drewN _) hTs)))
            go_wp2
          · go_roundw
            case rel => exact ⟨k + 1, by omega, by omega, by go_num, Lib.hid (by rw [← H.out, HD.out, pickFrom, if_neg (by rw [HP'.out]; simp)]; rfl), (by first | exact hD.step _ | exact hD)⟩
            case measure => simp [intOf]; omega
          · go_ret2
            exact ⟨ret_p (by rw [HE.out, ← H.out, HD.out, pickFrom, if_pos HP'.out]), (Drew.below (by first | exact hD.step _ | exact hD) _)⟩
      · go_wp2_with (go_at_call 36; refine (size_any _ hz _).mono ?_; rintro e w' ⟨rfl, rfl⟩)
        go_ret2
        exact ⟨ret_p (by rw [HE.out, ← H.out, drop_len _ _ (by omega), pickFrom]; simp; omega), (Drew.below (by first | exact hD.step _ | exact hD) _)⟩
  all_goals
    have HE := Lib.hid (show pickAfter zs look = (0, false) by simp [pickAfter, h1, h2])
    go_enter Try.func13, Try.ntmps13
    go_wp2_with (first | (go_at_call 36; refine (size_any _ hz _).mono ?_; rintro e w' ⟨rfl, rfl⟩) | (go_at_call 35; refine (within_any _ _ _ _).mono ?_; rintro e w' ⟨rfl, rfl⟩) | (go_at_call 37; refine (isIndex_any _ _ hz _).mono ?_; rintro e w' ⟨rfl, rfl⟩))
    go_ret2
    exact ⟨ret_p HE.out, Below.refl _ _⟩

set_option maxHeartbeats 800000 in
theorem specPickAfter_any (w : World) {l h : Nat} (v : Value) (zs : List Int) (look : Int) (hv : Ints w l h v zs) (hh : h ≤ w.heap.size) (hz0 : zs.length ≤ 1048576) (k2 : I64 look) :
    Calls Try.prog 11 #[v, .int .i64 look] w fun e w' => e = .returned (.tuple #[.int .i64 (pickAfter zs look).1, .bool (pickAfter zs look).2]) ∧ Below w.heap.size w w' := by
  have hz : zs.length ≤ 17592186043904 := by omega
  obtain ⟨a, cap, rfl, hc1, hc2, hd⟩ := hv.out
  cases h1 : inB 1 64 zs.length
  case false =>
    have b1 := inB_false h1
    have HE := Lib.hid (show pickAfter zs look = (0, false) by simp [pickAfter, h1])
    by_cases h0 : zs.length < 1
    all_goals
      go_enter Try.func11, Try.ntmps11
      go_wp2
      go_ret2
      exact ⟨ret_p HE.out, Below.refl _ _⟩
  have b1 := inB_true h1
  cases h2 : inB 0 ((zs.length : Int) - 1) look
  case false =>
    have HE := Lib.hid (show pickAfter zs look = (0, false) by simp [pickAfter, h1, h2])
    go_enter Try.func11, Try.ntmps11
    go_wp2_with (go_at_call 33; refine (l00In_any _ _ _ _).mono ?_; rintro e w' ⟨rfl, rfl⟩)
    go_ret2
    exact ⟨ret_p HE.out, Below.refl _ _⟩
  have b2 := inB_true h2
  obtain ⟨L, rfl⟩ := Int.eq_ofNat_of_zero_le b2.1
  have hL : L < zs.length := by omega
  have HE := Lib.hid (show pickAfter zs L = (pickFrom (zs.take L) (zs.drop L) L, true) by simp only [pickAfter, h1, h2, Bool.and_true, if_true, Int.toNat_natCast])
  rcases hd with rfl | ⟨b, off, rfl, hb1, hb2, hb3, hcell⟩
  · simp at hL
  have Hc := Lib.hid hcell
  clear hcell
  go_enter Try.func11, Try.ntmps11
  go_wp2_with (go_at_call 33; refine (l00In_any _ _ _ _).mono ?_; rintro e w' ⟨rfl, rfl⟩)
  go_loopw [7] (fun i wr => ∃ k : Nat, L ≤ k ∧ k ≤ zs.length ∧ i = .int .i64 k ∧ Hid (pickFrom (zs.take L) (zs.drop k) k = pickFrom (zs.take L) (zs.drop L) L) ∧ Drew w wr) (fun i _ => zs.length - (intOf i).toNat)
  case atStart => exact ⟨L, Nat.le_refl _, by omega, rfl, Lib.hid rfl, Drew.refl _⟩
  case round =>
    obtain ⟨k, hk1, hk2, rfl, H, hD⟩ := hrel
    have hcw := hD.cell
    by_cases hlt : k < zs.length
    · have HD := Lib.hid (drop_cons zs k hlt)
      have hck := Hc.out k hlt
      go_wp2_with fail
      go_loopw [8, 9] (fun g j wr => ∃ (m : Nat) (t : Bool), m ≤ L ∧ j = .int .i64 m ∧ g = .bool t ∧ Hid (t = (zs.take m).all (fun y => decide (y < zs[k]))) ∧ Drew w wr) (fun _ j _ => L - (intOf j).toNat)
      case atStart => exact ⟨0, true, Nat.zero_le _, rfl, rfl, Lib.hid (by simp), hD⟩
      case round =>
        obtain ⟨m, t, hm, rfl, rfl, HM, hD'⟩ := hrel
        clear hcw hD
        have hcw := hD'.cell
        by_cases hml : m < L
        · have hmz : m < zs.length := by omega
          have hcm := Hc.out m hmz
          have HS := Lib.hid (show (zs.take (m + 1)).all (fun y => decide (y < zs[k])) = ((zs.take m).all (fun y => decide (y < zs[k])) && decide (zs[m]'(by omega) < zs[k])) by
            rw [List.take_succ_eq_append_getElem (by omega), List.all_append]; simp)
          cases t
          all_goals
            go_wp2_with fail
            go_quiet (fail)
            go_wp2
            go_roundw
            case rel => exact ⟨m + 1, _, by omega, by go_num, rfl, Lib.hid (by rw [HS.out, ← HM.out]; simp), (by first | exact hD'.step _ | exact hD')⟩
            case measure => simp [intOf]; omega
        · have HM' := Lib.hid (show t = (zs.take L).all (fun y => decide (y < zs[k])) by rw [HM.out, show m = L by omega])
          cases t
          · go_wp2
            go_roundw
            case rel => exact ⟨k + 1, by omega, by omega, by go_num, Lib.hid (by rw [← H.out, HD.out, pickFrom, if_neg (by rw [← HM'.out]; simp)]; rfl), (by first | exact hD'.step _ | exact hD')⟩
            case measure => simp [intOf]; omega
          · go_wp2
            go_ret2
            exact ⟨ret_p (by rw [HE.out, ← H.out, HD.out, pickFrom, if_pos HM'.out.symm]), (Drew.below (by first | exact hD'.step _ | exact hD') _)⟩
    · go_wp2
      go_ret2
      exact ⟨ret_p (by rw [HE.out, ← H.out, drop_len _ _ (by omega), pickFrom]; simp; omega), (Drew.below (by first | exact hD.step _ | exact hD) _)⟩
end Go.Proofs.Ytacikhcdbmkloaa
