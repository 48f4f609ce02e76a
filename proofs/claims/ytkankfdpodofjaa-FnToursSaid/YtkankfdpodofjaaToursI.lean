/-
  TourLong, NearTour, SwapTour, MoveTour, ToursShared: contracts in the program, where ways are ways and tours are tours.
-/
import Derived.Test.YtkankfdpodofjaaNearI
import Derived.Test.YtkankfdpodofjaaSwapI
namespace Go.Proofs.Ytkankfdpodofjaa
open Go.RowKit
set_option linter.unusedVariables false
set_option maxRecDepth 100000

structure CitN (ws : List Int) (n : Nat) : Prop where
  cit : isCit ws = true
  num : citN ws = n
section
variable {ws : List Int} {n : Nat}
theorem CitN.le (h : CitN ws n) : 1 ≤ n ∧ n ≤ 10 ∧ citI ws.length = (n : Int) ∧ WaysOk ws n := by
  have := cit_pos h.cit
  rw [h.num] at this
  exact this
theorem CitN.small (h : CitN ws n) : ws.length ≤ 1048576 := by
  have := h.le.2.2.2.1
  have := prod_le (i := n) (n := n) h.le.2.1 h.le.2.1
  omega
end
set_option maxHeartbeats 1000000 in
set_option maxRecDepth 100000 in
theorem implTourLong_yes (w : World) {l h l' h' : Nat} (v u : Value) (ws A : List Int) (n : Nat) (hv : Ints w l h v ws) (hh : h ≤ w.heap.size) (hu : Ints w l' h' u A) (hh' : h' ≤ w.heap.size) (hc : CitN ws n) (hA : TourN A n) :
    Calls Try.prog 34 #[v, u] w fun e w' => e = .returned (.tuple #[.int .i64 (longP ws n A), .bool true]) ∧ Below w.heap.size w w' := by
  obtain ⟨p1, p2, p3, p4⟩ := hc.le
  have hz := hc.small
  have hz' : A.length ≤ 1048576 := by rw [hA.len]; omega
  have HT := Lib.hid (isTour_any v u ws A w hv hu hz hz')
  rw [hc.cit, hc.num, hA.order, Bool.and_self] at HT
  have HTL := Lib.hid (fun (wx : World) (hd : Drew w wx) => tourLong_any v u ws A n wx (hv.drew hd) (hu.drew hd) hz p3 p1 p2 p4 hA.ok)
  clear hv hu hc hA p3 p4
  go_enter Try.func34, Try.ntmps34
  go_wp2_with fail
  refine HT.out.mono ?_
  rintro e w1 ⟨rfl, hd⟩
  have HD := Lib.hid hd
  clear hd
  go_wp2_with fail
  refine (HTL.out w1 HD.out).mono ?_
  rintro e w' ⟨rfl, rfl⟩
  go_wp2
  go_ret2
  exact ⟨rfl, HD.out.below _⟩
set_option maxHeartbeats 1000000 in
set_option maxRecDepth 100000 in
theorem implNearTour_yes (w : World) {l h : Nat} (v : Value) (ws : List Int) (f : Int) (n : Nat) (hv : Ints w l h v ws) (hh : h ≤ w.heap.size) (hc : CitN ws n) (hf0 : 0 ≤ f) (hf1 : f < n) :
    Calls Try.prog 37 #[v, .int .i64 f] w fun e w' => ∃ u, e = .returned (.tuple #[u, .bool true]) ∧ OwnI w' w.heap.size w'.heap.size u (nearP (wayOf ws n) n f) ∧ Below w.heap.size w w' := by
  obtain ⟨p1, p2, p3, p4⟩ := hc.le
  have hz := hc.small
  have HAC := Lib.hid (areCities_any v ws w hv hz)
  rw [hc.cit] at HAC
  have HC := Lib.hid (fun (wx : World) (hd : Drew w wx) => cities_any v ws wx (hv.drew hd) hz)
  rw [p3] at HC
  have HNT := Lib.hid (fun (wx : World) (hd : Drew w wx) => nearTour_any v ws n f wx (hv.drew hd) (by rw [hd.heap]; exact hh) hz p3 p1 p2 p4 hf0 hf1)
  have hin : inB 0 ((n : Int) - 1) f = true := by unfold inB; rw [decide_eq_true hf0, decide_eq_true (show f ≤ (n : Int) - 1 by omega)]; rfl
  have hwn : IntKind.i64.wrap ((n : Int) - 1) = (n : Int) - 1 := IntWalk.i64_in _ (by omega)
  clear hv hc p3 p4
  go_enter Try.func37, Try.ntmps37
  go_wp2_with fail
  refine HAC.out.mono ?_
  rintro e w1 ⟨rfl, hd⟩
  have HD := Lib.hid hd
  have hs1 : w.heap.size ≤ w1.heap.size := by rw [hd.heap]; exact Nat.le_refl _
  clear hd
  go_wp2_with fail
  refine (HC.out w1 HD.out).mono ?_
  rintro e w' ⟨rfl, rfl⟩
  go_wp2_with fail
  refine (within_any f 0 ((n : Int) - 1) w1).mono ?_
  rintro e w' ⟨rfl, rfl⟩
  rw [hin]
  go_wp2_with fail
  refine (HNT.out w1 HD.out).mono ?_
  rintro e w2 ⟨u, rfl, ho, hb⟩
  have HO := Lib.hid (ho.mono hs1 (Nat.le_refl _) (Nat.le_refl _))
  have HB := Lib.hid ((HD.out.below w.heap.size).trans (hb.mono hs1))
  clear ho hb
  go_wp2
  go_ret2
  exact ⟨u, rfl, HO.out, HB.out⟩
theorem areWorkers_any (a : Int) (w : World) :
    Calls Try.prog 83 #[.int .i64 a] w fun e w' => e = .returned (.bool (inB 1 8 a)) ∧ w = w' := by
  go_enter Try.func83, Try.ntmps83
  go_wp2_with fail
  refine (within_any a 1 8 w).mono ?_
  rintro e w' ⟨rfl, rfl⟩
  go_wp2
  go_ret
  exact ⟨rfl, rfl⟩
def swapB (ws : List Int) (n : Nat) (A : List Int) : List Int := (smGo ws n ((longP ws n A).toNat + 1) A 0).1
def sharedOne (ws : List Int) (n : Nat) (f : Nat) : Int := longP ws n (swapB ws n (nearP (wayOf ws n) n (f : Int)))
def sharedTo (ws : List Int) (n k : Nat) : List Int := (List.range k).map (sharedOne ws n)
theorem sharedTo_succ (ws : List Int) (n k : Nat) : sharedTo ws n (k + 1) = sharedTo ws n k ++ [sharedOne ws n k] := by simp [sharedTo, List.range_succ]
theorem sharedTo_len (ws : List Int) (n k : Nat) : (sharedTo ws n k).length = k := by simp [sharedTo]
set_option maxHeartbeats 2000000 in
set_option maxRecDepth 100000 in
theorem implToursShared_yes (w : World) {l h : Nat} (v : Value) (ws : List Int) (a : Int) (n : Nat) (hv : Ints w l h v ws) (hh : h ≤ w.heap.size) (hc : CitN ws n) (ha : inB 1 8 a = true) :
    Calls Try.prog 40 #[v, .int .i64 a] w fun e w' => ∃ u, e = .returned (.tuple #[u, .bool true]) ∧ OwnI w' w.heap.size w'.heap.size u (sharedTo ws n n) ∧ Below w.heap.size w w' := by
  obtain ⟨p1, p2, p3, p4⟩ := hc.le
  have hz := hc.small
  have HAC := Lib.hid (areCities_any v ws w hv hz)
  rw [hc.cit] at HAC
  have HV := Lib.hid hv
  have HC := Lib.hid (fun (wx : World) (hb : Below w.heap.size w wx) => cities_any v ws wx (hv.below hb hh) hz)
  rw [p3] at HC
  have HP4 := Lib.hid p4
  have HP3 := Lib.hid p3
  have HLR := Lib.hid (fun (A : List Int) (hA : TourOk A n) => longTo_rng p4 hA n (Nat.le_refl _))
  clear hv hc p3 p4
  go_enter Try.func40, Try.ntmps40
  go_wp2_with fail
  refine HAC.out.mono ?_
  rintro e w1 ⟨rfl, hd⟩
  have HD := Lib.hid (hd.below w.heap.size)
  have hs1 : w1.heap.size = w.heap.size := by rw [hd.heap]
  clear hd
  go_wp2_with fail
  refine (areWorkers_any a w1).mono ?_
  rintro e w' ⟨rfl, rfl⟩
  rw [ha]
  go_wp2_with fail
  go_loopw [6, 7] (fun ov fv wr => ∃ f : Nat, f ≤ n ∧ fv = .int .i64 f ∧ Hid (OwnI wr w.heap.size wr.heap.size ov (sharedTo ws n f)) ∧ Hid (Below w.heap.size w wr)) (fun _ fv _ => n - (intOf fv).toNat)
  case atStart => exact ⟨0, Nat.zero_le _, rfl, OwnI.nil _ _ _ (Nat.le_refl _), HD⟩
  case round =>
    obtain ⟨ov, hov⟩ : ∃ v, v = u6 := ⟨_, rfl⟩
    rw [← hov] at hrel
    rw [← hov]
    clear hov
    obtain ⟨f, hf, rfl, HO, HB⟩ := hrel
    have hsr := HB.out.size
    by_cases hfn : f < n
    · have hnf := nearF (wayOf ws n) (n := n) (f := (f : Int)) p1 (by omega) (by omega)
      have HNF := Lib.hid hnf
      have HTN := Lib.hid hnf.tn
      have HNT := Lib.hid (nearTour_any v ws n (f : Int) wr (HV.out.below HB.out hh) (Nat.le_trans hh hsr) hz HP3.out p1 p2 HP4.out (by omega) (by omega))
      have HSUC := Lib.hid (sharedTo_succ ws n f)
      have HSO : Hid (sharedOne ws n f = longP ws n (swapB ws n (nearP (wayOf ws n) n (f : Int)))) := rfl
      obtain ⟨A, hA⟩ : ∃ A, A = nearP (wayOf ws n) n (f : Int) := ⟨_, rfl⟩
      rw [← hA] at HTN HNT HSO
      clear hnf hA HNF
      go_wp2_with fail
      refine (HC.out wr HB.out).mono ?_
      rintro e w' ⟨rfl, rfl⟩
      go_wp2_with fail
      refine HNT.out.mono ?_
      rintro e w2 ⟨u2', rfl, ho2, hb2⟩
      have HO2 := Lib.hid ho2
      have HB2 := Lib.hid (HB.out.trans (hb2.mono hsr))
      have hs2 := HB2.out.size
      have HB12 := Lib.hid hb2
      clear ho2 hb2
      go_wp2_with fail
      refine (shortenedS_any v u2' ws A n w2 (HV.out.below HB2.out hh) HO2.out.rd (Nat.le_trans hh hs2) (Nat.le_refl _) hz HP3.out p1 p2 HP4.out HTN.out.ok).mono ?_
      rintro e w3 ⟨u3, rfl, ho3, hb3⟩
      have HB3 := Lib.hid (HB2.out.trans (hb3.mono hs2))
      have hs3 := HB3.out.size
      have HT3 := (smGo_run (ws := ws) ((longP ws n A).toNat + 1) A 0 HTN.out).tn
      have HO3 : Hid (OwnI w3 w2.heap.size w3.heap.size u3 (swapB ws n A)) := ho3
      have HT3 : Hid (TourN (swapB ws n A) n) := HT3
      have HB13 := Lib.hid (HB12.out.trans (hb3.mono HB12.out.size))
      clear ho3 hb3
      obtain ⟨B, hB⟩ : ∃ B, B = swapB ws n A := ⟨_, rfl⟩
      rw [← hB] at HO3 HT3 HSO
      clear hB
      have HL := Lib.hid (tourLong_any v u3 ws B n w3 (HV.out.below HB3.out hh) HO3.out.rd hz HP3.out p1 p2 HP4.out HT3.out.ok)
      have hlr := HLR.out B HT3.out.ok
      obtain ⟨x, hx⟩ : ∃ x, x = longP ws n B := ⟨_, rfl⟩
      rw [← hx] at HSO HL
      have hx0 : 0 ≤ x ∧ x ≤ 1000 * n := by rw [hx]; exact hlr
      have HO4 := Lib.hid ((HO.out.below HB13.out (Nat.le_refl _)).mono (Nat.le_refl _) HB13.out.size (Nat.le_refl _))
      have hln := sharedTo_len ws n f
      clear hx hlr
      go_wp2_with fail
      refine HL.out.mono ?_
      rintro e w' ⟨rfl, rfl⟩
      go_wp2_with (at_builtin; refine wpList_app1 rfl _ _ rfl _ (sharedTo ws n f) rfl x _ HO4.out rfl (by constructor <;> omega) (by omega) hs3 ?_)
      intro v5 w5 ho5 hsm5 hz5 hbk5
      have HO5 : Hid (OwnI w5 w.heap.size w5.heap.size v5 (sharedTo ws n (f + 1))) := by rw [HSUC.out, HSO.out]; exact ho5
      have HB5 := Lib.hid (HB3.out.trans (hsm5.below (Nat.le_refl _) hs3))
      clear ho5 hsm5 hz5 hbk5 hln
      go_wp2
      go_roundw
      case rel => exact ⟨f + 1, by omega, by go_num, HO5, HB5⟩
      case measure => simp [intOf]; omega
    · obtain rfl : f = n := by omega
      go_wp2_with fail
      refine (HC.out wr HB.out).mono ?_
      rintro e w' ⟨rfl, rfl⟩
      go_wp2
      go_ret2
      exact ⟨ov, rfl, HO.out, HB.out⟩
end Go.Proofs.Ytkankfdpodofjaa
