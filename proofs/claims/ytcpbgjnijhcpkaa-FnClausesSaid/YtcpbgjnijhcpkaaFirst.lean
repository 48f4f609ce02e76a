/-
  Contracts of the values with a number and of FirstModel in the reference.
-/
import Derived.Test.YtcpbgjnijhcpkaaAppB
import Derived.Test.YtcpbgjnijhcpkaaModels2
import Derived.OwnWalk
namespace Go.Proofs.Ytcpbgjnijhcpkaa
open Go.RowKit
set_option linter.unusedVariables false
set_option maxRecDepth 100000

theorem litTrue_pos (bs : List Bool) (A : Nat) (h : 1 ≤ A) : litTrue bs (A : Int) = bs.getD (A - 1) false := by
  have e : absI (A : Int) = (A : Int) := by unfold absI; rw [if_neg (by omega)]
  unfold litTrue
  rw [e, Int.toNat_natCast, decide_eq_true (by omega : (0 : Int) < (A : Int))]
  cases bs.getD (A - 1) false <;> rfl
set_option maxHeartbeats 1600000 in
set_option maxRecDepth 100000 in
theorem l05Values_any (L n : Nat) (w : World) (hL : L ≤ 10) (hn : n < 4294967296) :
    Calls Try.prog 86 #[.int .i64 L, .int .i64 n] w fun e w' => ∃ v, e = .returned v ∧ OwnB w' w.heap.size w'.heap.size v (valuesN L n) ∧ Below w.heap.size w w' := by
  have h0 := emptySliceB w
  have Hlen := Lib.hid (valuesN_len L n)
  go_enter Try.func86, Try.ntmps86
  go_wp2_with fail
  go_loopw [5, 6] (fun v i wr => ∃ k : Nat, k ≤ L ∧ i = .int .i64 ((k + 1 : Nat)) ∧ OwnB wr w.heap.size wr.heap.size v ((valuesN L n).take k) ∧ Below w.heap.size w wr) (fun _ i _ => L + 1 - (intOf i).toNat)
  case atStart => exact ⟨0, Nat.zero_le _, rfl, by simpa using h0, alloc_below _ _⟩
  case round =>
    clear h0
    obtain ⟨k, hk, rfl, ho, hb⟩ := hrel
    have hs := hb.size
    have HO := Lib.hid ho
    clear ho
    by_cases hlt : k < L
    · have hA : absI ((k + 1 : Nat) : Int) = ((k + 1 : Nat) : Int) := by unfold absI; rw [if_neg (by omega)]
      have HC := Lib.hid (l05True_any L n ((k + 1 : Nat) : Int) wr (by rw [hA]; omega) (by rw [hA]; omega) hL hn)
      clear hA
      go_wp2_with fail
      refine HC.out.mono ?_
      rintro e w' ⟨rfl, rfl⟩
      go_wp2_with (at_builtin; refine wpList_app1B rfl _ _ rfl _ ((valuesN L n).take k) rfl _ _ HO.out rfl (by rw [List.length_take, Hlen.out]; omega) hs ?_)
      intro v2 w2 ho2 hsm hs2 _
      have ho3 : OwnB w2 w.heap.size w2.heap.size v2 ((valuesN L n).take (k + 1)) := by
        rw [List.take_succ_eq_append_getElem (by rw [Hlen.out]; exact hlt)]
        have e : litTrue (valuesN L n) ((k + 1 : Nat) : Int) = (valuesN L n)[k]'(by rw [Hlen.out]; exact hlt) := by
          rw [litTrue_pos _ _ (by omega), Nat.add_sub_cancel]
          simp [List.getD, Hlen.out, hlt]
        rw [← e]; exact ho2
      have HO3 := Lib.hid ho3
      clear ho3 ho2
      go_wp2
      go_roundw
      case rel => exact ⟨k + 1, by omega, by go_num, HO3.out, hb.trans (hsm.below (Nat.le_refl _) hs)⟩
      case measure => simp [intOf]; omega
    · obtain rfl : k = L := by omega
      go_wp2
      go_ret
      exact ⟨_, rfl, by have := HO.out; rwa [List.take_of_length_le (by rw [Hlen.out]; exact Nat.le_refl _)] at this, hb⟩
/-- the first n values that are a model, among those from a on -/
def firstFrom (L : Nat) (cs : List (List Int)) (a : Nat) : Nat → Option Nat
  | 0 => none
  | k + 1 => if formTrue (valuesN L a) cs then some a else firstFrom L cs (a + 1) k
theorem firstFrom_step (L : Nat) (cs : List (List Int)) (a k : Nat) (h : formTrue (valuesN L a) cs = false) : firstFrom L cs a (k + 1) = firstFrom L cs (a + 1) k := by rw [firstFrom, h]; rfl
theorem firstFrom_hit (L : Nat) (cs : List (List Int)) (a k : Nat) (h : formTrue (valuesN L a) cs = true) : firstFrom L cs a (k + 1) = some a := by rw [firstFrom, h]; rfl
def firstModel (f : FormD) : List Bool × Bool :=
  if validForm f then
    match firstFrom f.letters.toNat f.clauses 0 (2 ^ f.letters.toNat) with
    | some n => (valuesN f.letters.toNat n, true)
    | none => ([], false)
  else ([], false)
theorem firstModel_some {f : FormD} {L n : Nat} (hv : validForm f = true) (hL : f.letters = (L : Int)) (h : firstFrom L f.clauses 0 (2 ^ L) = some n) : firstModel f = (valuesN L n, true) := by
  unfold firstModel; rw [if_pos hv, hL, Int.toNat_natCast, h]
theorem firstModel_none {f : FormD} {L : Nat} (hv : validForm f = true) (hL : f.letters = (L : Int)) (h : firstFrom L f.clauses 0 (2 ^ L) = none) : firstModel f = ([], false) := by
  unfold firstModel; rw [if_pos hv, hL, Int.toNat_natCast, h]
set_option maxHeartbeats 800000 in
set_option maxRecDepth 100000 in
theorem l05First_any {l h : Nat} (p L : Nat) (v : Value) (cs : List (List Int)) (w : World) (hp0 : w.cell? ⟨p, 0, none⟩ = some (.int .i64 L)) (hp1 : w.cell? ⟨p, 1, none⟩ = some v) (hv : Intss w l h v cs) (hl : LitsAll L cs) (hL : L ≤ 10) (hz : cs.length ≤ 1048576) :
    Calls Try.prog 53 #[.pointer (some ⟨p, 0, none⟩)] w fun e w' => Drew w w' ∧ ((e = .returned (.int .i64 (-1)) ∧ firstFrom L cs 0 (2 ^ L) = none) ∨ ∃ n : Nat, n < 1024 ∧ e = .returned (.int .i64 n) ∧ firstFrom L cs 0 (2 ^ L) = some n) := by
  obtain ⟨N, hN⟩ : ∃ N : Nat, N = 2 ^ L := ⟨_, rfl⟩
  have hsh := (shl_one L hL).1
  have hN2 := (shl_one L hL).2
  rw [← hN] at hsh hN2
  rw [← hN]
  have HV := Lib.hid hv
  have HL := Lib.hid hl
  have HP1 := Lib.hid hp1
  clear hN hv hl hp1
  go_enter Try.func53, Try.ntmps53
  go_wp2_with fail
  go_loopw [3] (fun i wr => ∃ n : Nat, n ≤ N ∧ i = .int .i64 n ∧ Hid (firstFrom L cs n (N - n) = firstFrom L cs 0 N) ∧ Drew w wr) (fun i _ => N - (intOf i).toNat)
  case atStart => exact ⟨0, Nat.zero_le _, rfl, Lib.hid rfl, Drew.refl _⟩
  case round =>
    obtain ⟨n, hn, rfl, H, hD⟩ := hrel
    have hp0' := hp0
    rw [← hD.cell] at hp0'
    by_cases hlt : n < N
    · have HX := Lib.hid (show N - n = (N - (n + 1)) + 1 by omega)
      cases hft : formTrue (valuesN L n) cs
      · go_wp2_with fail
        refine (l05Model_any p L n _ cs wr hp0' (by rw [hD.cell]; exact HP1.out) (HV.out.drew hD) HL.out hL (by omega) hz).mono ?_
        rintro e w2 ⟨rfl, hD2⟩
        rw [hft]
        go_wp2
        go_roundw
        case rel => exact ⟨n + 1, by omega, by go_num, Lib.hid (by rw [← H.out, HX.out, firstFrom_step _ _ _ _ hft]), hD.trans hD2⟩
        case measure => simp [intOf]; omega
      · go_wp2_with fail
        refine (l05Model_any p L n _ cs wr hp0' (by rw [hD.cell]; exact HP1.out) (HV.out.drew hD) HL.out hL (by omega) hz).mono ?_
        rintro e w2 ⟨rfl, hD2⟩
        rw [hft]
        go_wp2
        go_ret
        exact ⟨hD.trans hD2, .inr ⟨n, by omega, rfl, by rw [← H.out, HX.out, firstFrom_hit _ _ _ _ hft]⟩⟩
    · go_wp2
      go_ret
      exact ⟨hD, .inl ⟨rfl, by rw [← H.out, show N - n = 0 by omega, firstFrom]⟩⟩
set_option maxHeartbeats 1600000 in
set_option maxRecDepth 100000 in
theorem specFirstModel_any (w : World) {l h : Nat} (v : Value) (f : FormD) (hv : FormR w l h v f) (hh : h ≤ w.heap.size) (hz : SmallII f.clauses) :
    Calls Try.prog 29 #[v] w fun e w' => ∃ r, e = .returned (.tuple #[r, .bool (firstModel f).2]) ∧ OwnB w' w.heap.size w'.heap.size r (firstModel f).1 ∧ Below w.heap.size w w' := by
  obtain ⟨u, rfl, hu⟩ := hv.ex
  have kL := hv.rng
  obtain ⟨W, hW⟩ : ∃ W, W = w.alloc (.cells #[.int .i64 f.letters, u] 26) := ⟨_, rfl⟩
  have hBW : Below w.heap.size w W := by rw [hW]; exact alloc_below _ _
  have hsW : W.heap.size = w.heap.size + 1 := by rw [hW]; simp
  have hbx : BoxF W w.heap.size f.letters u := by rw [hW]; exact BoxF.new _ _ _ _
  have HU := Lib.hid (hu.below hBW hh)
  have HB := Lib.hid hbx
  clear hbx hu hv
  go_enter Try.func29, Try.ntmps29
  go_wp2_with fail
  rw [← hW]
  clear hW
  refine (l05Is_any W _ _ f HB.out.c0 HB.out.c1 (by omega) kL HU.out (by omega)).mono ?_
  rintro e w2 ⟨rfl, hb2⟩
  have hs2 := hb2.size
  cases hval : validForm f
  · have HE := Lib.hid (show firstModel f = ([], false) by simp [firstModel, hval])
    go_wp2
    go_ret2
    exact ⟨_, by rw [HE.out]; rfl, by rw [HE.out]; exact OwnB.nil _ _ _ (Nat.le_refl _), hBW.trans (hb2.mono hBW.size)⟩
  · obtain ⟨L, hL, hL1, hL2⟩ := lettersN hval
    have hB2 := HB.out.below hb2 HB.out.lt
    rw [hL] at hB2
    have HB2 := Lib.hid hB2
    have HC := Lib.hid (l05First_any w.heap.size L u f.clauses w2 hB2.c0 hB2.c1 (HU.out.below hb2 (by omega)) (litsAll_of_valid hL hval) hL2 (by have := hz.1; omega))
    have HV := Lib.hid hval
    clear hval hB2
    go_wp2_with fail
    refine HC.out.mono ?_
    rintro e w3 ⟨hD3, ⟨rfl, hf⟩ | ⟨n, hn, rfl, hf⟩⟩
    · have HE := Lib.hid (firstModel_none HV.out hL hf)
      go_wp2
      go_ret2
      exact ⟨_, by rw [HE.out]; rfl, by rw [HE.out]; exact OwnB.nil _ _ _ (Nat.le_refl _), hBW.trans ((hb2.trans (hD3.below _)).mono hBW.size)⟩
    · have HE := Lib.hid (firstModel_some HV.out hL hf)
      have c0 := (HB2.out.drew hD3).c0
      have hs3 : w2.heap.size ≤ w3.heap.size := by rw [hD3.heap]; exact Nat.le_refl _
      clear hf
      go_wp2_with fail
      refine (l05Values_any L n w3 hL2 (by omega)).mono ?_
      rintro e w4 ⟨r, rfl, ho, hb4⟩
      go_wp2
      go_ret2
      exact ⟨_, by rw [HE.out]; rfl, by rw [HE.out]; exact ho.mono (by omega) (Nat.le_refl _) (Nat.le_refl _), hBW.trans (((hb2.trans (hD3.below _)).trans (hb4.mono (by omega))).mono hBW.size)⟩
end Go.Proofs.Ytcpbgjnijhcpkaa
