/-
  PairModel: contracts in the reference and in the program.
-/
import Derived.Test.YtcpbgjnijhcpkaaFirstI
namespace Go.Proofs.Ytcpbgjnijhcpkaa
open Go.RowKit
set_option linter.unusedVariables false
set_option maxRecDepth 100000

def pairLen (c : List Int) : Bool := decide (1 ≤ c.length) && decide (c.length ≤ 2)
def pairModel (f : FormD) : List Bool × Bool := if f.clauses.all pairLen then firstModel f else ([], false)
theorem pairLen_in (c : List Int) : inB 1 2 (c.length : Int) = pairLen c := by
  unfold inB pairLen
  congr 1 <;> (rw [Bool.eq_iff_iff]; simp; omega)
set_option maxHeartbeats 1600000 in
set_option maxRecDepth 100000 in
theorem specPairModel_any (w : World) {l h : Nat} (v : Value) (f : FormD) (hv : FormR w l h v f) (hh : h ≤ w.heap.size) (hz : SmallII f.clauses) :
    Calls Try.prog 37 #[v] w fun e w' => ∃ r, e = .returned (.tuple #[r, .bool (pairModel f).2]) ∧ OwnB w' w.heap.size w'.heap.size r (pairModel f).1 ∧ Below w.heap.size w w' := by
  obtain ⟨u, rfl, hu⟩ := hv.ex
  obtain ⟨W, hW⟩ : ∃ W, W = w.alloc (.cells #[.int .i64 f.letters, u] 26) := ⟨_, rfl⟩
  have hBW : Below w.heap.size w W := by rw [hW]; exact alloc_below _ _
  have hsW : W.heap.size = w.heap.size + 1 := by rw [hW]; simp
  have hbx : BoxF W w.heap.size f.letters u := by rw [hW]; exact BoxF.new _ _ _ _
  have HF := Lib.hid (hv.below hBW hh)
  have HZ := Lib.hid hz
  have hcl : f.clauses.length ≤ 1048576 := hz.1
  obtain ⟨a, cap, V, e, hc1, hc2, hV, hd⟩ := (hu.below hBW hh).out
  subst e
  have HV := Lib.hid hV
  have HB := Lib.hid hbx
  have k0 := hbx.c0
  have k1 := hbx.c1
  clear hbx hu hv hV
  go_enter Try.func37, Try.ntmps37
  go_wp2_with fail
  rw [← hW]
  clear hW
  go_wp2_with fail
  go_loopw [8] (fun i wr => ∃ k : Nat, k ≤ f.clauses.length ∧ i = .int .i64 k ∧ Hid ((f.clauses.drop k).all pairLen = f.clauses.all pairLen) ∧ W = wr) (fun i _ => f.clauses.length - (intOf i).toNat)
  case atStart => exact ⟨0, Nat.zero_le _, rfl, Lib.hid rfl, rfl⟩
  case round =>
    obtain ⟨k, hk, rfl, H, rfl⟩ := hrel
    by_cases hlt : k < f.clauses.length
    · have HD := Lib.hid (drop_cons f.clauses k hlt)
      rcases hd with hd | ⟨b, off, rfl, hb1, hb2, hb3, hcell⟩
      · rw [hd] at hlt; simp at hlt
      have hck := hcell k hlt
      obtain ⟨ra, rc, hre, _⟩ := (HV.out k hlt).out
      rw [hre] at hck
      clear hcell hre
      by_cases h1 : f.clauses[k].length < 1
      · have HP : Hid (pairLen f.clauses[k] = false) := by rw [Hid, pairLen, decide_eq_false (by omega), Bool.false_and]
        have HE := Lib.hid (show pairModel f = ([], false) by rw [pairModel, ← H.out, HD.out, List.all_cons, HP.out]; rfl)
        have h1i : (f.clauses[k].length : Int) < 1 := by omega
        go_wp2
        go_ret2
        exact ⟨_, by rw [HE.out]; rfl, by rw [HE.out]; exact OwnB.nil _ _ _ (Nat.le_refl _), hBW⟩
      have h1i : ¬ (f.clauses[k].length : Int) < 1 := by omega
      by_cases h2 : 2 < f.clauses[k].length
      · have HP : Hid (pairLen f.clauses[k] = false) := by rw [Hid, pairLen, decide_eq_false (by omega : ¬ f.clauses[k].length ≤ 2), Bool.and_false]
        have HE := Lib.hid (show pairModel f = ([], false) by rw [pairModel, ← H.out, HD.out, List.all_cons, HP.out]; rfl)
        go_wp2
        go_ret2
        exact ⟨_, by rw [HE.out]; rfl, by rw [HE.out]; exact OwnB.nil _ _ _ (Nat.le_refl _), hBW⟩
      · have HP : Hid (pairLen f.clauses[k] = true) := by rw [Hid, pairLen, decide_eq_true (by omega), decide_eq_true (by omega)]; rfl
        go_wp2
        go_roundw
        case rel => exact ⟨k + 1, by omega, by go_num, Lib.hid (by rw [← H.out, HD.out, List.all_cons, HP.out, Bool.true_and]), by first | rfl | trivial⟩
        case measure => simp [intOf]; omega
    · have HE := Lib.hid (show pairModel f = firstModel f by rw [pairModel, ← H.out, drop_len _ _ (by omega)]; rfl)
      go_wp2_with fail
      refine (specFirstModel_any W _ f HF.out (by omega) HZ.out).mono ?_
      rintro e w2 ⟨r, rfl, ho, hb⟩
      go_wp2
      go_ret2
      exact ⟨_, by rw [HE.out]; rfl, by rw [HE.out]; exact ho.mono (by omega) (Nat.le_refl _) (Nat.le_refl _), hBW.trans (hb.mono (by omega))⟩
set_option maxHeartbeats 1600000 in
set_option maxRecDepth 100000 in
theorem implPairModel_any (w : World) {l h : Nat} (v : Value) (f : FormD) (hv : FormR w l h v f) (hh : h ≤ w.heap.size) (hz : SmallII f.clauses) :
    Calls Try.prog 36 #[v] w fun e w' => ∃ r, e = .returned (.tuple #[r, .bool (pairModel f).2]) ∧ OwnB w' w.heap.size w'.heap.size r (pairModel f).1 ∧ Below w.heap.size w w' := by
  obtain ⟨u, rfl, hu⟩ := hv.ex
  obtain ⟨W, hW⟩ : ∃ W, W = w.alloc (.cells #[.int .i64 f.letters, u] 26) := ⟨_, rfl⟩
  have hBW : Below w.heap.size w W := by rw [hW]; exact alloc_below _ _
  have hsW : W.heap.size = w.heap.size + 1 := by rw [hW]; simp
  have hbx : BoxF W w.heap.size f.letters u := by rw [hW]; exact BoxF.new _ _ _ _
  have HF := Lib.hid (hv.below hBW hh)
  have HZ := Lib.hid hz
  have hcl : f.clauses.length ≤ 1048576 := hz.1
  obtain ⟨a, cap, V, e, hc1, hc2, hV, hd⟩ := (hu.below hBW hh).out
  subst e
  have HV := Lib.hid hV
  have HB := Lib.hid hbx
  have k0 := hbx.c0
  have k1 := hbx.c1
  clear hbx hu hv hV
  go_enter Try.func36, Try.ntmps36
  go_wp2_with fail
  rw [← hW]
  clear hW
  go_wp2_with fail
  go_loopw [9] (fun i wr => ∃ k : Nat, k ≤ f.clauses.length ∧ i = .int .i64 k ∧ Hid ((f.clauses.drop k).all pairLen = f.clauses.all pairLen) ∧ W = wr) (fun i _ => f.clauses.length - (intOf i).toNat)
  case atStart => exact ⟨0, Nat.zero_le _, rfl, Lib.hid rfl, rfl⟩
  case round =>
    obtain ⟨k, hk, rfl, H, rfl⟩ := hrel
    by_cases hlt : k < f.clauses.length
    · have HD := Lib.hid (drop_cons f.clauses k hlt)
      rcases hd with hd | ⟨b, off, rfl, hb1, hb2, hb3, hcell⟩
      · rw [hd] at hlt; simp at hlt
      have hck := hcell k hlt
      obtain ⟨ra, rc, hre, _⟩ := (HV.out k hlt).out
      rw [hre] at hck
      have hzk := HZ.out.row hlt
      have HIN := Lib.hid (pairLen_in f.clauses[k])
      clear hcell hre
      cases hp : inB 1 2 (f.clauses[k].length : Int)
      · have HP : Hid (pairLen f.clauses[k] = false) := by rw [Hid, ← HIN.out]; exact hp
        have HE := Lib.hid (show pairModel f = ([], false) by rw [pairModel, ← H.out, HD.out, List.all_cons, HP.out]; rfl)
        go_wp2_with (first | (go_at_call 85; refine (size_any _ (by omega) _).mono ?_; rintro e w' ⟨rfl, rfl⟩) | (go_at_call 93; refine (within_any _ _ _ _).mono ?_; rintro e w' ⟨rfl, rfl⟩))
        go_ret2
        exact ⟨_, by rw [HE.out]; rfl, by rw [HE.out]; exact OwnB.nil _ _ _ (Nat.le_refl _), hBW⟩
      · have HP : Hid (pairLen f.clauses[k] = true) := by rw [Hid, ← HIN.out]; exact hp
        go_wp2_with (first | (go_at_call 85; refine (size_any _ (by omega) _).mono ?_; rintro e w' ⟨rfl, rfl⟩) | (go_at_call 93; refine (within_any _ _ _ _).mono ?_; rintro e w' ⟨rfl, rfl⟩))
        go_roundw
        case rel => exact ⟨k + 1, by omega, by go_num, Lib.hid (by rw [← H.out, HD.out, List.all_cons, HP.out, Bool.true_and]), by first | rfl | trivial⟩
        case measure => simp [intOf]; omega
    · have HE := Lib.hid (show pairModel f = firstModel f by rw [pairModel, ← H.out, drop_len _ _ (by omega)]; rfl)
      go_wp2_with fail
      refine (implFirstModel_any W _ f HF.out (by omega) HZ.out).mono ?_
      rintro e w2 ⟨r, rfl, ho, hb⟩
      go_wp2
      go_ret2
      exact ⟨_, by rw [HE.out]; rfl, by rw [HE.out]; exact ho.mono (by omega) (Nat.le_refl _) (Nat.le_refl _), hBW.trans (hb.mono (by omega))⟩
end Go.Proofs.Ytcpbgjnijhcpkaa
