/-
  AllSome and FirstMove (all and some take turns): contracts in the reference and in the program.
-/
import Derived.Test.YtcpbgjnijhcpkaaFirstI
import Derived.Test.YtcpbgjnijhcpkaaTwo
import Derived.Deep.RegionHeld3
namespace Go.Proofs.Ytcpbgjnijhcpkaa
open Go.RowKit
set_option linter.unusedVariables false
set_option maxRecDepth 100000

def turnR (L : Nat) (cs : List (List Int)) : List Bool → Nat → Bool
  | [], n => formTrue (valuesN L n) cs
  | a :: r, n => if a then turnR L cs r (2 * n) && turnR L cs r (2 * n + 1) else turnR L cs r (2 * n) || turnR L cs r (2 * n + 1)
theorem turnR_all (L : Nat) (cs : List (List Int)) (r : List Bool) (n : Nat) : turnR L cs (true :: r) n = (turnR L cs r (2 * n) && turnR L cs r (2 * n + 1)) := rfl
theorem turnR_some (L : Nat) (cs : List (List Int)) (r : List Bool) (n : Nat) : turnR L cs (false :: r) n = (turnR L cs r (2 * n) || turnR L cs r (2 * n + 1)) := rfl
def isTurns (f : FormD) (bs : List Bool) : Bool := validForm f && decide ((bs.length : Int) = f.letters)
def allSome (f : FormD) (bs : List Bool) : Bool × Bool := if isTurns f bs then (turnR bs.length f.clauses bs 0, true) else (false, false)
def firstMove (f : FormD) (bs : List Bool) : Bool × Bool :=
  if isTurns f bs && (!bs.getD 0 false && turnR bs.length f.clauses bs 0) then (!turnR bs.length f.clauses (bs.drop 1) 0, true) else (false, false)
set_option maxHeartbeats 1600000 in
set_option maxRecDepth 100000 in
theorem l05Turn_any {l h l' h' : Nat} (p L : Nat) (u va : Value) (cs : List (List Int)) (bs : List Bool) (hl : LitsAll L cs) (hL : L ≤ 10) (hn : cs.length ≤ 1048576) (hbl : bs.length = L) (d : Nat) :
    ∀ (w : World) (k n : Nat), k + d = L → n < 2 ^ k → BoxF w p L u → Intss w l h u cs → Bools w l' h' va bs →
    Calls Try.prog 89 #[.pointer (some ⟨p, 0, none⟩), va, .int .i64 k, .int .i64 n] w fun e w' => e = .returned (.bool (turnR L cs (bs.drop k) n)) ∧ Drew w w' := by
  induction d with
  | zero =>
    intro w k n hk hn2 hbx hu hv
    obtain ⟨a, cap, rfl, hc1, hc2, hd⟩ := hv.out
    obtain rfl : k = L := by omega
    have h10 : n < 1024 := Nat.lt_of_lt_of_le hn2 (pow_L hL)
    have HM := Lib.hid (l05Model_any p k n u cs w hbx.c0 hbx.c1 hu hl hL (by omega) hn)
    have HE := Lib.hid (show turnR k cs (bs.drop k) n = formTrue (valuesN k n) cs by rw [drop_len _ _ (by omega)]; rfl)
    have c0 := hbx.c0
    clear hbx hu hv hd hl
    go_enter Try.func89, Try.ntmps89
    go_wp2_with fail
    refine HM.out.mono ?_
    rintro e w2 ⟨rfl, hD⟩
    go_wp2
    go_ret
    exact ⟨ret_bool HE.out.symm, hD⟩
  | succ d ih =>
    intro w k n hk hn2 hbx hu hv
    have hkl : k < bs.length := by omega
    obtain ⟨a, cap, rfl, hc1, hc2, hd⟩ := hv.out
    have hp1 : 2 * n < 2 ^ (k + 1) := by rw [Nat.pow_succ]; omega
    have hp2 : 2 * n + 1 < 2 ^ (k + 1) := by rw [Nat.pow_succ]; omega
    have h10 : 2 ^ (k + 1) ≤ 1024 := pow_L (by omega)
    have hn10 : n < 512 := by omega
    have hi1 : ∀ w' : World, Drew w w' → Calls Try.prog 89 #[.pointer (some ⟨p, 0, none⟩), .slice a bs.length cap, .int .i64 ((k : Int) + 1), .int .i64 (2 * (n : Int))] w' fun e w'' => e = .returned (.bool (turnR L cs (bs.drop (k + 1)) (2 * n))) ∧ Drew w' w'' := fun w' hD => by
      have := ih w' (k + 1) (2 * n) (by omega) hp1 (hbx.drew hD) (hu.drew hD) (hv.drew hD)
      rw [show ((k + 1 : Nat) : Int) = (k : Int) + 1 by omega, show ((2 * n : Nat) : Int) = 2 * (n : Int) by omega] at this
      exact this
    have hi2 : ∀ w' : World, Drew w w' → Calls Try.prog 89 #[.pointer (some ⟨p, 0, none⟩), .slice a bs.length cap, .int .i64 ((k : Int) + 1), .int .i64 (2 * (n : Int) + 1)] w' fun e w'' => e = .returned (.bool (turnR L cs (bs.drop (k + 1)) (2 * n + 1))) ∧ Drew w' w'' := fun w' hD => by
      have := ih w' (k + 1) (2 * n + 1) (by omega) hp2 (hbx.drew hD) (hu.drew hD) (hv.drew hD)
      rw [show ((k + 1 : Nat) : Int) = (k : Int) + 1 by omega, show ((2 * n + 1 : Nat) : Int) = 2 * (n : Int) + 1 by omega] at this
      exact this
    have HI1 := Lib.hid hi1
    have HI2 := Lib.hid hi2
    clear hi1 hi2
    have HD := Lib.hid (drop_cons bs k hkl)
    rcases hd with hd | ⟨b, off, rfl, hb1, hb2, hb3, hcell⟩
    · rw [hd] at hkl; simp at hkl
    have hck : w.cell? ⟨b, off + k, none⟩ = some (.bool bs[k]) := by have := hcell k hkl; simpa [List.getD, hkl] using this
    have HCK := Lib.hid hck
    have c0 := hbx.c0
    have hne : ((k : Int) == (L : Int)) = false := by simp; omega
    have HR : Hid (turnR L cs (bs.drop k) n = if bs[k] then turnR L cs (bs.drop (k + 1)) (2 * n) && turnR L cs (bs.drop (k + 1)) (2 * n + 1) else turnR L cs (bs.drop (k + 1)) (2 * n) || turnR L cs (bs.drop (k + 1)) (2 * n + 1)) := by rw [Hid, HD.out]; rfl
    have hLb1 : L ≤ bs.length := by omega
    have hLb2 : bs.length ≤ L := by omega
    clear hbx hu hv hcell hck ih hp1 hp2 hl hbl
    obtain ⟨T2, hT2⟩ : ∃ T : Bool, T = turnR L cs (bs.drop (k + 1)) (2 * n + 1) := ⟨_, rfl⟩
    rw [← hT2] at HI2 HR
    clear hT2
    cases hbk : bs[k] <;> cases h1 : turnR L cs (bs.drop (k + 1)) (2 * n)
    all_goals
      rw [h1, hbk] at HR
      rw [h1] at HI1
      go_enter Try.func89, Try.ntmps89
      go_wp2_with fail
      refine (HI1.out w (Drew.refl _)).mono ?_
      rintro e w2 ⟨rfl, hD1⟩
      go_wp2_with fail
      refine (HI2.out w2 hD1).mono ?_
      rintro e w3 ⟨rfl, hD2⟩
      have hD := hD1.trans hD2
      have hck := HCK.out
      rw [← hD.cell, hbk] at hck
      go_wp2
      go_ret
      exact ⟨ret_bool (by rw [HR.out]; first | rfl | simp), hD⟩
set_option maxHeartbeats 1600000 in
set_option maxRecDepth 100000 in
theorem specAllSome_any (w : World) {l h l' h' : Nat} (v : Value) (f : FormD) (v' : Value) (bs : List Bool) (hv : FormR w l h v f) (hh : h ≤ w.heap.size) (hz : SmallII f.clauses) (hv' : Bools w l' h' v' bs) (hh' : h' ≤ w.heap.size) (hz' : bs.length ≤ 1048576) :
    Calls Try.prog 31 #[v, v'] w fun e w' => e = .returned (.tuple #[.bool (allSome f bs).1, .bool (allSome f bs).2]) ∧ Below w.heap.size w w' := by
  obtain ⟨u, rfl, hu⟩ := hv.ex
  have kL := hv.rng
  obtain ⟨W, hW⟩ : ∃ W, W = w.alloc (.cells #[.int .i64 f.letters, u] 26) := ⟨_, rfl⟩
  have hBW : Below w.heap.size w W := by rw [hW]; exact alloc_below _ _
  have hsW : W.heap.size = w.heap.size + 1 := by rw [hW]; simp
  have hbx : BoxF W w.heap.size f.letters u := by rw [hW]; exact BoxF.new _ _ _ _
  have HU := Lib.hid (hu.below hBW hh)
  have HV := Lib.hid (hv'.below hBW hh')
  have HB := Lib.hid hbx
  have hcl : f.clauses.length ≤ 1048576 := hz.1
  obtain ⟨ba, bc, be, _⟩ := hv'.out
  subst be
  clear hbx hu hv hv'
  go_enter Try.func31, Try.ntmps31
  go_wp2_with fail
  rw [← hW]
  clear hW
  refine (l05Is_any W _ _ f HB.out.c0 HB.out.c1 (by omega) kL HU.out (by omega)).mono ?_
  rintro e w2 ⟨rfl, hb2⟩
  have hs2 := hb2.size
  have hB2 := HB.out.below hb2 HB.out.lt
  have c0 := hB2.c0
  cases hval : validForm f
  · have HE := Lib.hid (show allSome f bs = (false, false) by simp [allSome, isTurns, hval])
    go_wp2
    go_ret2
    exact ⟨by rw [HE.out]; rfl, hBW.trans (hb2.mono hBW.size)⟩
  cases hq : decide ((bs.length : Int) = f.letters)
  · have HE := Lib.hid (show allSome f bs = (false, false) by simp [allSome, isTurns, hq])
    have hne : ((bs.length : Int) != f.letters) = true := by simpa using hq
    go_wp2
    go_ret2
    exact ⟨by rw [HE.out]; rfl, hBW.trans (hb2.mono hBW.size)⟩
  · have hq' := of_decide_eq_true hq
    have HE := Lib.hid (show allSome f bs = (turnR bs.length f.clauses bs 0, true) by simp [allSome, isTurns, hval, hq'])
    have hne : ((bs.length : Int) != f.letters) = false := by simp [hq']
    have hL10 : bs.length ≤ 10 := by have := (validForm_bounds hval).1; omega
    rw [← hq'] at hB2
    have HT := Lib.hid (l05Turn_any w.heap.size bs.length u _ f.clauses bs (litsAll_of_valid hq'.symm hval) hL10 hcl rfl bs.length w2 0 0 (by omega) (by simp) hB2 (HU.out.below hb2 (by omega)) (HV.out.below hb2 (by omega)))
    clear hq hq' hval hB2
    go_wp2_with fail
    refine HT.out.mono ?_
    rintro e w3 ⟨rfl, hD3⟩
    go_wp2
    go_ret2
    exact ⟨by rw [HE.out]; rfl, hBW.trans ((hb2.trans (hD3.below _)).mono hBW.size)⟩
set_option maxHeartbeats 1600000 in
set_option maxRecDepth 100000 in
theorem specFirstMove_any (w : World) {l h l' h' : Nat} (v : Value) (f : FormD) (v' : Value) (bs : List Bool) (hv : FormR w l h v f) (hh : h ≤ w.heap.size) (hz : SmallII f.clauses) (hv' : Bools w l' h' v' bs) (hh' : h' ≤ w.heap.size) (hz' : bs.length ≤ 1048576) :
    Calls Try.prog 33 #[v, v'] w fun e w' => e = .returned (.tuple #[.bool (firstMove f bs).1, .bool (firstMove f bs).2]) ∧ Below w.heap.size w w' := by
  obtain ⟨u, rfl, hu⟩ := hv.ex
  have kL := hv.rng
  obtain ⟨W, hW⟩ : ∃ W, W = w.alloc (.cells #[.int .i64 f.letters, u] 26) := ⟨_, rfl⟩
  have hBW : Below w.heap.size w W := by rw [hW]; exact alloc_below _ _
  have hsW : W.heap.size = w.heap.size + 1 := by rw [hW]; simp
  have hbx : BoxF W w.heap.size f.letters u := by rw [hW]; exact BoxF.new _ _ _ _
  have HU := Lib.hid (hu.below hBW hh)
  have HV := Lib.hid (hv'.below hBW hh')
  have HB := Lib.hid hbx
  have hcl : f.clauses.length ≤ 1048576 := hz.1
  obtain ⟨ba, bc, be, _⟩ := hv'.out
  subst be
  clear hbx hu hv hv'
  go_enter Try.func33, Try.ntmps33
  go_wp2_with fail
  rw [← hW]
  clear hW
  refine (l05Is_any W _ _ f HB.out.c0 HB.out.c1 (by omega) kL HU.out (by omega)).mono ?_
  rintro e w2 ⟨rfl, hb2⟩
  have hs2 := hb2.size
  have hB2 := HB.out.below hb2 HB.out.lt
  have c0 := hB2.c0
  cases hval : validForm f
  · have HE := Lib.hid (show firstMove f bs = (false, false) by simp [firstMove, isTurns, hval])
    go_wp2
    go_ret2
    exact ⟨by rw [HE.out]; rfl, hBW.trans (hb2.mono hBW.size)⟩
  cases hq : decide ((bs.length : Int) = f.letters)
  · have HE := Lib.hid (show firstMove f bs = (false, false) by simp [firstMove, isTurns, hq])
    have hne : ((bs.length : Int) != f.letters) = true := by simpa using hq
    go_wp2
    go_ret2
    exact ⟨by rw [HE.out]; rfl, hBW.trans (hb2.mono hBW.size)⟩
  · have hq' := of_decide_eq_true hq
    have hne : ((bs.length : Int) != f.letters) = false := by simp [hq']
    have hL10 : bs.length ≤ 10 := by have := (validForm_bounds hval).1; omega
    have hL1 : 0 < bs.length := by have := (validForm_bounds hval).1; omega
    have HFM : Hid (firstMove f bs = if (!bs.getD 0 false && turnR bs.length f.clauses bs 0) = true then (!turnR bs.length f.clauses (bs.drop 1) 0, true) else (false, false)) := by simp [Hid, firstMove, isTurns, hval, hq']
    rw [← hq'] at hB2
    have HT := Lib.hid (fun (k : Nat) (hk : k ≤ bs.length) (wx : World) (hD : Drew w2 wx) => l05Turn_any w.heap.size bs.length u _ f.clauses bs (litsAll_of_valid hq'.symm hval) hL10 hcl rfl (bs.length - k) wx k 0 (by omega) (Nat.pow_pos (by decide)) (hB2.drew hD) ((HU.out.below hb2 (by omega)).drew hD) ((HV.out.below hb2 (by omega)).drew hD))
    obtain ⟨a', c', e', _, _, hd⟩ := (HV.out.below hb2 (by omega)).out
    simp only [Value.slice.injEq] at e'
    obtain ⟨rfl, _, rfl⟩ := e'
    rcases hd with hd | ⟨b, off, rfl, hb1, hbb2, hbb3, hcell⟩
    · rw [hd] at hL1; simp at hL1
    have hck : w2.cell? ⟨b, off, none⟩ = some (.bool (bs.getD 0 false)) := hcell 0 hL1
    clear hq hq' hval hB2 hcell
    cases h0 : bs.getD 0 false
    case true =>
      rw [h0] at hck
      have HE := Lib.hid (show firstMove f bs = (false, false) by rw [HFM.out, h0]; rfl)
      go_wp2
      go_ret2
      exact ⟨by rw [HE.out]; rfl, hBW.trans (hb2.mono hBW.size)⟩
    rw [h0] at hck
    have HT0 := Lib.hid (show _ from HT.out 0 (Nat.zero_le _) w2 (Drew.refl _))
    obtain ⟨T1, hT1⟩ : ∃ T : Bool, T = turnR bs.length f.clauses (bs.drop 1) 0 := ⟨_, rfl⟩
    have HT1 := Lib.hid (fun (wx : World) (hD : Drew w2 wx) => by
      have := HT.out 1 hL1 wx hD
      rw [← hT1] at this
      exact this)
    rw [← hT1] at HFM
    clear hT1
    rw [List.drop_zero] at HT0
    cases h1 : turnR bs.length f.clauses bs 0
    · have HE := Lib.hid (show firstMove f bs = (false, false) by rw [HFM.out, h0, h1]; rfl)
      rw [h1] at HT0
      go_wp2_with fail
      refine HT0.out.mono ?_
      rintro e w3 ⟨rfl, hD3⟩
      go_wp2
      go_ret2
      exact ⟨by rw [HE.out]; rfl, hBW.trans ((hb2.trans (hD3.below _)).mono hBW.size)⟩
    · have HE := Lib.hid (show firstMove f bs = (!T1, true) by rw [HFM.out, h0, h1]; rfl)
      rw [h1] at HT0
      go_wp2_with fail
      refine HT0.out.mono ?_
      rintro e w3 ⟨rfl, hD3⟩
      go_wp2_with fail
      refine (HT1.out w3 hD3).mono ?_
      rintro e w4 ⟨rfl, hD4⟩
      go_wp2
      go_ret2
      exact ⟨by rw [HE.out]; rfl, hBW.trans ((hb2.trans ((hD3.trans hD4).below _)).mono hBW.size)⟩
end Go.Proofs.Ytcpbgjnijhcpkaa
