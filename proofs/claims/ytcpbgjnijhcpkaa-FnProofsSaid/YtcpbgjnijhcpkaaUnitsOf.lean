/-
  UnitsOf: contracts in the reference and in the program.
-/
import Derived.Test.YtcpbgjnijhcpkaaUnitS
import Derived.Test.YtcpbgjnijhcpkaaUnitI
namespace Go.Proofs.Ytcpbgjnijhcpkaa
open Go.RowKit
set_option linter.unusedVariables false
set_option maxRecDepth 100000

def unitsOfF (f : FormD) (g : List Int) : List Int × Bool × Bool := if validForm f && litsGo f.letters [] g then ((unitsF f.clauses g).known, decide (0 ≤ (unitsF f.clauses g).wrong), true) else ([], false, false)
theorem unitsOf_no {f : FormD} {g : List Int} (h : (validForm f && litsGo f.letters [] g) = false) : unitsOfF f g = ([], false, false) := by rw [unitsOfF, h]; rfl
theorem unitsOf_yes {f : FormD} {g : List Int} (h : (validForm f && litsGo f.letters [] g) = true) : unitsOfF f g = ((unitsF f.clauses g).known, decide (0 ≤ (unitsF f.clauses g).wrong), true) := by rw [unitsOfF, h]; rfl
theorem valid_lits {f : FormD} (h : validForm f = true) : ∀ c ∈ f.clauses, ∀ x ∈ c, isLit f.letters x = true := fun c hc => clause_lits ((validForm_bounds h).2.2 c hc)
set_option maxHeartbeats 2000000 in
set_option maxRecDepth 100000 in
theorem implUnitsOf_any (w : World) {l h l' h' : Nat} (v : Value) (f : FormD) (v' : Value) (g : List Int) (hv : FormR w l h v f) (hh : h ≤ w.heap.size) (hz : SmallII f.clauses) (hv' : Ints w l' h' v' g) (hh' : h' ≤ w.heap.size) (hz' : g.length ≤ 1048576) :
    Calls Try.prog 47 #[v, v'] w fun e w' => ∃ r, e = .returned (.tuple #[r, .bool (unitsOfF f g).2.1, .bool (unitsOfF f g).2.2]) ∧ OwnI w' w.heap.size w'.heap.size r (unitsOfF f g).1 ∧ Below w.heap.size w w' := by
  obtain ⟨u, rfl, hu⟩ := hv.ex
  have kL := hv.rng
  obtain ⟨a0, cap0, V0, e0, _⟩ := hu.out
  subst e0
  obtain ⟨ga, gcap, ge, gc1, gc2, _⟩ := hv'.out
  subst ge
  obtain ⟨W, hW⟩ : ∃ W, W = w.alloc (.cells #[.int .i64 f.letters, .slice a0 f.clauses.length cap0] 26) := ⟨_, rfl⟩
  have hsW : W.heap.size = w.heap.size + 1 := by rw [hW]; simp
  have hBW : Below w.heap.size w W := by rw [hW]; exact alloc_below _ _
  have hbx : TwoC W w.heap.size 26 (.int .i64 f.letters) (.slice a0 f.clauses.length cap0) := by rw [hW]; exact TwoC.new _ _ _ _
  have HF := Lib.hid (hv.below hBW hh)
  have HU := Lib.hid (hu.below hBW hh)
  have HG := Lib.hid (hv'.below hBW hh')
  have HB := Lib.hid hbx
  have HBW := Lib.hid hBW
  have hW1 : w.heap.size < W.heap.size := by omega
  have hhW : h ≤ W.heap.size := by omega
  have hhW' : h' ≤ W.heap.size := by omega
  have HZ := Lib.hid hz
  have q0 := hbx.c0
  have q1 := hbx.c1
  clear hu hv hv' hbx hBW hsW hz
  go_enter Try.func47, Try.ntmps47
  go_wp2_with fail
  rw [← hW]
  clear hW
  go_wp2_with fail
  refine (implValidForm_any W _ _ HF.out hhW HZ.out).mono ?_
  rintro e w2 ⟨rfl, hb2⟩
  have hs2 := hb2.size
  clear q0 q1
  have hbx2 := HB.out.below hb2 hW1
  have q0 := hbx2.c0
  have q1 := hbx2.c1
  have HB2 := Lib.hid hbx2
  have HBW2 := Lib.hid (HBW.out.trans (hb2.mono (by omega)))
  have HG2 := Lib.hid (HG.out.below hb2 hhW')
  have HU2 := Lib.hid (HU.out.below hb2 hhW)
  clear hbx2 hb2
  cases hval : validForm f
  · have HE := Lib.hid (unitsOf_no (f := f) (g := g) (by rw [hval]; rfl))
    go_wp2
    go_ret3
    exact ⟨_, by rw [HE.out]; rfl, by rw [HE.out]; exact OwnI.nil _ _ _ (Nat.le_refl _), HBW2.out⟩
  have bL := (validForm_bounds hval).1
  go_wp2_with fail
  refine (areGiven_any f.letters _ g w2 bL HG2.out hz').mono ?_
  rintro e w3 ⟨rfl, rfl⟩
  cases hgv : litsGo f.letters [] g
  · have HE := Lib.hid (unitsOf_no (f := f) (g := g) (by rw [hgv, Bool.and_false]))
    go_wp2
    go_ret3
    exact ⟨_, by rw [HE.out]; rfl, by rw [HE.out]; exact OwnI.nil _ _ _ (Nat.le_refl _), HBW2.out⟩
  have HE := Lib.hid (unitsOf_yes (f := f) (g := g) (by rw [hgv, hval]; rfl))
  have HUN := Lib.hid (unitsOf_any w2 f.letters _ _ f.clauses g bL.2 HU2.out (by omega) HZ.out (valid_lits hval) HG2.out (by omega) (cons_of_lits hgv))
  obtain ⟨U, hU⟩ : ∃ U, U = unitsF f.clauses g := ⟨_, rfl⟩
  rw [← hU] at HE HUN
  clear hval hgv hU
  go_wp2_with fail
  refine HUN.out.mono ?_
  rintro e w4 ⟨vk, vb, rfl, hok, hob, hb4⟩
  obtain ⟨va, vc, rfl⟩ := hok.shape
  obtain ⟨ba, bc, rfl⟩ := hob.shape
  have hs4 := hb4.size
  have hB4 := HBW2.out.trans (hb4.mono (by omega))
  obtain ⟨W4, hW4⟩ : ∃ W, W = w4.alloc (.cells #[.slice va U.known.length vc, .slice ba U.why.length bc, .int .i64 U.wrong] 71) := ⟨_, rfl⟩
  have hsW4 : W4.heap.size = w4.heap.size + 1 := by rw [hW4]; simp
  have hBW4 : Below w4.heap.size w4 W4 := by rw [hW4]; exact alloc_below _ _
  have HT : Hid (TriC W4 w4.heap.size 71 (.slice va U.known.length vc) (.slice ba U.why.length bc) (.int .i64 U.wrong)) := by rw [Hid, hW4]; exact TriC.new _ _ _ _ _
  have HK4 := Lib.hid (hok.below hBW4 (Nat.le_refl _))
  have HB5 : Hid (Below w.heap.size w W4) := hB4.trans (hBW4.mono (by omega))
  have hsz4 : w4.heap.size < W4.heap.size := by omega
  have hw24 : w.heap.size ≤ w2.heap.size := by omega
  have c0 := HT.out.c0
  have c2 := HT.out.c2
  clear hok hob hb4 hB4 hBW4
  go_wp2_with fail
  rw [← hW4]
  clear hW4 hsW4
  by_cases hwr : 0 ≤ U.wrong
  · have e1 : decide (0 ≤ U.wrong) = true := by simpa using hwr
    have HE1 : Hid (unitsOfF f g = (U.known, true, true)) := by rw [Hid, HE.out, e1]
    go_quiet (fail)
    go_wp2
    go_ret3
    exact ⟨.slice va U.known.length vc, by rw [HE1.out]; rfl, by rw [HE1.out]; exact (HK4.out.drewN _).mono hw24 (Nat.le_of_lt hsz4) (Nat.le_refl _), below_drewN HB5.out _⟩
  · have e1 : decide (0 ≤ U.wrong) = false := by simpa using hwr
    have HE1 : Hid (unitsOfF f g = (U.known, false, true)) := by rw [Hid, HE.out, e1]
    go_quiet (fail)
    go_wp2
    go_ret3
    exact ⟨.slice va U.known.length vc, by rw [HE1.out]; rfl, by rw [HE1.out]; exact (HK4.out.drewN _).mono hw24 (Nat.le_of_lt hsz4) (Nat.le_refl _), below_drewN HB5.out _⟩
end Go.Proofs.Ytcpbgjnijhcpkaa
