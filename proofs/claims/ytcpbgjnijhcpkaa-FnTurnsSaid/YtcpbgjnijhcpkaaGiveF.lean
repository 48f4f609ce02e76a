/-
  A form is returned if it is valid: contracts in the reference and in the program.
-/
import Derived.Test.YtcpbgjnijhcpkaaFormA
import Derived.Test.YtcpbgjnijhcpkaaTwoC
namespace Go.Proofs.Ytcpbgjnijhcpkaa
open Go.RowKit
set_option linter.unusedVariables false
set_option maxRecDepth 100000

def checkedF (f : FormD) : FormD × Bool := if validForm f then (f, true) else (⟨0, []⟩, false)
set_option maxHeartbeats 1000000 in
set_option maxRecDepth 100000 in
theorem l05Give_any (w : World) {l h : Nat} (v : Value) (f : FormD) (hv : FormR w l h v f) (hh : h ≤ w.heap.size) :
    Calls Try.prog 102 #[v] w fun e w' => ∃ r, e = .returned (.tuple #[r, .bool (validForm f)]) ∧ (validForm f = true → r = v) ∧ (validForm f = false → r = .agg #[.int .i64 0, .slice none 0 0]) ∧ Below w.heap.size w w' := by
  obtain ⟨u, rfl, hu⟩ := hv.ex
  have kL := hv.rng
  obtain ⟨a0, cap0, V0, e0, _⟩ := hu.out
  subst e0
  obtain ⟨W1, hW1⟩ : ∃ W, W = w.alloc (.cells #[.int .i64 f.letters, .slice a0 f.clauses.length cap0] 26) := ⟨_, rfl⟩
  obtain ⟨W, hW⟩ : ∃ W, W = W1.alloc (.cells #[.int .i64 0, .slice none 0 0] 26) := ⟨_, rfl⟩
  have hs1 : W1.heap.size = w.heap.size + 1 := by rw [hW1]; simp
  have hsW : W.heap.size = w.heap.size + 2 := by rw [hW]; simp [hs1]
  have hB1 : Below w.heap.size w W1 := by rw [hW1]; exact alloc_below _ _
  have hBW : Below w.heap.size w W := by rw [hW]; exact hB1.alloc (by omega) _
  have hbx : TwoC W w.heap.size 26 (.int .i64 f.letters) (.slice a0 f.clauses.length cap0) := by rw [hW]; refine TwoC.alloc ?_ _; rw [hW1]; exact TwoC.new _ _ _ _
  have hbr : TwoC W (w.heap.size + 1) 26 (.int .i64 0) (.slice none 0 0) := by rw [hW, ← hs1]; exact TwoC.new _ _ _ _
  have HU := Lib.hid (hu.below hBW hh)
  have HB := Lib.hid hbx
  have HR := Lib.hid hbr
  clear hbx hu hv hbr hB1
  go_enter Try.func102, Try.ntmps102
  go_wp2_with fail
  rw [← hW1, ← hW]
  clear hW hW1
  refine (l05Is_any W _ _ f HB.out.c0 HB.out.c1 (by omega) kL HU.out (by omega)).mono ?_
  rintro e w2 ⟨rfl, hb2⟩
  have hs2 := hb2.size
  have hbr2 := HR.out.below hb2 HR.out.lt
  have r0 := hbr2.c0
  have r1 := hbr2.c1
  have g0 := hbr2.f0
  have g1 := hbr2.f1
  have hbx2 := HB.out.below hb2 HB.out.lt
  have q0 := hbx2.c0
  have q1 := hbx2.c1
  clear hbr2 hbx2
  cases hval : validForm f
  · go_wp2_with fail
    refine bodyPost_ret (v := .tuple #[.agg #[.int .i64 0, .slice none 0 0], .bool false]) (by simp [results, Try.results102, go_sem, r0, r1]) rfl ⟨_, by rw [hval], (fun h => by rw [hval] at h; cases h), fun _ => rfl, ?_⟩
    exact ((hBW.trans (hb2.mono hBW.size)).setCell (by simp) _).setCell (by simp) _
  · go_wp2_with fail
    refine bodyPost_ret (v := .tuple #[.agg #[.int .i64 f.letters, .slice a0 f.clauses.length cap0], .bool true]) (by simp [results, Try.results102, go_sem, r0, r1]) rfl ⟨_, by rw [hval], fun _ => rfl, (fun h => by rw [hval] at h; cases h), ?_⟩
    exact ((hBW.trans (hb2.mono hBW.size)).setCell (by simp) _).setCell (by simp) _
set_option maxHeartbeats 1000000 in
set_option maxRecDepth 100000 in
theorem checked_any (w : World) {l h : Nat} (v : Value) (f : FormD) (hv : FormR w l h v f) (hh : h ≤ w.heap.size) (hz : SmallII f.clauses) :
    Calls Try.prog 95 #[v] w fun e w' => ∃ r, e = .returned (.tuple #[r, .bool (validForm f)]) ∧ (validForm f = true → r = v) ∧ (validForm f = false → r = .agg #[.int .i64 0, .slice none 0 0]) ∧ Below w.heap.size w w' := by
  obtain ⟨u, rfl, hu⟩ := hv.ex
  have kL := hv.rng
  obtain ⟨a0, cap0, V0, e0, _⟩ := hu.out
  subst e0
  obtain ⟨W1, hW1⟩ : ∃ W, W = w.alloc (.cells #[.int .i64 f.letters, .slice a0 f.clauses.length cap0] 26) := ⟨_, rfl⟩
  obtain ⟨W, hW⟩ : ∃ W, W = W1.alloc (.cells #[.int .i64 0, .slice none 0 0] 26) := ⟨_, rfl⟩
  have hs1 : W1.heap.size = w.heap.size + 1 := by rw [hW1]; simp
  have hsW : W.heap.size = w.heap.size + 2 := by rw [hW]; simp [hs1]
  have hB1 : Below w.heap.size w W1 := by rw [hW1]; exact alloc_below _ _
  have hBW : Below w.heap.size w W := by rw [hW]; exact hB1.alloc (by omega) _
  have hbx : TwoC W w.heap.size 26 (.int .i64 f.letters) (.slice a0 f.clauses.length cap0) := by rw [hW]; refine TwoC.alloc ?_ _; rw [hW1]; exact TwoC.new _ _ _ _
  have hbr : TwoC W (w.heap.size + 1) 26 (.int .i64 0) (.slice none 0 0) := by rw [hW, ← hs1]; exact TwoC.new _ _ _ _
  have HF := Lib.hid (hv.below hBW hh)
  have HB := Lib.hid hbx
  have HR := Lib.hid hbr
  have HZ := Lib.hid hz
  have q0 := hbx.c0
  have q1 := hbx.c1
  clear hu hv hbr hB1 hbx hz
  go_enter Try.func95, Try.ntmps95
  go_wp2_with fail
  rw [← hW1, ← hW]
  clear hW hW1
  go_wp2_with fail
  refine (implValidForm_any W _ _ HF.out (by omega) HZ.out).mono ?_
  rintro e w2 ⟨rfl, hb2⟩
  clear q0 q1
  have hs2 := hb2.size
  have hbr2 := HR.out.below hb2 HR.out.lt
  have r0 := hbr2.c0
  have r1 := hbr2.c1
  have g0 := hbr2.f0
  have g1 := hbr2.f1
  have hbx2 := HB.out.below hb2 HB.out.lt
  have q0 := hbx2.c0
  have q1 := hbx2.c1
  clear hbr2 hbx2
  cases hval : validForm f
  · go_wp2_with fail
    refine bodyPost_ret (v := .tuple #[.agg #[.int .i64 0, .slice none 0 0], .bool false]) (by simp [results, Try.results95, go_sem, r0, r1]) rfl ⟨_, by rw [hval], (fun h => by rw [hval] at h; cases h), fun _ => rfl, ?_⟩
    exact ((hBW.trans (hb2.mono hBW.size)).setCell (by simp) _).setCell (by simp) _
  · go_wp2_with fail
    refine bodyPost_ret (v := .tuple #[.agg #[.int .i64 f.letters, .slice a0 f.clauses.length cap0], .bool true]) (by simp [results, Try.results95, go_sem, r0, r1]) rfl ⟨_, by rw [hval], fun _ => rfl, (fun h => by rw [hval] at h; cases h), ?_⟩
    exact ((hBW.trans (hb2.mono hBW.size)).setCell (by simp) _).setCell (by simp) _
end Go.Proofs.Ytcpbgjnijhcpkaa
