/-
  A copy of a slice of integers (copyInts).
-/
import Derived.Test.YtkankfdpodofjaaConcat
namespace Go.Proofs.Ytkankfdpodofjaa
open Go.RowKit
set_option linter.unusedVariables false
set_option maxRecDepth 100000

set_option maxHeartbeats 800000 in
set_option maxRecDepth 100000 in
theorem copyInts_any {l h : Nat} (v : Value) (zs : List Int) (w : World) (hv : Ints w l h v zs) (hh : h ≤ w.heap.size) (hz : zs.length ≤ 1048576) :
    Calls Try.prog 52 #[v] w fun e w' => ∃ u, e = .returned u ∧ OwnI w' w.heap.size w'.heap.size u zs ∧ Below w.heap.size w w' := by
  have hb := alloc_belowW w (.cells #[] 2)
  have hx := hv.below hb hh
  have h0 := emptySlice w
  have hr : ∀ y ∈ zs, I64 y := hv.rng
  obtain ⟨W, hW⟩ : ∃ W, W = w.alloc (.cells #[] 2) := ⟨_, rfl⟩
  rw [← hW] at hb hx h0
  have hsW : W.heap.size = w.heap.size + 1 := by rw [hW]; simp
  obtain ⟨a, cap, rfl, hc1, hc2, hd⟩ := hx.out
  have HB := Lib.hid hb
  have H0 := Lib.hid h0
  have HR := Lib.hid hr
  clear hx hv hb h0 hr
  by_cases hn : 0 < zs.length
  · rcases hd with hd | ⟨b, off, rfl, hb1, hb2, hb3, hcell⟩
    · rw [hd] at hn; simp at hn
    have HC : Hid (∀ j, j < zs.length → W.cell? ((⟨b, off, none⟩ : Addr).add j) = some (.int .i64 (zs.getD j 0))) := fun j hj => by
      rw [add_plain']; have := hcell j hj; simpa [List.getD, hj] using this
    clear hcell
    go_enter Try.func52, Try.ntmps52
    go_wp2_with (at_builtin; rw [← hW]; clear hW; refine wpList_appI rfl _ _ rfl _ [] rfl H0.out zs ⟨b, off, none⟩ cap rfl hn HR.out HC.out (by simp; omega) (by omega) ?_)
    intro v2 w3 ho2 hsm hz3 _
    have HO : Hid (OwnI w3 w.heap.size w3.heap.size v2 zs) := by simpa [Hid] using ho2
    clear ho2
    go_wp2
    go_ret
    exact ⟨_, rfl, HO.out, HB.out.trans (hsm.below (Nat.le_refl _) (by omega))⟩
  · have e : zs = [] := List.eq_nil_of_length_eq_zero (by omega)
    subst e
    have HR0 := Lib.hid (run_append_empty W (some ⟨w.heap.size, 0, none⟩) 0 0 (Nat.le_refl _) a cap)
    go_enter Try.func52, Try.ntmps52
    go_wp2_with (at_builtin; rw [← hW]; clear hW; refine wpList_appRun rfl _ _ 25 25 rfl rfl rfl HR0.out ?_)
    go_ret
    exact ⟨_, rfl, H0.out.mono (Nat.le_refl _) (by omega) (Nat.le_refl _), HB.out⟩
end Go.Proofs.Ytkankfdpodofjaa
