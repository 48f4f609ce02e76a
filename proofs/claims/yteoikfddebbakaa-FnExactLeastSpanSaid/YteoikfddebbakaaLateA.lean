/-
  LeastLate: contracts of what it calls in the reference.
-/
import Derived.Test.YteoikfddebbakaaLateP
import Derived.Test.YteoikfddebbakaaOwn2
import Derived.Test.YteoikfddebbakaaConcat
import Derived.Deep.RegionLaw
namespace Go.Proofs.Yteoikfddebbakaa
open Go.RowKit
set_option linter.unusedVariables false
set_option maxRecDepth 100000

theorem OwnI.shape' {w : World} {lo hi : Nat} {v : Value} {zs : List Int} (h : OwnI w lo hi v zs) : ∃ a cap, v = .slice a zs.length cap := by
  obtain ⟨a, cap, e, _⟩ := h.rd.out; exact ⟨a, cap, e⟩
theorem OwnI.shape1' {w : World} {lo hi : Nat} {v : Value} {zs : List Int} {z : Int} (h : OwnI w lo hi v (zs ++ [z])) : ∃ a cap, v = .slice a (zs.length + 1) cap := by
  obtain ⟨a, cap, e, _⟩ := h.rd.out; exact ⟨a, cap, by rw [e, List.length_append]; rfl⟩
theorem OwnN.shape' {w : World} {lo hi : Nat} {v : Value} {zs : List Int} (h : OwnN w lo hi v zs) : ∃ a cap, v = .slice a zs.length cap := by
  obtain ⟨a, cap, e, _⟩ := h.rd.out; exact ⟨a, cap, e⟩
theorem OwnN.shape1' {w : World} {lo hi : Nat} {v : Value} {zs : List Int} {z : Int} (h : OwnN w lo hi v (zs ++ [z])) : ∃ a cap, v = .slice a (zs.length + 1) cap := by
  obtain ⟨a, cap, e, _⟩ := h.rd.out; exact ⟨a, cap, by rw [e, List.length_append]; rfl⟩
theorem Ints.cellOf {w : World} {lo hi n cap : Nat} {a : Option Addr} {zs : List Int} (h : Ints w lo hi (.slice a n cap) zs) {j : Nat} (hj : j < zs.length) :
    ∃ b off, a = some ⟨b, off, none⟩ ∧ b < hi ∧ ∀ i, i < zs.length → w.cell? ⟨b, off + i, none⟩ = some (.int .i64 (zs.getD i 0)) := by
  obtain ⟨a', cap', e, h1, h2, hd⟩ := h.out
  simp only [Value.slice.injEq] at e
  obtain ⟨rfl, rfl, rfl⟩ := e
  rcases hd with rfl | ⟨b', off', r1, r2, r3, r4, hc⟩
  · simp at hj
  · exact ⟨b', off', r1, r3, hc⟩
/-- the cells of job i -/
theorem jobs_cells {w : World} {l h b off n cap : Nat} {js : List JobD} (hv : Jobs w l h (.slice (some ⟨b, off, none⟩) n cap) js) {i : Nat} (hi : i < js.length) :
    w.cell? ⟨b, off + i * 4, none⟩ = some (.int .i64 (jobAt js i).x0) ∧ w.cell? ⟨b, off + i * 4 + 1, none⟩ = some (.int .i64 (jobAt js i).x1) ∧ w.cell? ⟨b, off + i * 4 + 2, none⟩ = some (.int .i64 (jobAt js i).x2) ∧ b < h := by
  obtain ⟨a', cap', e, h1, h2, hd⟩ := hv.out
  simp only [Value.slice.injEq] at e
  obtain ⟨e1, rfl, rfl⟩ := e
  have hj : jobAt js i = js[i] := by simp [jobAt, List.getD, hi]
  rcases hd with rfl | ⟨b', off', r1, r2, r3, r4, hc⟩
  · simp at hi
  · rw [r1] at e1
    injection e1 with e1
    injection e1 with e1 e2
    subst e1; subst e2
    obtain ⟨c0, c1, c2, _⟩ := hc i hi
    rw [hj]
    exact ⟨c0, c1, c2, r3⟩
set_option maxHeartbeats 400000 in
set_option maxRecDepth 100000 in
theorem l06Late_any (j : JobD) (b off : Nat) (e : Int) (w : World) (c1 : w.cell? ⟨b, off + 1, none⟩ = some (.int .i64 j.x1)) (c2 : w.cell? ⟨b, off + 2, none⟩ = some (.int .i64 j.x2)) (hj : okJob j = true) (h0 : 0 ≤ e) (h1 : e ≤ 12000) :
    Calls Try.prog 52 #[.pointer (some ⟨b, off, none⟩), .int .i64 e] w fun e' w' => e' = .returned (.int .i64 (j.x2 * max 0 (e - j.x1))) ∧ Drew w w' := by
  obtain ⟨_, ⟨d1, d2⟩, ⟨x1, x2⟩, _⟩ := okJob_iff.1 hj
  generalize j.x1 = d at *
  generalize j.x2 = x at *
  have hy : 0 ≤ max 0 (e - d) ∧ max 0 (e - d) ≤ 12000 := by omega
  have hm : 0 ≤ x * max 0 (e - d) ∧ x * max 0 (e - d) ≤ 12000000 := by
    generalize max 0 (e - d) = y at *
    refine ⟨Int.mul_nonneg x1 hy.1, ?_⟩
    calc x * y ≤ 1000 * y := Int.mul_le_mul_of_nonneg_right x2 hy.1
      _ ≤ 1000 * 12000 := Int.mul_le_mul_of_nonneg_left hy.2 (by decide)
      _ = 12000000 := by decide
  have HM := Lib.hid (fun n => l00Max_any 0 (e - d) (w.drewN n))
  obtain ⟨y, hye⟩ : ∃ y, y = max 0 (e - d) := ⟨_, rfl⟩
  rw [← hye] at hm hy HM
  have hm1 := hm.1
  have hm2 := hm.2
  have HY := Lib.hid hye
  clear hye hm
  go_enter Try.func52, Try.ntmps52
  go_wp2_with fail
  go_quiet ((go_at_call 60; exact quiet_same (HM.out _)))
  go_wp2
  go_ret
  exact ⟨ret_int (by rw [HY.out]), Drew.one _ _⟩
set_option maxHeartbeats 800000 in
set_option maxRecDepth 100000 in
theorem l04Back_any {l h : Nat} (v : Value) (zs : List Int) (w : World) (hv : Ints w l h v zs) (hh : h ≤ w.heap.size) (hz : zs.length ≤ 1048576) :
    Calls Try.prog 53 #[v] w fun e w' => ∃ u, e = .returned u ∧ OwnI w' w.heap.size w'.heap.size u zs.reverse ∧ Below w.heap.size w w' := by
  obtain ⟨a, cap, rfl, hc1, hc2, hd⟩ := hv.out
  have HR := Lib.hid hv.rng
  have h0 := emptySlice w
  have hs0 : (w.alloc (.cells #[] 2)).heap.size = w.heap.size + 1 := by simp
  have H0 : Hid (OwnI (w.alloc (.cells #[] 2)) w.heap.size (w.alloc (.cells #[] 2)).heap.size (.slice (some ⟨w.heap.size, 0, none⟩) 0 0) (zs.drop zs.length).reverse) := by
    rw [Hid, List.drop_length]; exact h0.mono (Nat.le_refl _) (by omega) (Nat.le_refl _)
  have HB0 := Lib.hid (alloc_belowW w (.cells #[] 2))
  clear hv h0 hs0
  go_enter Try.func53, Try.ntmps53
  go_wp2_with fail
  go_loopw [3, 4] (fun ov iv wr => ∃ k : Nat, k ≤ zs.length ∧ iv = .int .i64 ((k : Int) - 1) ∧ Hid (OwnI wr w.heap.size wr.heap.size ov (zs.drop k).reverse) ∧ Hid (Below w.heap.size w wr)) (fun _ iv _ => (intOf iv + 1).toNat)
  case atStart => exact ⟨zs.length, Nat.le_refl _, rfl, H0, HB0⟩
  case round =>
    clear H0 HB0
    obtain ⟨k, hk, rfl, HO, HB⟩ := hrel
    have hs := HB.out.size
    by_cases h0 : k = 0
    · subst h0
      have hlt : ¬ (((0 : Nat) : Int) - 1 ≥ 0) := by omega
      go_wp2
      go_ret
      exact ⟨_, rfl, HO.out, HB.out⟩
    · obtain ⟨q, rfl⟩ : ∃ q, k = q + 1 := ⟨k - 1, by omega⟩
      rw [show (((q + 1 : Nat) : Int) - 1) = (q : Int) by omega]
      have hq : q < zs.length := by omega
      rcases hd with rfl | ⟨b, off, rfl, hb1, hb2, hb3, hcell⟩
      · simp at hq
      have hck := hcell q hq
      rw [← HB.out.cell (p := ⟨b, off + q, none⟩) (show b < w.heap.size by omega)] at hck
      have HD : Hid ((zs.drop q).reverse = (zs.drop (q + 1)).reverse ++ [zs.getD q 0]) := by
        rw [Hid, drop_cons zs q hq, List.reverse_cons]; simp [List.getD, hq]
      have hxr : I64 (zs.getD q 0) := HR.out _ (by simp [List.getD, hq])
      obtain ⟨x, hx⟩ : ∃ x, x = zs.getD q 0 := ⟨_, rfl⟩
      rw [← hx] at hck HD hxr
      obtain ⟨D, hDe⟩ : ∃ D, D = (zs.drop (q + 1)).reverse := ⟨_, rfl⟩
      have hDl : D.length ≤ 1048576 := by rw [hDe, List.length_reverse, List.length_drop]; omega
      rw [← hDe] at HO HD
      obtain ⟨oa, oc, rfl⟩ := HO.out.shape'
      clear hcell hx hDe
      go_wp2_with (at_builtin; refine wpList_app1 rfl _ _ rfl _ D rfl x _ HO.out rfl hxr (by omega) hs ?_)
      intro v3 w3 ho3 hsm3 hz3 _
      have HO3 : Hid (OwnI w3 w.heap.size w3.heap.size v3 (zs.drop q).reverse) := by rw [Hid, HD.out]; exact ho3
      have HB3 := Lib.hid (HB.out.trans (hsm3.below (Nat.le_refl _) hs))
      clear ho3 hsm3 hz3
      go_wp2
      go_roundw
      case rel => exact ⟨q, by omega, by first | rfl | go_num, HO3, HB3⟩
      case measure => (simp [intOf]; try omega)
end Go.Proofs.Yteoikfddebbakaa
