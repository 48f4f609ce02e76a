/-
  slices.Reverse at a part of a list of the call's own.
-/
import Derived.Test.YtkankfdpodofjaaSwapP
import Derived.Test.YtkankfdpodofjaaCopy
import Derived.RegionTactic
import Derived.Deep.Heap
namespace Go.Proofs.Ytkankfdpodofjaa
open Go.RowKit
set_option linter.unusedVariables false
set_option maxRecDepth 100000

theorem revO_step {F A : List Int} {N off n i : Nat} (hl : F.length = N) (hN : off + n ≤ N) (hij : 2 * i + 1 < n) (h : ∀ q, q < N → F.getD q 0 = if off ≤ q ∧ q < off + n ∧ (q < off + i ∨ off + n ≤ q + i) then A.getD (2 * off + n - 1 - q) 0 else A.getD q 0) :
    ∀ q, q < N → ((F.set (off + i) (F.getD (off + (n - 1 - i)) 0)).set (off + (n - 1 - i)) (F.getD (off + i) 0)).getD q 0 = if off ≤ q ∧ q < off + n ∧ (q < off + (i + 1) ∨ off + n ≤ q + (i + 1)) then A.getD (2 * off + n - 1 - q) 0 else A.getD q 0 := by
  intro q hq
  have hi := h (off + i) (by omega)
  have hj := h (off + (n - 1 - i)) (by omega)
  rw [if_neg (by omega)] at hi hj
  have hs : ∀ (G : List Int) (a : Nat) (x : Int), a < G.length → (G.set a x).getD q 0 = if a = q then x else G.getD q 0 := by
    intro G a x ha
    simp only [List.getD, List.getElem?_set]
    split
    · simp_all
    · rfl
  rw [hs _ _ _ (by rw [List.length_set]; omega), hs _ _ _ (by omega), hi, hj, h q hq]
  by_cases e1 : off + (n - 1 - i) = q
  · rw [if_pos e1, if_pos (by omega)]; congr 1; omega
  · rw [if_neg e1]
    by_cases e2 : off + i = q
    · rw [if_pos e2, if_pos (by omega)]; congr 1; omega
    · rw [if_neg e2]
      by_cases e3 : off ≤ q ∧ q < off + n ∧ (q < off + i ∨ off + n ≤ q + i)
      · rw [if_pos e3, if_pos (by omega)]
      · rw [if_neg e3, if_neg (by omega)]
theorem revO_end {F A : List Int} {N i k x : Nat} (hl : F.length = N) (hA : A.length = N) (hik : i ≤ k) (hk : k < N) (hx : ¬ 2 * x + 1 < k + 1 - i) (h : ∀ q, q < N → F.getD q 0 = if i ≤ q ∧ q < i + (k + 1 - i) ∧ (q < i + x ∨ i + (k + 1 - i) ≤ q + x) then A.getD (2 * i + (k + 1 - i) - 1 - q) 0 else A.getD q 0) : F = swappedP A i k := by
  apply List.ext_getElem (by rw [swappedP_len, hl, hA])
  intro q h1 h2
  have h3 := h q (by omega)
  have h4 := swappedP_at A i k (q := q) (by omega)
  rw [getD_lt h1] at h3
  rw [getD_lt h2] at h4
  rw [h3, h4]
  by_cases e3 : i ≤ q ∧ q < i + (k + 1 - i) ∧ (q < i + x ∨ i + (k + 1 - i) ≤ q + x)
  · rw [if_pos e3, if_pos (by omega)]; congr 1; omega
  · rw [if_neg e3]
    by_cases e4 : i ≤ q ∧ q ≤ k
    · rw [if_pos e4]; congr 1; omega
    · rw [if_neg e4]
set_option maxHeartbeats 1000000 in
set_option maxRecDepth 100000 in
theorem reverseO_any (lo g N cap : Nat) (A : List Int) (w : World) (h : RowI w lo g N cap A) (off n c : Nat) (hN : off + n ≤ N) (hn : N ≤ 4096) :
    Calls Try.prog 56 #[.slice (some ⟨g, off, none⟩) n c] w fun e w' => e = .returned (.tuple #[]) ∧ Below lo w w' ∧ (∀ k, k ≠ g → w'.heap[k]? = w.heap[k]?) ∧ ∃ F x, RowI w' lo g N cap F ∧ ¬ 2 * x + 1 < n ∧ ∀ q, q < N → F.getD q 0 = if off ≤ q ∧ q < off + n ∧ (q < off + x ∨ off + n ≤ q + x) then A.getD (2 * off + n - 1 - q) 0 else A.getD q 0 := by
  have HZ := Lib.hid h.length
  have HG := Lib.hid h.ge
  have HH := Lib.hid h
  clear h
  go_enter Try.func56, Try.ntmps56
  go_wp2
  go_loopw [2, 3] (fun iv jv wr => ∃ (i : Nat) (F : List Int), i ≤ n ∧ iv = .int .i64 i ∧ jv = .int .i64 ((n : Int) - 1 - i) ∧ Hid (∀ q, q < N → F.getD q 0 = if off ≤ q ∧ q < off + n ∧ (q < off + i ∨ off + n ≤ q + i) then A.getD (2 * off + n - 1 - q) 0 else A.getD q 0) ∧ Hid (RowI wr lo g N cap F) ∧ Hid (Below lo w wr) ∧ Hid (∀ k, k ≠ g → wr.heap[k]? = w.heap[k]?)) (fun iv _ _ => n - (intOf iv).toNat)
  case atStart => exact ⟨0, A, Nat.zero_le _, rfl, by go_num, fun k hk => by rw [if_neg (by omega)], HH, Below.refl _ _, fun _ _ => rfl⟩
  case round =>
    obtain ⟨i, F, hi, rfl, rfl, HF, HR, HB, HK⟩ := hrel
    have HFL := Lib.hid HR.out.length
    by_cases hij : 2 * i + 1 < n
    · obtain ⟨j, hj⟩ : ∃ j : Nat, j = n - 1 - i := ⟨_, rfl⟩
      have hjn : j < n := by omega
      have hji : i < j := by omega
      have hje : (n : Int) - 1 - i = (j : Int) := by omega
      have hnj : (j : Int) - 1 = (n : Int) - 1 - ((i + 1 : Nat) : Int) := by omega
      have HN := Lib.hid hnj
      rw [hje]
      have ci := HR.out.cell (k := off + i) (by omega)
      have cj := HR.out.cell (k := off + j) (by omega)
      have fi := HR.out.frozen (off + i)
      have fj := HR.out.frozen (off + j)
      have HS : Hid (∀ q, q < N → ((F.set (off + i) (F.getD (off + j) 0)).set (off + j) (F.getD (off + i) 0)).getD q 0 = if off ≤ q ∧ q < off + n ∧ (q < off + (i + 1) ∨ off + n ≤ q + (i + 1)) then A.getD (2 * off + n - 1 - q) 0 else A.getD q 0) := by
        rw [hj]; exact revO_step HFL.out hN hij HF.out
      obtain ⟨x, hx⟩ : ∃ x, x = F.getD (off + i) 0 := ⟨_, rfl⟩
      obtain ⟨y, hy⟩ : ∃ y, y = F.getD (off + j) 0 := ⟨_, rfl⟩
      rw [← hx] at ci HS
      rw [← hy] at cj HS
      clear hx hy hj hje hnj hij
      go_wp2_with fail
      go_region
      all_goals
        obtain ⟨w6, hw6⟩ : ∃ w6, w6 = ((wr.setCell ⟨g, off + i, none⟩ (.int .i64 y)).setCell ⟨g, off + j, none⟩ (.int .i64 x)).drew := ⟨_, rfl⟩
        rw [← hw6]
        have HR6 : Hid (RowI w6 lo g N cap ((F.set (off + i) y).set (off + j) x)) := by rw [Hid, hw6]; exact ((HR.out.stored (off + i) y).stored (off + j) x).drew ⟨1, rfl⟩
        have HB6 : Hid (Below lo w w6) := by rw [Hid, hw6]; exact ((HB.out.setCell (p := ⟨g, off + i, none⟩) HG.out _).setCell (p := ⟨g, off + j, none⟩) HG.out _).trans ((show Drew _ (World.drew _) from ⟨1, rfl⟩).below _)
        have HK6 : Hid (∀ k, k ≠ g → w6.heap[k]? = w.heap[k]?) := by
          rw [Hid, hw6]; intro k hk; rw [← HK.out k hk]
          exact (Go.Deep.blk_setCell_other _ ⟨g, off + j, none⟩ _ k hk).trans (Go.Deep.blk_setCell_other _ ⟨g, off + i, none⟩ _ k hk)
        clear hw6 ci cj fi fj
        go_wp2
        go_roundw
        case rel => exact ⟨i + 1, _, by omega, by go_num, by rw [← HN.out], HS, HR6, HB6, HK6⟩
        case measure => simp [intOf]; omega
    · have hge : ¬ (i : Int) < (n : Int) - 1 - i := by omega
      have HIJ := Lib.hid hij
      clear hij
      go_wp2
      go_end0
      exact ⟨rfl, HB.out, HK.out, F, HR.out, i, by have := HIJ.out; omega, HF.out⟩
set_option maxHeartbeats 1000000 in
set_option maxRecDepth 100000 in
theorem swapped_any {l h : Nat} (v : Value) (A : List Int) (i k : Nat) (w : World) (hv : Ints w l h v A) (hh : h ≤ w.heap.size) (hik : i ≤ k) (hk : k < A.length) (hl : A.length ≤ 100) :
    Calls Try.prog 79 #[v, .int .i64 i, .int .i64 k] w fun e w' => ∃ u, e = .returned u ∧ OwnI w' w.heap.size w'.heap.size u (swappedP A i k) ∧ Below w.heap.size w w' := by
  have HCP := Lib.hid (copyInts_any v A w hv hh (by omega))
  have HRNG := Lib.hid hv.rng
  clear hv
  go_enter Try.func79, Try.ntmps79
  go_wp2_with fail
  refine HCP.out.mono ?_
  rintro e w1 ⟨u, rfl, ho, hb⟩
  rcases ho.rowOf with ⟨_, h0⟩ | ⟨g, cap, rfl, hg1, hg2, hg3, hrow⟩
  · exfalso; rw [h0] at hk; simp at hk
  have HR := Lib.hid hrow
  have HB := Lib.hid hb
  have hz := hb.size
  obtain ⟨N, hN⟩ : ∃ x, x = A.length := ⟨_, rfl⟩
  have HN := Lib.hid hN
  rw [← hN] at HR hk hl hg2
  rw [← hN]
  have HRV := Lib.hid (reverseO_any w.heap.size g N cap A w1 HR.out i (k + 1 - i) (cap - i) (by omega) (by omega))
  have k1 : (k : Int) + 1 ≤ (cap : Int) := by omega
  have k2 : (i : Int) ≤ (k : Int) + 1 := by omega
  have k3 : (0 : Int) ≤ (i : Int) := by omega
  have k4 : ((k : Int) + 1).toNat = k + 1 := by omega
  have k5 : i ≤ k + 1 := by omega
  have k6 : k + 1 ≤ cap := by omega
  clear ho hb hrow hN HCP
  go_wp2_with fail
  refine HRV.out.mono ?_
  rintro e w2 ⟨rfl, hb2, _, F, x, hr2, hx, hF⟩
  have hFl := hr2.length
  have HE := Lib.hid (revO_end hFl HN.out.symm hik hk hx hF)
  have HR2 := Lib.hid hr2
  have HB2 := Lib.hid (HB.out.trans hb2)
  clear hb2 hr2 hF hFl
  go_wp2
  go_ret
  refine ⟨_, rfl, ?_, HB2.out⟩
  have := HR2.out.own (hi := w2.heap.size) (fun y hy => by
    rw [HE.out] at hy
    simp only [swappedP, List.mem_map, List.mem_range] at hy
    obtain ⟨q, hq, rfl⟩ := hy
    exact HRNG.out _ (getD_memI (by rw [← HN.out] at hq ⊢; split <;> omega))) (by omega) HR2.out.lt (Nat.le_refl _)
  rw [HE.out] at this
  exact this
end Go.Proofs.Ytkankfdpodofjaa
