/-
  The digits of a number and a slice turned around, in the program (as XLateI, for a seat that lacks the jobs).
-/
import Derived.Test.YtkankfdpodofjaaBit2
import Derived.Test.YtkankfdpodofjaaApp
import Derived.Test.YtkankfdpodofjaaApp2
import Derived.Deep.RegionHeld3
import Derived.BigQuiet
import Derived.Deep.Heap
namespace Go.Proofs.Ytkankfdpodofjaa
open Go.RowKit
set_option linter.unusedVariables false
set_option maxRecDepth 100000

theorem dig_len (n m : Nat) : (dig n m).length ≤ n := by
  have := List.length_filter_le (dgt m) (List.range n)
  rw [List.length_range] at this
  exact this
theorem OwnI.shape' {w : World} {lo hi : Nat} {v : Value} {zs : List Int} (h : OwnI w lo hi v zs) : ∃ a cap, v = .slice a zs.length cap := by
  obtain ⟨a, cap, e, _⟩ := h.rd.out; exact ⟨a, cap, e⟩
def digI (n m : Nat) : List Int := (dig n m).map fun (i : Nat) => (i : Int)
theorem digI_len (n m : Nat) : (digI n m).length ≤ n := by rw [digI, List.length_map]; exact dig_len n m
theorem digI_succ (n m : Nat) : digI (n + 1) m = if dgt m n then digI n m ++ [(n : Int)] else digI n m := by
  unfold digI; rw [dig_succ]; split <;> simp
theorem div_pos_iff (m i : Nat) : (0 : Int) < (m : Int) / 2 ^ i ↔ m / 2 ^ i ≠ 0 := by
  have e : ((m : Int) / 2 ^ i) = ((m / 2 ^ i : Nat) : Int) := by simp
  rw [e]
  generalize m / 2 ^ i = q
  omega
set_option maxHeartbeats 1000000 in
set_option maxRecDepth 100000 in
theorem implDigits_any (k m : Nat) (w : World) (hk : k ≤ 12) (hm : m < 2 ^ k) :
    Calls Try.prog 61 #[.int .i64 m] w fun e w' => ∃ r, e = .returned r ∧ OwnI w' w.heap.size w'.heap.size r (digI k m) ∧ Below w.heap.size w w' := by
  have hm4 : m < 4096 := by
    have : 2 ^ k ≤ 2 ^ 12 := Nat.pow_le_pow_right (by decide) hk
    omega
  have HEND : Hid (m / 2 ^ k = 0) := Nat.div_eq_of_lt hm
  have H0 : Hid (OwnI w w.heap.size w.heap.size (.slice none 0 0) (digI 0 m)) := OwnI.nil _ _ _ (Nat.le_refl _)
  have HB0 := Lib.hid (Below.refl w.heap.size w)
  clear hm
  go_enter Try.func61, Try.ntmps61
  go_wp2
  go_loopw [3, 4] (fun rv iv wr => ∃ i : Nat, i ≤ k ∧ iv = .int .i64 i ∧ Hid (OwnI wr w.heap.size wr.heap.size rv (digI i m)) ∧ Hid (Below w.heap.size w wr)) (fun _ iv _ => k - (intOf iv).toNat)
  case atStart => exact ⟨0, Nat.zero_le _, rfl, H0, HB0⟩
  case round =>
    clear H0 HB0
    obtain ⟨i, hi, rfl, HO, HB⟩ := hrel
    have hs := HB.out.size
    have hl := digI_len i m
    obtain ⟨oa, oc, rfl⟩ := HO.out.shape'
    obtain ⟨D, hD⟩ : ∃ D, D = digI i m := ⟨_, rfl⟩
    rw [← hD] at HO hl ⊢
    have HD := Lib.hid hD
    clear hD
    by_cases hq : m / 2 ^ i = 0
    · have hz : ¬ (0 : Int) < (m : Int) / 2 ^ i := fun h' => (div_pos_iff m i).1 h' hq
      have HE : Hid (digI k m = D) := by rw [Hid, HD.out, digI, digI, dig_more hi hq]
      clear hq
      go_wp2
      go_ret
      exact ⟨_, rfl, by rw [HE.out]; exact HO.out, HB.out⟩
    · have hik : i < k := by
        refine Nat.lt_of_le_of_ne hi fun e => ?_
        rw [e] at hq; exact hq HEND.out
      have hz : (0 : Int) < (m : Int) / 2 ^ i := (div_pos_iff m i).2 hq
      have hb := dgt_one m i (by omega)
      have HS := Lib.hid (digI_succ i m)
      rw [← HD.out] at HS
      clear hq
      cases hd : dgt m i
      · rw [hd] at hb HS
        simp only [if_false, Bool.false_eq_true] at hb
        have HS2 : Hid (digI (i + 1) m = D) := HS.out
        clear hd
        go_wp2
        go_roundw
        case rel => exact ⟨i + 1, by omega, by go_num, by rw [HS2.out]; exact HO, HB⟩
        case measure => simp [intOf]; omega
      · rw [hd] at hb HS
        simp only [if_true] at hb
        have HS2 : Hid (digI (i + 1) m = D ++ [(i : Int)]) := HS.out
        have ki : I64 (i : Int) := by unfold I64; omega
        clear hd
        go_wp2_with (at_builtin; refine wpList_app1 rfl _ _ rfl _ D rfl (i : Int) _ HO.out rfl ki (by omega) hs ?_)
        intro v3 w3 ho3 hsm3 hz3 _
        have HB3 := Lib.hid (HB.out.trans (hsm3.below (Nat.le_refl _) hs))
        have HO3 := Lib.hid ho3
        clear ho3 hsm3 hz3
        go_wp2
        go_roundw
        case rel => exact ⟨i + 1, by omega, by go_num, by rw [HS2.out]; exact HO3, HB3⟩
        case measure => simp [intOf]; omega
theorem rev_step {F zs : List Int} {n i : Nat} (hl : F.length = n) (hij : 2 * i + 1 < n) (h : ∀ k, k < n → F.getD k 0 = if k < i ∨ n ≤ k + i then zs.getD (n - 1 - k) 0 else zs.getD k 0) :
    ∀ k, k < n → ((F.set i (F.getD (n - 1 - i) 0)).set (n - 1 - i) (F.getD i 0)).getD k 0 = if k < i + 1 ∨ n ≤ k + (i + 1) then zs.getD (n - 1 - k) 0 else zs.getD k 0 := by
  intro k hk
  have hi := h i (by omega)
  have hj := h (n - 1 - i) (by omega)
  rw [if_neg (by omega)] at hi hj
  have hs : ∀ (G : List Int) (a : Nat) (x : Int), a < G.length → (G.set a x).getD k 0 = if a = k then x else G.getD k 0 := by
    intro G a x ha
    simp only [List.getD, List.getElem?_set]
    split
    · rfl
    · rfl
  rw [hs _ _ _ (by rw [List.length_set]; omega), hs _ _ _ (by omega), hi, hj, h k hk]
  by_cases e1 : n - 1 - i = k
  · rw [if_pos e1, if_pos (by omega)]; congr 1; omega
  · rw [if_neg e1]
    by_cases e2 : i = k
    · rw [if_pos e2, if_pos (by omega)]; congr 1; omega
    · rw [if_neg e2]
      by_cases e3 : k < i ∨ n ≤ k + i
      · rw [if_pos e3, if_pos (by omega)]
      · rw [if_neg e3, if_neg (by omega)]
theorem rev_end {F zs : List Int} {n i : Nat} (hl : F.length = n) (hz : zs.length = n) (hij : ¬ 2 * i + 1 < n) (h : ∀ k, k < n → F.getD k 0 = if k < i ∨ n ≤ k + i then zs.getD (n - 1 - k) 0 else zs.getD k 0) : F = zs.reverse := by
  apply List.ext_getElem (by rw [List.length_reverse, hl, hz])
  intro k h1 h2
  have h3 := h k (by omega)
  have e : F.getD k 0 = F[k] := by simp [List.getD, h1]
  rw [e] at h3
  rw [h3, List.getElem_reverse]
  have e2 : zs.getD (n - 1 - k) 0 = zs[zs.length - 1 - k]'(by omega) := by
    simp only [List.getD, ← hz]
    rw [List.getElem?_eq_getElem (by omega)]; rfl
  by_cases e3 : k < i ∨ n ≤ k + i
  · rw [if_pos e3, e2]
  · rw [if_neg e3, ← e2]; congr 1; omega
set_option maxHeartbeats 1000000 in
set_option maxRecDepth 100000 in
theorem reverse_any (lo g n cap : Nat) (zs : List Int) (w : World) (h : RowI w lo g n cap zs) (hn : n ≤ 4096) :
    Calls Try.prog 56 #[.slice (some ⟨g, 0, none⟩) n cap] w fun e w' => e = .returned (.tuple #[]) ∧ RowI w' lo g n cap zs.reverse ∧ Below lo w w' ∧ (∀ k, k ≠ g → w'.heap[k]? = w.heap[k]?) := by
  have HZ := Lib.hid h.length
  have HG := Lib.hid h.ge
  have HH := Lib.hid h
  clear h
  go_enter Try.func56, Try.ntmps56
  go_wp2
  go_loopw [2, 3] (fun iv jv wr => ∃ (i : Nat) (F : List Int), i ≤ n ∧ iv = .int .i64 i ∧ jv = .int .i64 ((n : Int) - 1 - i) ∧ Hid (∀ k, k < n → F.getD k 0 = if k < i ∨ n ≤ k + i then zs.getD (n - 1 - k) 0 else zs.getD k 0) ∧ Hid (RowI wr lo g n cap F) ∧ Hid (Below lo w wr) ∧ Hid (∀ k, k ≠ g → wr.heap[k]? = w.heap[k]?)) (fun iv _ _ => n - (intOf iv).toNat)
  case atStart => exact ⟨0, zs, Nat.zero_le _, rfl, by go_num, fun k hk => by rw [if_neg (by omega)], HH, Below.refl _ _, fun _ _ => rfl⟩
  case round =>
    obtain ⟨i, F, hi, rfl, rfl, HF, HR, HB, HK⟩ := hrel
    have HFL := Lib.hid HR.out.length
    by_cases hij : 2 * i + 1 < n
    · obtain ⟨j, hj⟩ : ∃ j : Nat, j = n - 1 - i := ⟨_, rfl⟩
      have hjn : j < n := by omega
      have hji : i < j := by omega
      have hje : (n : Int) - 1 - i = (j : Int) := by omega
      have hnj : (j : Int) - 1 = (n : Int) - 1 - ((i + 1 : Nat) : Int) := by omega
      have HN := Lib.hid hnj
      rw [hje]
      have ci := HR.out.cell (k := i) (by omega)
      have cj := HR.out.cell hjn
      have fi := HR.out.frozen i
      have fj := HR.out.frozen j
      have HS : Hid (∀ k, k < n → ((F.set i (F.getD j 0)).set j (F.getD i 0)).getD k 0 = if k < i + 1 ∨ n ≤ k + (i + 1) then zs.getD (n - 1 - k) 0 else zs.getD k 0) := by
        rw [hj]; exact rev_step HFL.out hij HF.out
      obtain ⟨x, hx⟩ : ∃ x, x = F.getD i 0 := ⟨_, rfl⟩
      obtain ⟨y, hy⟩ : ∃ y, y = F.getD j 0 := ⟨_, rfl⟩
      rw [← hx] at ci HS
      rw [← hy] at cj HS
      clear hx hy hj hje hnj hij
      go_wp2_with fail
      go_region
      all_goals
        obtain ⟨w6, hw6⟩ : ∃ w6, w6 = ((wr.setCell ⟨g, i, none⟩ (.int .i64 y)).setCell ⟨g, j, none⟩ (.int .i64 x)).drew := ⟨_, rfl⟩
        rw [← hw6]
        have HR6 : Hid (RowI w6 lo g n cap ((F.set i y).set j x)) := by rw [Hid, hw6]; exact ((HR.out.stored i y).stored j x).drew ⟨1, rfl⟩
        have HB6 : Hid (Below lo w w6) := by rw [Hid, hw6]; exact ((HB.out.setCell (p := ⟨g, i, none⟩) HG.out _).setCell (p := ⟨g, j, none⟩) HG.out _).trans ((show Drew _ (World.drew _) from ⟨1, rfl⟩).below _)
        have HK6 : Hid (∀ k, k ≠ g → w6.heap[k]? = w.heap[k]?) := by
          rw [Hid, hw6]; intro k hk; rw [← HK.out k hk]
          exact (Go.Deep.blk_setCell_other _ ⟨g, j, none⟩ _ k hk).trans (Go.Deep.blk_setCell_other _ ⟨g, i, none⟩ _ k hk)
        clear hw6 ci cj fi fj
        go_wp2
        go_roundw
        case rel => exact ⟨i + 1, _, by omega, by go_num, by rw [← HN.out], HS, HR6, HB6, HK6⟩
        case measure => simp [intOf]; omega
    · have hge : ¬ (i : Int) < (n : Int) - 1 - i := by omega
      have HE := Lib.hid (rev_end HFL.out HZ.out hij HF.out)
      clear hij
      go_wp2
      go_end0
      exact ⟨rfl, by rw [← HE.out]; exact HR.out, HB.out, HK.out⟩
end Go.Proofs.Ytkankfdpodofjaa
