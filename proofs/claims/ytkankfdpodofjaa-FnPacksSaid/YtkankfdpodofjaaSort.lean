/-
  slices.SortStableFunc of fewer than 20 integers (one insertion sort), and the program's orderBy: contracts over any comparison that only reads.
-/
import Derived.Test.YtkankfdpodofjaaApp
import Derived.RegionTactic
import Derived.BigRegion
import Derived.IntWalk
import Derived.OwnWalk
namespace Go.Proofs.Ytkankfdpodofjaa
open Go.RowKit
set_option linter.unusedVariables false
set_option maxRecDepth 100000

def swapAt (A : List Int) (j : Nat) : List Int := (A.set (j + 1) (A.getD j 0)).set j (A.getD (j + 1) 0)
def sinkAt (lt : Int → Int → Bool) : Nat → List Int → List Int
  | 0, A => A
  | j + 1, A => if lt (A.getD (j + 1) 0) (A.getD j 0) then sinkAt lt j (swapAt A j) else A
def insUp (lt : Int → Int → Bool) : Nat → List Int → List Int
  | 0, A => A
  | m + 1, A => sinkAt lt m (insUp lt m A)
def ordTo (lt : Int → Int → Bool) : Nat → List Int
  | 0 => []
  | m + 1 => sinkAt lt m (ordTo lt m ++ [(m : Int)])
def rngI (n : Nat) : List Int := (List.range n).map fun (k : Nat) => (k : Int)
theorem rngI_succ (n : Nat) : rngI (n + 1) = rngI n ++ [(n : Int)] := by simp [rngI, List.range_succ]
theorem rngI_len (n : Nat) : (rngI n).length = n := by simp [rngI]
theorem sinkAt_yes {lt : Int → Int → Bool} {j : Nat} {A : List Int} (h : lt (A.getD (j + 1) 0) (A.getD j 0) = true) : sinkAt lt (j + 1) A = sinkAt lt j (swapAt A j) := by rw [sinkAt, if_pos h]
theorem sinkAt_no {lt : Int → Int → Bool} {j : Nat} {A : List Int} (h : lt (A.getD (j + 1) 0) (A.getD j 0) = false) : sinkAt lt (j + 1) A = A := by rw [sinkAt, if_neg (by rw [h]; decide)]
theorem swapAt_len (A : List Int) (j : Nat) : (swapAt A j).length = A.length := by simp [swapAt]
theorem sinkAt_len (lt : Int → Int → Bool) (j : Nat) (A : List Int) : (sinkAt lt j A).length = A.length := by
  induction j generalizing A with
  | zero => rfl
  | succ j ih => rw [sinkAt]; split; rw [ih, swapAt_len]; rfl
theorem ordTo_len (lt : Int → Int → Bool) (m : Nat) : (ordTo lt m).length = m := by
  induction m with
  | zero => rfl
  | succ m ih => rw [ordTo, sinkAt_len, List.length_append, ih]; rfl
/-- all elements are indices below n -/
def Idx (n : Nat) (A : List Int) : Prop := ∀ x ∈ A, 0 ≤ x ∧ x < (n : Int)
theorem getD_mem {A : List Int} {j : Nat} (h : j < A.length) : A.getD j 0 ∈ A := by simp [List.getD, h]
theorem swapAt_idx {n : Nat} {A : List Int} {j : Nat} (h : Idx n A) (hj : j + 1 < A.length) : Idx n (swapAt A j) := by
  intro x hx
  rcases List.mem_or_eq_of_mem_set hx with hx | rfl
  · rcases List.mem_or_eq_of_mem_set hx with hx | rfl
    · exact h x hx
    · exact h _ (getD_mem (by omega))
  · exact h _ (getD_mem hj)
theorem sinkAt_idx {lt : Int → Int → Bool} {n : Nat} {A : List Int} {j : Nat} (h : Idx n A) (hj : j < A.length) : Idx n (sinkAt lt j A) := by
  induction j generalizing A with
  | zero => exact h
  | succ j ih =>
    rw [sinkAt]
    split
    · exact ih (swapAt_idx h hj) (by rw [swapAt_len]; omega)
    · exact h
theorem ordTo_idx (lt : Int → Int → Bool) (m : Nat) : Idx m (ordTo lt m) := by
  induction m with
  | zero => intro x hx; simp [ordTo] at hx
  | succ m ih =>
    rw [ordTo]
    refine sinkAt_idx ?_ (by rw [List.length_append, ordTo_len]; simp)
    intro x hx
    rw [List.mem_append, List.mem_singleton] at hx
    rcases hx with hx | rfl
    · have := ih x hx; omega
    · omega
theorem Idx.mono {m n : Nat} {A : List Int} (h : Idx m A) (hmn : m ≤ n) : Idx n A := fun x hx => by have := h x hx; omega
theorem Idx.i64 {n : Nat} {A : List Int} (h : Idx n A) (hn : n ≤ 1048576) : ∀ x ∈ A, I64 x := fun x hx => by have := h x hx; unfold I64; omega
theorem swapAt_append (A B : List Int) (j : Nat) (hj : j + 1 < A.length) : swapAt (A ++ B) j = swapAt A j ++ B := by
  unfold swapAt
  have e1 : (A ++ B).getD j 0 = A.getD j 0 := by simp [List.getD, List.getElem?_append_left (show j < A.length by omega)]
  have e2 : (A ++ B).getD (j + 1) 0 = A.getD (j + 1) 0 := by simp [List.getD, List.getElem?_append_left hj]
  rw [e1, e2, List.set_append_left _ _ hj, List.set_append_left _ _ (by rw [List.length_set]; omega)]
theorem sinkAt_append (lt : Int → Int → Bool) (A B : List Int) (j : Nat) (hj : j < A.length) : sinkAt lt j (A ++ B) = sinkAt lt j A ++ B := by
  induction j generalizing A with
  | zero => rfl
  | succ j ih =>
    have e1 : (A ++ B).getD j 0 = A.getD j 0 := by simp [List.getD, List.getElem?_append_left (show j < A.length by omega)]
    have e2 : (A ++ B).getD (j + 1) 0 = A.getD (j + 1) 0 := by simp [List.getD, List.getElem?_append_left hj]
    rw [sinkAt, sinkAt, e1, e2]
    split
    · rw [swapAt_append _ _ _ hj, ih _ (by rw [swapAt_len]; omega)]
    · rfl
theorem insUp_ord (lt : Int → Int → Bool) (n m : Nat) (hm : m ≤ n) : insUp lt m (rngI n) = ordTo lt m ++ (rngI n).drop m := by
  induction m with
  | zero => simp [insUp, ordTo]
  | succ m ih =>
    rw [insUp, ih (by omega), ordTo]
    have hl : m < (rngI n).length := by rw [rngI_len]; omega
    have e : (rngI n)[m] = (m : Int) := by simp [rngI]
    rw [drop_cons _ _ hl, e, List.append_cons, sinkAt_append _ _ _ _ (by rw [List.length_append, ordTo_len]; simp)]
theorem insUp_all (lt : Int → Int → Bool) (n : Nat) : insUp lt n (rngI n) = ordTo lt n := by
  rw [insUp_ord lt n n (Nat.le_refl _), List.drop_eq_nil_of_le (by rw [rngI_len]; exact Nat.le_refl _), List.append_nil]
theorem sinkAt_congr {lt lt' : Int → Int → Bool} {n : Nat} (h : ∀ x y, 0 ≤ x → x < (n : Int) → 0 ≤ y → y < (n : Int) → lt x y = lt' x y) (j : Nat) (A : List Int) (hA : Idx n A) (hj : j < A.length) : sinkAt lt j A = sinkAt lt' j A := by
  induction j generalizing A with
  | zero => rfl
  | succ j ih =>
    have h1 := hA _ (getD_mem hj)
    have h2 := hA _ (getD_mem (show j < A.length by omega))
    rw [sinkAt, sinkAt, h _ _ h1.1 h1.2 h2.1 h2.2]
    split
    · exact ih _ (swapAt_idx hA hj) (by rw [swapAt_len]; omega)
    · rfl
theorem ordTo_congr {lt lt' : Int → Int → Bool} {n : Nat} (h : ∀ x y, 0 ≤ x → x < (n : Int) → 0 ≤ y → y < (n : Int) → lt x y = lt' x y) (m : Nat) (hm : m ≤ n) : ordTo lt m = ordTo lt' m := by
  induction m with
  | zero => rfl
  | succ m ih =>
    rw [ordTo, ordTo, ih (by omega)]
    refine sinkAt_congr h m _ ?_ (by rw [List.length_append, ordTo_len]; simp)
    intro x hx
    rw [List.mem_append, List.mem_singleton] at hx
    rcases hx with hx | rfl
    · have := ordTo_idx lt' m x hx; omega
    · omega
theorem alloc_belowS (w : World) (o : Obj) : Below w.heap.size w (w.alloc o) := (Below.refl _ _).alloc (Nat.le_refl _) o
def ltOf (cf : Int → Int → Int) (x y : Int) : Bool := decide (cf x y < 0)
def cmpI (a b : Int) : Int := if a < b then -1 else if b < a then 1 else 0
theorem cmpI_lt (a b : Int) : decide (cmpI a b < 0) = decide (a < b) := by
  unfold cmpI; split
  · simp [*]
  · split <;> simp [*]
theorem isNaN_any (a : Int) (w : World) : Calls Try.prog 91 #[.int .i64 a] w fun e w' => e = .returned (.bool false) ∧ w = w' := by
  go_enter Try.func91, Try.ntmps91
  go_wp2
  go_ret
  exact ⟨ret_bool (by simp), rfl⟩
theorem compare_any (a b : Int) (w : World) : Calls Try.prog 65 #[.int .i64 a, .int .i64 b] w fun e w' => e = .returned (.int .i64 (cmpI a b)) ∧ w = w' := by
  by_cases h1 : a < b
  · have HE := Lib.hid (show cmpI a b = -1 by simp [cmpI, h1])
    go_enter Try.func65, Try.ntmps65
    go_wp2_with (go_at_call 91; refine (isNaN_any _ _).mono ?_; rintro e w' ⟨rfl, rfl⟩)
    go_ret
    exact ⟨ret_int HE.out.symm, rfl⟩
  by_cases h2 : b < a
  · have HE := Lib.hid (show cmpI a b = 1 by simp [cmpI, h1, h2])
    go_enter Try.func65, Try.ntmps65
    go_wp2_with (go_at_call 91; refine (isNaN_any _ _).mono ?_; rintro e w' ⟨rfl, rfl⟩)
    go_ret
    exact ⟨ret_int HE.out.symm, rfl⟩
  · have HE := Lib.hid (show cmpI a b = 0 by simp [cmpI, h1, h2])
    go_enter Try.func65, Try.ntmps65
    go_wp2_with (go_at_call 91; refine (isNaN_any _ _).mono ?_; rintro e w' ⟨rfl, rfl⟩)
    go_ret
    exact ⟨ret_int HE.out.symm, rfl⟩
set_option maxHeartbeats 2000000 in
set_option maxRecDepth 100000 in
theorem insSort_any (F : FuncId) (hF : ∀ args wx, (callFunc F args).run Try.prog wx = .ok (.enter F args) wx) (cap : Array Value) (cf : Int → Int → Int) {lo g cp n : Nat} (A : List Int) (w : World) (hrow : RowI w lo g n cp A) (hA : Idx n A) (hn : n ≤ 1048576) (hcp : n ≤ cp) (hcp2 : cp ≤ 9223372036854775807)
    (hcmp : ∀ wx, Same g (g + 1) w wx → ∀ a b, 0 ≤ a → a < (n : Int) → 0 ≤ b → b < (n : Int) → Calls Try.prog F (#[.int .i64 a, .int .i64 b] ++ cap) wx fun e w' => e = .returned (.int .i64 (cf a b)) ∧ Drew wx w') :
    Calls Try.prog 115 #[.slice (some ⟨g, 0, none⟩) n cp, .int .i64 0, .int .i64 n, .func (.func F) #[] cap] w fun e w' => e = .returned (.tuple #[]) ∧ RowI w' lo g n cp (insUp (ltOf cf) n A) ∧ Same g (g + 1) w w' := by
  have HC := Lib.hid hcmp
  have HROW := Lib.hid hrow
  have hAl := hrow.length
  clear hcmp hrow
  go_enter Try.func115, Try.ntmps115
  go_wp2_with fail
  go_loopw [8] (fun i wr => ∃ (k : Nat) (B : List Int), 1 ≤ k ∧ (k ≤ n ∨ n = 0) ∧ i = .int .i64 k ∧ RowI wr lo g n cp B ∧ Hid (B = insUp (ltOf cf) k A) ∧ Hid (Idx n B) ∧ Same g (g + 1) w wr) (fun i _ => n - (intOf i).toNat)
  case atStart => exact ⟨1, A, Nat.le_refl _, by omega, rfl, HROW.out, Lib.hid rfl, Lib.hid hA, Same.refl _ _ _⟩
  case round =>
    obtain ⟨k, B, hk1, hk2, rfl, hr, HB, HI, hs⟩ := hrel
    have HR := Lib.hid hr
    have HS := Lib.hid hs
    clear hr hs
    by_cases hlt : k < n
    · obtain ⟨wu, hwu⟩ : ∃ wu : World, wu = wr := ⟨_, rfl⟩
      rw [← hwu] at HR HS
      rw [← hwu]
      clear hwu
      go_wp2_with fail
      go_loopw [9] (fun jv wr => ∃ (j : Nat) (C : List Int), j ≤ k ∧ jv = .int .i64 j ∧ RowI wr lo g n cp C ∧ Hid (sinkAt (ltOf cf) j C = insUp (ltOf cf) (k + 1) A) ∧ Hid (Idx n C) ∧ Same g (g + 1) w wr) (fun jv _ => (intOf jv).toNat)
      case atStart => exact ⟨k, B, Nat.le_refl _, rfl, HR.out, Lib.hid (by rw [HB.out]; rfl), HI, HS.out⟩
      case round =>
        obtain ⟨j, C, hj, rfl, hr, HK, HI2, hs⟩ := hrel
        have HR2 := Lib.hid hr
        have HS2 := Lib.hid hs
        have hlt' : j < n := by omega
        have hCl := hr.length
        by_cases hj0 : 0 < j
        · obtain ⟨i, hi⟩ : ∃ i, j = i + 1 := ⟨j - 1, by omega⟩
          subst hi
          have hi1 : i < n := by omega
          have hcj := hr.cell hlt'
          have hci := hr.cell hi1
          have hfj := hr.frozen (i + 1)
          have hfi := hr.frozen i
          have hx := HI2.out _ (getD_mem (show i + 1 < C.length by omega))
          have hy := HI2.out _ (getD_mem (show i < C.length by omega))
          have HCC := Lib.hid (fun (wx : World) (hD : Drew wr wx) => HC.out wx (hs.trans ⟨by obtain ⟨m, rfl⟩ := hD; rfl, by obtain ⟨m, rfl⟩ := hD; rfl, by obtain ⟨m, rfl⟩ := hD; rfl, by rw [hD.heap]; exact Nat.le_refl _, fun _ _ _ => by rw [hD.heap]⟩) (C.getD (i + 1) 0) (C.getD i 0) hx.1 hx.2 hy.1 hy.2)
          have HSW : Hid (swapAt C i = (C.set (i + 1) (C.getD i 0)).set i (C.getD (i + 1) 0)) := rfl
          have hwr : IntKind.i64.wrap (((i + 1 : Nat) : Int) - 1) = (i : Int) := by rw [show ((i + 1 : Nat) : Int) - 1 = (i : Int) by omega]; exact IntWalk.i64_in _ (by omega)
          have hwr2 : IntKind.i64.wrap ((i : Int) + 1 - 1) = (i : Int) := by rw [show (i : Int) + 1 - 1 = (i : Int) by omega]; exact IntWalk.i64_in _ (by omega)
          have hin1 : (0 : Int) ≤ (i : Int) := by omega
          have hin2 : (i : Int) < (n : Int) := by omega
          have hin3 : (0 : Int) ≤ (i : Int) + 1 := by omega
          have hin4 : (i : Int) + 1 < (n : Int) := by omega
          have hin5 : ((i : Int) + 1).toNat = i + 1 := by omega
          have hgt : (0 : Int) < (i : Int) + 1 := by omega
          have Hx1 := Lib.hid (fun (W : World) (hR : RowI W lo g n cp C) (u : Int) => show (W.setCell ⟨g, i + 1, none⟩ (.int .i64 u)).cell? ⟨g, i, none⟩ = some (.int .i64 (C.getD i 0)) by
            have := (hR.stored (i + 1) u).cell hi1
            rw [this]; simp [List.getD])
          generalize hX : C.getD (i + 1) 0 = X at *
          generalize hY : C.getD i 0 = Y at *
          have HX := Lib.hid hX
          have HY := Lib.hid hY
          clear hr hs hx hy hX hY
          cases hc : decide (cf X Y < 0)
          · have HN : Hid (sinkAt (ltOf cf) (i + 1) C = C) := sinkAt_no (by rw [HX.out, HY.out]; exact hc)
            go_wp2_with fail
            go_quiet ((exact quiet_drew (HCC.out _ (Drew.one _ _))))
            go_wp2
            go_roundw
            case rel => exact ⟨k + 1, C, by omega, by omega, by go_num, HR2.out.drewN _, Lib.hid (by rw [← HK.out, HN.out]), HI2, (HS2.out.drewN _)⟩
            case measure => (simp [intOf]; try omega)
          · have HN : Hid (sinkAt (ltOf cf) (i + 1) C = sinkAt (ltOf cf) i (swapAt C i)) := sinkAt_yes (by rw [HX.out, HY.out]; exact hc)
            have HID : Hid (Idx n (swapAt C i)) := swapAt_idx HI2.out (by omega)
            have hst1 : (wr.setCell ⟨g, i + 1, none⟩ (.int .i64 Y)).cell? ⟨g, i, none⟩ = some (.int .i64 Y) := Hx1.out wr HR2.out Y
            have hst2 : (wr.setCell ⟨g, i + 1, none⟩ (.int .i64 Y)).frozen? ⟨g, i, none⟩ = false := (HR2.out.stored (i + 1) Y).frozen i
            go_wp2_with fail
            go_quiet ((exact quiet_drew (HCC.out _ (Drew.one _ _))))
            go_wp2_with fail
            go_region
            all_goals
              go_wp2
              go_roundw
              case rel =>
                refine ⟨i, swapAt C i, by omega, by go_num, ?_, Lib.hid (by rw [← HK.out, HN.out]), HID.out, ?_⟩
                · rw [HSW.out]
                  exact ((HR2.out.stored (i + 1) Y).stored i X).drewN _
                · exact ((HS2.out.setCell (p := ⟨g, i + 1, none⟩) (Nat.le_refl _) (Nat.lt_succ_self _) _).setCell (p := ⟨g, i, none⟩) (Nat.le_refl _) (Nat.lt_succ_self _) _).drewN _
              case measure => (simp [intOf]; try omega)
        · obtain rfl : j = 0 := by omega
          have hgt : ¬ (0 : Int) < 0 := by omega
          go_wp2_with fail
          go_quiet (fail)
          go_wp2
          go_roundw
          case rel => exact ⟨k + 1, C, by omega, by omega, by go_num, HR2.out.drewN _, Lib.hid (by rw [← HK.out]; rfl), HI2, (HS2.out.drewN _)⟩
          case measure => (simp [intOf]; try omega)
    · go_wp2
      first | go_ret2 | go_end0
      refine ⟨rfl, ?_, HS.out⟩
      rcases Nat.eq_zero_or_pos n with h0 | h0
      · subst h0
        have e1 : B = [] := List.eq_nil_of_length_eq_zero HR.out.length
        have e2 : A = [] := List.eq_nil_of_length_eq_zero hAl
        have := HR.out
        rw [e1] at this
        rw [e2]; exact this
      · obtain rfl : k = n := by omega
        rw [← HB.out]; exact HR.out
set_option maxHeartbeats 1600000 in
set_option maxRecDepth 100000 in
theorem stable_any (F : FuncId) (hF : ∀ args wx, (callFunc F args).run Try.prog wx = .ok (.enter F args) wx) (cap : Array Value) (cf : Int → Int → Int) {lo g cp n : Nat} (A : List Int) (w : World) (hrow : RowI w lo g n cp A) (hA : Idx n A) (hn : n ≤ 19) (hcp : n ≤ cp) (hcp2 : cp ≤ 9223372036854775807)
    (hcmp : ∀ wx, Same g (g + 1) w wx → ∀ a b, 0 ≤ a → a < (n : Int) → 0 ≤ b → b < (n : Int) → Calls Try.prog F (#[.int .i64 a, .int .i64 b] ++ cap) wx fun e w' => e = .returned (.int .i64 (cf a b)) ∧ Drew wx w') :
    Calls Try.prog 107 #[.slice (some ⟨g, 0, none⟩) n cp, .int .i64 n, .func (.func F) #[] cap] w fun e w' => e = .returned (.tuple #[]) ∧ RowI w' lo g n cp (insUp (ltOf cf) n A) ∧ Same g (g + 1) w w' := by
  have HC := Lib.hid (insSort_any F hF cap cf A w hrow hA (by omega) hcp hcp2 hcmp)
  clear hcmp hrow
  go_enter Try.func107, Try.ntmps107
  go_wp2_with fail
  refine wp_loop_rounds 1 ?_
  rw [rounds_succ]
  go_wp2_with fail
  refine HC.out.mono ?_
  rintro e w2 ⟨rfl, hr, hs⟩
  go_wp2_with fail
  refine wp_loop_rounds 1 ?_
  rw [rounds_succ]
  go_wp2
  first | go_ret2 | go_end0
  exact ⟨rfl, hr, hs⟩
set_option maxHeartbeats 1600000 in
set_option maxRecDepth 100000 in
theorem sortStable_any (F : FuncId) (hF : ∀ args wx, (callFunc F args).run Try.prog wx = .ok (.enter F args) wx) (cap : Array Value) (cf : Int → Int → Int) {lo g cp n : Nat} (A : List Int) (w : World) (hrow : RowI w lo g n cp A) (hA : Idx n A) (hn : n ≤ 19) (hcp : n ≤ cp) (hcp2 : cp ≤ 9223372036854775807)
    (hcmp : ∀ wx, Same g (g + 1) w wx → ∀ a b, 0 ≤ a → a < (n : Int) → 0 ≤ b → b < (n : Int) → Calls Try.prog F (#[.int .i64 a, .int .i64 b] ++ cap) wx fun e w' => e = .returned (.int .i64 (cf a b)) ∧ Drew wx w') :
    Calls Try.prog 90 #[.slice (some ⟨g, 0, none⟩) n cp, .func (.func F) #[] cap] w fun e w' => e = .returned (.tuple #[]) ∧ RowI w' lo g n cp (insUp (ltOf cf) n A) ∧ Same g (g + 1) w w' := by
  have HC := Lib.hid (stable_any F hF cap cf A w hrow hA hn hcp hcp2 hcmp)
  clear hcmp hrow
  go_enter Try.func90, Try.ntmps90
  go_wp2_with fail
  refine HC.out.mono ?_
  rintro e w2 ⟨rfl, hr, hs⟩
  go_wp2
  first | go_ret2 | go_end0
  exact ⟨rfl, hr, hs⟩
set_option maxHeartbeats 1600000 in
set_option maxRecDepth 100000 in
theorem orderBy_any (F : FuncId) (hF : ∀ args wx, (callFunc F args).run Try.prog wx = .ok (.enter F args) wx) (cap : Array Value) (cf : Int → Int → Int) {n : Nat} (w : World) (hn0 : 0 < n) (hn : n ≤ 19)
    (hcmp : ∀ wx, Below w.heap.size w wx → ∀ a b, 0 ≤ a → a < (n : Int) → 0 ≤ b → b < (n : Int) → Calls Try.prog F (#[.int .i64 a, .int .i64 b] ++ cap) wx fun e w' => e = .returned (.int .i64 (cf a b)) ∧ Drew wx w') :
    Calls Try.prog 63 #[.int .i64 n, .func (.func F) #[] cap] w fun e w' => ∃ v, e = .returned v ∧ OwnI w' w.heap.size w'.heap.size v (ordTo (ltOf cf) n) ∧ Below w.heap.size w w' := by
  have HC := Lib.hid hcmp
  clear hcmp
  go_enter Try.func63, Try.ntmps63
  go_wp2_with fail
  go_loopw [5, 6] (fun ov i wr => ∃ k : Nat, k ≤ n ∧ i = .int .i64 k ∧ OwnI wr w.heap.size wr.heap.size ov (rngI k) ∧ Below w.heap.size w wr) (fun _ i _ => n - (intOf i).toNat)
  case atStart => exact ⟨0, Nat.zero_le _, rfl, OwnI.nil _ _ _ (Nat.le_refl _), Below.refl _ _⟩
  case round =>
    obtain ⟨k, hk, rfl, ho, hb⟩ := hrel
    have hs := hb.size
    have HO := Lib.hid ho
    have hrl := rngI_len k
    clear ho
    by_cases hlt : k < n
    · have HR := Lib.hid (rngI_succ k)
      have hrl2 : (rngI k).length ≤ 20 := by omega
      clear hrl
      go_wp2_with (at_builtin; refine wpList_app1 rfl _ _ rfl _ (rngI k) rfl (k : Int) _ HO.out rfl (by constructor <;> omega) (by omega) hs ?_)
      intro v2 w3 ho2 hsm hz3 _
      have HO2 : Hid (OwnI w3 w.heap.size w3.heap.size v2 (rngI (k + 1))) := by rw [Hid, HR.out]; exact ho2
      clear ho2
      go_wp2
      go_roundw
      case rel => exact ⟨k + 1, by omega, by go_num, HO2.out, hb.trans (hsm.below (Nat.le_refl _) hs)⟩
      case measure => (simp [intOf]; try omega)
    · obtain rfl : k = n := by omega
      rcases HO.out.rowOf with ⟨_, h0⟩ | ⟨g, cp, e, hg1, hg2, hg3, hrow⟩
      · rw [h0] at hrl; simp at hrl; omega
      · rw [hrl] at e hrow hg2
        have hgl := hrow.ge
        have hrg : Idx k (rngI k) := by
          intro x hx
          simp only [rngI, List.mem_map, List.mem_range] at hx
          obtain ⟨j, hj, rfl⟩ := hx
          omega
        have HS := Lib.hid (sortStable_any F hF cap cf (rngI k) wr hrow hrg hn hg2 hg3 (fun wx hsx a b h1 h2 h3 h4 => HC.out wx (hb.trans (hsx.below (by omega) (by omega))) a b h1 h2 h3 h4))
        have HIU := Lib.hid (insUp_all (ltOf cf) k)
        have HL := Lib.hid (ordTo_len (ltOf cf) k)
        subst e
        clear hrow hrl hrg
        go_wp2_with fail
        refine HS.out.mono ?_
        rintro e w2 ⟨rfl, hr, hsm⟩
        rw [HIU.out] at hr
        have hz := hsm.size
        have hro := hr.own ((ordTo_idx (ltOf cf) k).i64 (by omega)) (by omega) (show g < w2.heap.size by omega) (Nat.le_refl _)
        have HRO := Lib.hid hro
        clear hr hro
        go_wp2
        go_ret
        exact ⟨_, rfl, HRO.out, hb.trans (hsm.below (by omega) (by omega))⟩
def keyLt (keys : List Int) (x y : Int) : Bool := decide (keys.getD x.toNat 0 < keys.getD y.toNat 0)
set_option maxHeartbeats 2000000 in
set_option maxRecDepth 100000 in
theorem l06Order_any {l h : Nat} (v : Value) (keys : List Int) (w : World) (hv : Ints w l h v keys) (hh : h ≤ w.heap.size) (hn : keys.length ≤ 1048576) :
    Calls Try.prog 69 #[v] w fun e w' => ∃ u, e = .returned u ∧ OwnI w' w.heap.size w'.heap.size u (ordTo (keyLt keys) keys.length) ∧ Below w.heap.size w w' := by
  obtain ⟨a, cap, rfl, hc1, hc2, hd⟩ := hv.out
  have h0 := emptySlice w
  clear hv
  go_enter Try.func69, Try.ntmps69
  go_wp2_with fail
  go_loopw [3, 4] (fun ov i wr => ∃ k : Nat, k ≤ keys.length ∧ i = .int .i64 k ∧ OwnI wr w.heap.size wr.heap.size ov (ordTo (keyLt keys) k) ∧ Below w.heap.size w wr) (fun _ i _ => keys.length - (intOf i).toNat)
  case atStart => exact ⟨0, Nat.zero_le _, rfl, by simpa [ordTo] using h0, alloc_belowS _ _⟩
  case round =>
    clear h0
    obtain ⟨k, hk, rfl, ho, hb⟩ := hrel
    have hs := hb.size
    have HO := Lib.hid ho
    have hol := ordTo_len (keyLt keys) k
    have hidx := ordTo_idx (keyLt keys) k
    have hol2 : (ordTo (keyLt keys) k).length ≤ 1048576 := by omega
    have HOL := Lib.hid hol
    have HID := Lib.hid hidx
    clear ho hol hidx
    by_cases hlt : k < keys.length
    · have HOR : Hid (ordTo (keyLt keys) (k + 1) = sinkAt (keyLt keys) k (ordTo (keyLt keys) k ++ [(k : Int)])) := rfl
      generalize hOO : ordTo (keyLt keys) k = O at *
      go_wp2_with (at_builtin; refine wpList_app1 rfl _ _ rfl _ O rfl (k : Int) _ HO.out rfl (by constructor <;> omega) (by omega) hs ?_)
      intro v2 w3 ho2 hsm hz3 _
      have hb3 := hb.trans (hsm.below (Nat.le_refl _) hs)
      have hs3 := hb3.size
      rcases ho2.rowOf with ⟨_, e0⟩ | ⟨g, cp, e, hg1, hg2, hg3, hrow⟩
      · simp at e0
      have hlen2 : (O ++ [(k : Int)]).length = k + 1 := by rw [List.length_append, HOL.out]; rfl
      rw [hlen2] at e hrow hg2
      have hgl := hrow.ge
      have hid2 : Idx (k + 1) (O ++ [(k : Int)]) := by
        intro x hx
        rw [List.mem_append, List.mem_singleton] at hx
        rcases hx with hx | rfl
        · have := HID.out x hx; omega
        · omega
      subst e
      have HROW := Lib.hid hrow
      have HID2 := Lib.hid hid2
      rcases hd with rfl | ⟨b, off, rfl, hb1, hbb2, hbb3, hcell⟩
      · simp at hlt
      have HKC : Hid (∀ (wx : World) (j : Nat), Below w.heap.size w wx → j < keys.length → wx.cell? ⟨b, off + j, none⟩ = some (.int .i64 (keys.getD j 0))) := fun wx j hbx hj => by
        rw [hbx.cell (p := ⟨b, off + j, none⟩) (show b < w.heap.size by omega)]; exact hcell j hj
      clear ho2 hrow hid2 hlen2 hcell
      obtain ⟨wu, hwu⟩ : ∃ wu : World, wu = w3 := ⟨_, rfl⟩
      rw [← hwu] at hb3 hs3 HROW hg1
      rw [← hwu]
      go_wp2_with fail
      go_loopw [5] (fun jv wr => ∃ (j : Nat) (C : List Int), j ≤ k ∧ jv = .int .i64 j ∧ RowI wr w.heap.size g (k + 1) cp C ∧ Hid (sinkAt (keyLt keys) j C = ordTo (keyLt keys) (k + 1)) ∧ Hid (Idx (k + 1) C) ∧ Same g (g + 1) wu wr) (fun jv _ => (intOf jv).toNat)
      case atStart => exact ⟨k, _, Nat.le_refl _, rfl, HROW.out, Lib.hid HOR.out.symm, HID2, Same.refl _ _ _⟩
      case round =>
        obtain ⟨j, C, hj, rfl, hr, HK, HI2, hs⟩ := hrel
        have HR2 := Lib.hid hr
        have HS2 := Lib.hid hs
        have hCl := hr.length
        have hbx : Below w.heap.size w wr := hb3.trans (hs.below (by omega) (by omega))
        by_cases hj0 : 0 < j
        · obtain ⟨i, hi⟩ : ∃ i, j = i + 1 := ⟨j - 1, by omega⟩
          subst hi
          have hcj := hr.cell (show i + 1 < k + 1 by omega)
          have hci := hr.cell (show i < k + 1 by omega)
          have hfj := hr.frozen (i + 1)
          have hfi := hr.frozen i
          have hx := HI2.out _ (getD_mem (show i + 1 < C.length by omega))
          have hy := HI2.out _ (getD_mem (show i < C.length by omega))
          obtain ⟨xn, hX⟩ : ∃ xn : Nat, C.getD (i + 1) 0 = (xn : Int) := ⟨(C.getD (i + 1) 0).toNat, by omega⟩
          obtain ⟨yn, hY⟩ : ∃ yn : Nat, C.getD i 0 = (yn : Int) := ⟨(C.getD i 0).toNat, by omega⟩
          have hxn : xn < keys.length := by omega
          have hyn : yn < keys.length := by omega
          have hkx := HKC.out wr xn hbx hxn
          have hky := HKC.out wr yn hbx hyn
          obtain ⟨kx, hKX⟩ : ∃ kx : Int, keys.getD xn 0 = kx := ⟨_, rfl⟩
          obtain ⟨ky, hKY⟩ : ∃ ky : Int, keys.getD yn 0 = ky := ⟨_, rfl⟩
          rw [hKX] at hkx
          rw [hKY] at hky
          have HKX := Lib.hid hKX
          have HKY := Lib.hid hKY
          clear hKX hKY
          have HSW : Hid (swapAt C i = (C.set (i + 1) (C.getD i 0)).set i (C.getD (i + 1) 0)) := rfl
          have hwr : IntKind.i64.wrap (((i + 1 : Nat) : Int) - 1) = (i : Int) := by rw [show ((i + 1 : Nat) : Int) - 1 = (i : Int) by omega]; exact IntWalk.i64_in _ (by omega)
          have hwr2 : IntKind.i64.wrap ((i : Int) + 1 - 1) = (i : Int) := by rw [show (i : Int) + 1 - 1 = (i : Int) by omega]; exact IntWalk.i64_in _ (by omega)
          have hin1 : (0 : Int) ≤ (i : Int) := by omega
          have hin2 : (i : Int) < ((k : Int) + 1) := by omega
          have hin3 : (0 : Int) ≤ (i : Int) + 1 := by omega
          have hin4 : (i : Int) + 1 < ((k : Int) + 1) := by omega
          have hin5 : ((i : Int) + 1).toNat = i + 1 := by omega
          have hin6 : i < k + 1 := by omega
          have hin7 : i + 1 < k + 1 := by omega
          have hin8 : i < k := by omega
          have hgt : (0 : Int) < (i : Int) + 1 := by omega
          rw [hX] at hcj
          rw [hY] at hci
          rw [hX, hY] at HSW
          have hst1 : (wr.setCell ⟨g, i + 1, none⟩ (.int .i64 (yn : Int))).cell? ⟨g, i, none⟩ = some (.int .i64 (yn : Int)) := by
            have := (HR2.out.stored (i + 1) (yn : Int)).cell (show i < k + 1 by omega)
            rw [this]; rw [← hY]; simp [List.getD]
          have hst2 : (wr.setCell ⟨g, i + 1, none⟩ (.int .i64 (yn : Int))).frozen? ⟨g, i, none⟩ = false := (HR2.out.stored (i + 1) (yn : Int)).frozen i
          have HX := Lib.hid hX
          have HY := Lib.hid hY
          clear hr hs hx hy hX hY
          cases hc : decide (kx < ky)
          · have HN : Hid (sinkAt (keyLt keys) (i + 1) C = C) := sinkAt_no (by rw [HX.out, HY.out, keyLt, Int.toNat_natCast, Int.toNat_natCast, HKX.out, HKY.out]; exact hc)
            go_wp2_with fail
            go_quiet (fail)
            go_wp2
            go_roundw
            case rel =>
              refine ⟨k + 1, by omega, by go_num, ?_, hbx.trans ((Drew.one _ _).below _)⟩
              have hro := ((HR2.out.drewN nq).own (HI2.out.i64 (by omega)) (by omega) (show g < (wr.drewN nq).heap.size by have := HR2.out.lt; exact this) (Nat.le_refl _))
              rw [← HK.out, HN.out]
              exact hro
            case measure => (simp [intOf]; try omega)
          · have HN : Hid (sinkAt (keyLt keys) (i + 1) C = sinkAt (keyLt keys) i (swapAt C i)) := sinkAt_yes (by rw [HX.out, HY.out, keyLt, Int.toNat_natCast, Int.toNat_natCast, HKX.out, HKY.out]; exact hc)
            have HIS : Hid (Idx (k + 1) (swapAt C i)) := swapAt_idx HI2.out (by omega)
            go_wp2_with fail
            go_quiet (fail)
            go_wp2
            go_roundw
            case rel =>
              refine ⟨i, swapAt C i, by omega, by go_num, ?_, Lib.hid (by rw [← HK.out, HN.out]), HIS.out, ?_⟩
              · rw [HSW.out]
                exact ((HR2.out.stored (i + 1) _).stored i _).drewN _
              · exact ((HS2.out.setCell (p := ⟨g, i + 1, none⟩) (Nat.le_refl _) (Nat.lt_succ_self _) _).setCell (p := ⟨g, i, none⟩) (Nat.le_refl _) (Nat.lt_succ_self _) _).drewN _
            case measure => (simp [intOf]; try omega)
        · obtain rfl : j = 0 := by omega
          have hgt : ¬ (0 : Int) < 0 := by omega
          go_wp2_with fail
          go_quiet (fail)
          go_wp2
          go_roundw
          case rel =>
            refine ⟨k + 1, by omega, by go_num, ?_, hbx.trans ((Drew.one _ _).below _)⟩
            have hro := ((HR2.out.drewN nq).own (HI2.out.i64 (by omega)) (by omega) (show g < (wr.drewN nq).heap.size by have := HR2.out.lt; exact this) (Nat.le_refl _))
            have e : C = ordTo (keyLt keys) (k + 1) := HK.out
            rw [← e]
            exact hro
          case measure => (simp [intOf]; try omega)
    · obtain rfl : k = keys.length := by omega
      go_wp2
      go_ret
      exact ⟨_, rfl, HO.out, hb⟩
end Go.Proofs.Ytkankfdpodofjaa
