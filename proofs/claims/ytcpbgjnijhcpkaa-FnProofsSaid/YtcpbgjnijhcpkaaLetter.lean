/-
  Literals in order of their letters: plain laws.
-/
import Derived.Test.YtcpbgjnijhcpkaaSort
import Derived.Test.YtcpbgjnijhcpkaaClause
namespace Go.Proofs.Ytcpbgjnijhcpkaa
open Go.RowKit
set_option linter.unusedVariables false
set_option maxRecDepth 100000

/-- a literal put behind those of smaller letters -/
def insL (x : Int) : List Int → List Int
  | [] => [x]
  | c :: r => if absI c < absI x then c :: insL x r else x :: c :: r
def srtL (zs : List Int) : List Int := zs.foldl (fun S x => insL x S) []
def ltL (x y : Int) : Bool := decide (absI x < absI y)
def Ris (S : List Int) : Prop := S.Pairwise fun x y => absI x < absI y
def Dist (S : List Int) : Prop := S.Pairwise fun x y => absI x ≠ absI y
theorem Ris.dist {S : List Int} (h : Ris S) : Dist S := h.imp fun h => by omega
theorem insL_mem (x : Int) (S : List Int) (y : Int) : y ∈ insL x S ↔ y = x ∨ y ∈ S := by
  induction S with
  | nil => simp [insL]
  | cons c r ih =>
    rw [insL]; split
    · rw [List.mem_cons, ih, List.mem_cons]; constructor
      · rintro (h | h | h) <;> simp [h]
      · rintro (h | h | h) <;> simp [h]
    · rw [List.mem_cons]
theorem insL_len (x : Int) (S : List Int) : (insL x S).length = S.length + 1 := by
  induction S with
  | nil => rfl
  | cons c r ih => rw [insL]; split <;> simp [ih]
theorem insL_ris {x : Int} {S : List Int} (h : Ris S) (hx : ∀ y ∈ S, absI y ≠ absI x) : Ris (insL x S) := by
  induction S with
  | nil => simp [insL, Ris]
  | cons c r ih =>
    unfold Ris at h
    rw [List.pairwise_cons] at h
    rw [insL]; split
    · rename_i hc
      unfold Ris
      rw [List.pairwise_cons]
      refine ⟨fun y hy => ?_, ih h.2 fun y hy => hx y (by simp [hy])⟩
      rcases (insL_mem x r y).1 hy with rfl | hy
      · exact hc
      · exact h.1 y hy
    · rename_i hc
      have h1 := hx c (by simp)
      unfold Ris
      rw [List.pairwise_cons, List.pairwise_cons]
      refine ⟨fun y hy => ?_, h⟩
      rcases List.mem_cons.1 hy with rfl | hy
      · omega
      · have := h.1 y hy; omega
theorem insL_snoc_lt {x c : Int} (S : List Int) (h : absI x < absI c) : insL x (S ++ [c]) = insL x S ++ [c] := by
  induction S with
  | nil => simp only [List.nil_append, insL]; rw [if_neg (by omega)]; rfl
  | cons d r ih =>
    simp only [List.cons_append, insL]
    split
    · rw [ih]; rfl
    · rfl
theorem insL_all {x : Int} (S : List Int) (h : ∀ y ∈ S, absI y < absI x) : insL x S = S ++ [x] := by
  induction S with
  | nil => rfl
  | cons d r ih => rw [insL, if_pos (h d (by simp)), ih fun y hy => h y (by simp [hy])]; rfl
theorem getD_mid {S R : List Int} {x : Int} : (S ++ x :: R).getD S.length 0 = x := by simp [List.getD]
theorem swap_mid (S R : List Int) (c x : Int) : swapAt (S ++ c :: x :: R) S.length = S ++ x :: c :: R := by
  have e1 : (S ++ c :: x :: R).getD S.length 0 = c := getD_mid
  have e2 : (S ++ c :: x :: R).getD (S.length + 1) 0 = x := by
    have : S ++ c :: x :: R = (S ++ [c]) ++ x :: R := by simp
    rw [this, show S.length + 1 = (S ++ [c]).length by simp]; exact getD_mid
  rw [swapAt, e1, e2]
  refine List.ext_getElem? fun i => ?_
  rw [List.getElem?_set, List.getElem?_set]
  by_cases h1 : S.length = i
  · subst h1; simp
  · rw [if_neg h1]
    by_cases h2 : S.length + 1 = i
    · subst h2; simp
    · rw [if_neg h2]
      by_cases h3 : i < S.length
      · rw [List.getElem?_append_left h3, List.getElem?_append_left h3]
      · obtain ⟨j, rfl⟩ : ∃ j, i = S.length + 2 + j := ⟨i - (S.length + 2), by omega⟩
        rw [List.getElem?_append_right (by omega), List.getElem?_append_right (by omega)]
        rw [show S.length + 2 + j - S.length = j + 1 + 1 by omega]
        simp
/-- the last element of a rising list, put to its place -/
theorem sink_ins : ∀ (n : Nat) (S R : List Int) (x : Int), S.length = n → Ris S → (∀ y ∈ S, absI y ≠ absI x) → sinkAt ltL n (S ++ x :: R) = insL x S ++ R := by
  intro n
  induction n with
  | zero => intro S R x h _ _; obtain rfl := List.eq_nil_of_length_eq_zero h; rfl
  | succ n ih =>
    intro S R x h hr hx
    obtain ⟨S', c, rfl⟩ : ∃ S' c, S = S' ++ [c] := ⟨S.dropLast, S.getLast (by intro e; subst e; simp at h), (List.dropLast_concat_getLast _).symm⟩
    have hl : S'.length = n := by simpa using h
    have hr' := hr
    unfold Ris at hr'
    rw [List.pairwise_append] at hr'
    have e0 : S' ++ [c] ++ x :: R = S' ++ c :: x :: R := by simp
    rw [e0]
    have e1 : (S' ++ c :: x :: R).getD n 0 = c := by rw [← hl]; exact getD_mid
    have e2 : (S' ++ c :: x :: R).getD (n + 1) 0 = x := by rw [← e0, show n + 1 = (S' ++ [c]).length by simp [hl]]; exact getD_mid
    by_cases hc : absI x < absI c
    · rw [sinkAt_yes (by rw [e1, e2]; simpa [ltL] using hc), ← hl, swap_mid, hl, ih S' (c :: R) x hl hr'.1 (fun y hy => hx y (by simp [hy])), insL_snoc_lt _ hc]
      simp
    · have hcx := hx c (by simp)
      rw [sinkAt_no (by rw [e1, e2]; simpa [ltL] using hc), insL_all]
      · simp
      · intro y hy
        rcases List.mem_append.1 hy with hy | hy
        · have := hr'.2.2 y hy c (by simp); omega
        · rw [List.mem_singleton] at hy; subst hy; omega
theorem srtL_snoc (S : List Int) (x : Int) : srtL (S ++ [x]) = insL x (srtL S) := by simp [srtL]
theorem Dist.snoc {S : List Int} {x : Int} (h : Dist (S ++ [x])) : Dist S ∧ ∀ y ∈ S, absI y ≠ absI x := by
  unfold Dist at h
  rw [List.pairwise_append] at h
  exact ⟨h.1, fun y hy => h.2.2 y hy x (by simp)⟩
theorem snoc_ind {P : List Int → Prop} (h0 : P []) (h1 : ∀ S x, P S → P (S ++ [x])) (S : List Int) : P S := by
  have : ∀ n, ∀ S : List Int, S.length = n → P S := by
    intro n
    induction n with
    | zero => intro S h; obtain rfl := List.eq_nil_of_length_eq_zero h; exact h0
    | succ n ih =>
      intro S h
      obtain ⟨S', c, rfl⟩ : ∃ S' c, S = S' ++ [c] := ⟨S.dropLast, S.getLast (by intro e; subst e; simp at h), (List.dropLast_concat_getLast _).symm⟩
      exact h1 _ _ (ih _ (by simpa using h))
  exact this _ S rfl
theorem srtL_mem (S : List Int) (y : Int) : y ∈ srtL S ↔ y ∈ S := by
  refine snoc_ind (P := fun S => y ∈ srtL S ↔ y ∈ S) ?_ ?_ S
  · exact Iff.rfl
  · intro S x ih
    rw [srtL_snoc, insL_mem, ih]; simp [or_comm]
theorem srtL_len (S : List Int) : (srtL S).length = S.length := by
  refine snoc_ind (P := fun S => (srtL S).length = S.length) rfl ?_ S
  intro S x ih
  rw [srtL_snoc, insL_len, ih]; simp
theorem srtL_ris {S : List Int} (h : Dist S) : Ris (srtL S) := by
  revert h
  refine snoc_ind (P := fun S => Dist S → Ris (srtL S)) (fun _ => by simp [srtL, Ris]) ?_ S
  intro S x ih h
  obtain ⟨h1, h2⟩ := h.snoc
  rw [srtL_snoc]
  exact insL_ris (ih h1) fun y hy => h2 y ((srtL_mem S y).1 hy)
theorem insUp_srt (A : List Int) (hd : Dist A) : ∀ m, m ≤ A.length → insUp ltL m A = srtL (A.take m) ++ A.drop m := by
  intro m
  induction m with
  | zero => intro _; rfl
  | succ m ih =>
    intro hm
    have hlt : m < A.length := by omega
    have hT : A.take (m + 1) = A.take m ++ [A[m]] := List.take_succ_eq_append_getElem hlt
    have hdt : Dist (A.take m ++ [A[m]]) := by rw [← hT]; exact List.Pairwise.sublist (List.take_sublist _ _) hd
    obtain ⟨h1, h2⟩ := hdt.snoc
    rw [insUp, ih (by omega), List.drop_eq_getElem_cons hlt, sink_ins m _ _ _ (by rw [srtL_len, List.length_take]; omega) (srtL_ris h1) (fun y hy => h2 y ((srtL_mem _ y).1 hy)), hT, srtL_snoc]
theorem insUp_all_srt {A : List Int} (hd : Dist A) : insUp ltL A.length A = srtL A := by
  rw [insUp_srt A hd _ (Nat.le_refl _), List.take_length, List.drop_length, List.append_nil]
theorem srtL_id {S : List Int} (h : Ris S) : srtL S = S := by
  revert h
  refine snoc_ind (P := fun S => Ris S → srtL S = S) (fun _ => rfl) ?_ S
  intro S x ih h
  unfold Ris at h
  rw [List.pairwise_append] at h
  rw [srtL_snoc, ih h.1, insL_all]
  intro y hy
  exact h.2.2 y hy x (by simp)
/-! ### The sort moves elements only -/
theorem swapAt_perm (A : List Int) (j : Nat) (h : j + 1 < A.length) : (swapAt A j).Perm A := by
  have e : A = A.take j ++ A[j] :: A[j + 1] :: A.drop (j + 2) := by
    have h1 := List.take_append_drop j A
    rw [List.drop_eq_getElem_cons (show j < A.length by omega), List.drop_eq_getElem_cons h] at h1
    exact h1.symm
  have hl : (A.take j).length = j := by rw [List.length_take]; omega
  have e2 := swap_mid (A.take j) (A.drop (j + 2)) A[j] A[j + 1]
  rw [hl, ← e] at e2
  rw [e2]
  conv => rhs; rw [e]
  exact List.Perm.append_left _ (List.Perm.swap _ _ _)
theorem sinkAt_perm (lt : Int → Int → Bool) : ∀ (j : Nat) (A : List Int), j < A.length → (sinkAt lt j A).Perm A := by
  intro j
  induction j with
  | zero => intro A _; exact List.Perm.refl _
  | succ j ih =>
    intro A h
    rw [sinkAt]; split
    · exact (ih _ (by rw [swapAt_len]; omega)).trans (swapAt_perm A j h)
    · exact List.Perm.refl _
theorem insUp_len (lt : Int → Int → Bool) (m : Nat) (A : List Int) : (insUp lt m A).length = A.length := by
  induction m with
  | zero => rfl
  | succ m ih => rw [insUp, sinkAt_len, ih]
theorem insUp_perm (lt : Int → Int → Bool) (A : List Int) : ∀ m, m ≤ A.length → (insUp lt m A).Perm A := by
  intro m
  induction m with
  | zero => intro _; exact List.Perm.refl _
  | succ m ih => intro h; rw [insUp]; exact (sinkAt_perm lt m _ (by rw [insUp_len]; omega)).trans (ih (by omega))
/-! ### Elements of a range -/
def Idx2 (dl dh : Int) (A : List Int) : Prop := ∀ x ∈ A, dl ≤ x ∧ x < dh
theorem swapAt_idx2 {dl dh : Int} {A : List Int} {j : Nat} (h : Idx2 dl dh A) (hj : j + 1 < A.length) : Idx2 dl dh (swapAt A j) := by
  intro x hx
  rcases List.mem_or_eq_of_mem_set hx with hx | rfl
  · rcases List.mem_or_eq_of_mem_set hx with hx | rfl
    · exact h x hx
    · exact h _ (getD_mem (by omega))
  · exact h _ (getD_mem hj)
end Go.Proofs.Ytcpbgjnijhcpkaa
