/-
  Contracts of RentCost and PickAfter, in the reference and in the program.
-/
import Derived.Test.YtacikhcdbmkloaaNum
namespace Go.Proofs.Ytacikhcdbmkloaa
open Go.RowKit
set_option linter.unusedVariables false
def rentCost (d b l : Int) : Int × Bool :=
  if inB 0 100000 d && inB 0 100000 b && inB 0 100000 l then (if d ≤ l then (d, true) else (l + b, true)) else (0, false)

set_option maxHeartbeats 400000 in
theorem specRentCost_any (d b l : Int) (w : World) :
    Calls Try.prog 9 #[.int .i64 d, .int .i64 b, .int .i64 l] w fun e w' => e = .returned (.tuple #[.int .i64 (rentCost d b l).1, .bool (rentCost d b l).2]) ∧ w = w' := by
  by_cases h0 : d ≤ l <;> cases h1 : inB 0 100000 d <;> cases h2 : inB 0 100000 b <;> cases h3 : inB 0 100000 l
  all_goals
    try have b2 := inB_true h2
    try have b3 := inB_true h3
    go_enter Try.func9, Try.ntmps9
    go_wp2_with (go_at_call 33; refine (l00In_any _ _ _ _).mono ?_; rintro e w' ⟨rfl, rfl⟩)
    go_ret2
    exact ⟨ret_p (by first | (simp [rentCost, h0, h1, h2, h3]; done) | (have h0' : ¬ d ≤ l := (by omega); simp [rentCost, h0', h1, h2, h3])), rfl⟩

theorem rentList (d b l : Int) (h1 : I64 d) (h2 : I64 b) (h3 : I64 l) (w : World) :
    Ints (w.alloc (.cells #[.int .i64 d, .int .i64 b, .int .i64 l] 2)) w.heap.size (w.heap.size + 1) (.slice (some ⟨w.heap.size, 0, none⟩) 3 3) [d, b, l] := by
  refine ⟨⟨_, 3, rfl, by simp, by omega, .inr ⟨w.heap.size, 0, rfl, Nat.le_refl _, by omega, by simp, ?_⟩⟩, by simp [h1, h2, h3]⟩
  intro i hi
  rw [World.cell?_alloc_at _ _ _ _ rfl]
  match i, hi with
  | 0, _ => rfl
  | 1, _ => rfl
  | 2, _ => rfl

set_option maxHeartbeats 400000 in
theorem implRentCost_any (d b l : Int) (k1 : I64 d) (k2 : I64 b) (k3 : I64 l) (w : World) :
    Calls Try.prog 10 #[.int .i64 d, .int .i64 b, .int .i64 l] w fun e w' => e = .returned (.tuple #[.int .i64 (rentCost d b l).1, .bool (rentCost d b l).2]) ∧ Below w.heap.size w w' := by
  have hI := rentList d b l k1 k2 k3 w
  cases h1 : [d, b, l].all (inB 0 100000)
  · have e : rentCost d b l = (0, false) := by simp only [List.all_cons, List.all_nil, Bool.and_true] at h1; simp only [rentCost, Bool.and_assoc, h1, if_false, Bool.false_eq_true]
    have HE := Lib.hid e
    clear e
    go_enter Try.func10, Try.ntmps10
    go_wp2_with (go_at_call 34; refine (allWithin_any _ _ _ _ _ _ _ hI).mono ?_; rintro e w' ⟨rfl, rfl⟩)
    go_ret2
    exact ⟨ret_p HE.out, (Below.refl _ _).alloc (Nat.le_refl _) _⟩
  · have h1' := h1
    simp only [List.all_cons, List.all_nil, Bool.and_true, Bool.and_eq_true] at h1'
    have b2 := inB_true h1'.2.1
    have b3 := inB_true h1'.2.2
    have e : rentCost d b l = if d ≤ l then (d, true) else (l + b, true) := by simp [rentCost, h1'.1, h1'.2.1, h1'.2.2]
    have HE := Lib.hid e
    clear e h1'
    by_cases h0 : d ≤ l
    all_goals
      go_enter Try.func10, Try.ntmps10
      go_wp2_with (go_at_call 34; refine (allWithin_any _ _ _ _ _ _ _ hI).mono ?_; rintro e w' ⟨rfl, rfl⟩)
      go_ret2
      exact ⟨ret_p (HE.out.trans (by first | exact if_pos h0 | exact if_neg (by omega))), (Below.refl _ _).alloc (Nat.le_refl _) _⟩
end Go.Proofs.Ytacikhcdbmkloaa
