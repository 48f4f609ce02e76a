/-
  MoveTour: the plain part.
-/
import Derived.Test.YtkankfdpodofjaaCityP
import Derived.Test.YtkankfdpodofjaaOrder
namespace Go.Proofs.Ytkankfdpodofjaa
open Go.RowKit
set_option linter.unusedVariables false
set_option maxRecDepth 100000

def TourOk (A : List Int) (n : Nat) : Prop := A.length = n ∧ ∀ x ∈ A, 0 ≤ x ∧ x < (n : Int)
theorem TourOk.getD {A : List Int} {n : Nat} (h : TourOk A n) {i : Nat} (hi : i < n) : 0 ≤ A.getD i 0 ∧ A.getD i 0 < (n : Int) := h.2 _ (getD_memI (by rw [h.1]; exact hi))
def longTo (ws : List Int) (n : Nat) (A : List Int) : Nat → Int
  | 0 => 0
  | k + 1 => longTo ws n A k + wayOf ws n (A.getD k 0) (A.getD ((k + 1) % n) 0)
def longP (ws : List Int) (n : Nat) (A : List Int) : Int := longTo ws n A n
def WaysOk (ws : List Int) (n : Nat) : Prop := n * n = ws.length ∧ ∀ x ∈ ws, 0 ≤ x ∧ x ≤ 1000
theorem step_rng {ws A : List Int} {n : Nat} (hw : WaysOk ws n) (hA : TourOk A n) {k : Nat} (hk : k < n) : 0 ≤ wayOf ws n (A.getD k 0) (A.getD ((k + 1) % n) 0) ∧ wayOf ws n (A.getD k 0) (A.getD ((k + 1) % n) 0) ≤ 1000 := by
  have h1 := hA.getD hk
  have h2 := hA.getD (Nat.mod_lt (k + 1) (show n > 0 by omega))
  exact wayOf_rng hw.1 hw.2 h1.1 h1.2 h2.1 h2.2
theorem longTo_rng {ws A : List Int} {n : Nat} (hw : WaysOk ws n) (hA : TourOk A n) : ∀ k, k ≤ n → 0 ≤ longTo ws n A k ∧ longTo ws n A k ≤ 1000 * k := by
  intro k
  induction k with
  | zero => intro _; simp [longTo]
  | succ k ih =>
    intro hk
    have h1 := ih (by omega)
    have h2 := step_rng hw hA (show k < n by omega)
    rw [longTo]
    omega
def restP (A : List Int) (i : Nat) : List Int := A.take i ++ A.drop (i + 1)
def movedP (A : List Int) (i k : Nat) : List Int := (restP A i).take k ++ A.getD i 0 :: (restP A i).drop k
theorem restP_len {A : List Int} {i : Nat} (hi : i < A.length) : (restP A i).length = A.length - 1 := by simp [restP]; omega
theorem movedP_len {A : List Int} {i k : Nat} (hi : i < A.length) (hk : k < A.length) : (movedP A i k).length = A.length := by
  have := restP_len hi
  simp [movedP]; omega
theorem movedP_ok {A : List Int} {n : Nat} (h : TourOk A n) {i k : Nat} (hi : i < n) (hk : k < n) : TourOk (movedP A i k) n := by
  have hl := h.1
  refine ⟨by rw [movedP_len (by omega) (by omega)]; exact hl, fun x hx => ?_⟩
  have hr : ∀ x ∈ restP A i, x ∈ A := fun x hx => by
    rcases List.mem_append.1 hx with hx | hx
    · exact List.mem_of_mem_take hx
    · exact List.mem_of_mem_drop hx
  rcases List.mem_append.1 hx with hx | hx
  · exact h.2 x (hr x (List.mem_of_mem_take hx))
  · rcases List.mem_cons.1 hx with rfl | hx
    · exact h.getD hi
    · exact h.2 x (hr x (List.mem_of_mem_drop hx))
/-! ### The search -/
def kGo (ws : List Int) (n : Nat) (A : List Int) (i : Nat) : Nat → Nat → Option (List Int)
  | 0, _ => none
  | m + 1, k => if k ≠ i ∧ longP ws n (movedP A i k) < longP ws n A then some (movedP A i k) else kGo ws n A i m (k + 1)
def iGo (ws : List Int) (n : Nat) (A : List Int) : Nat → Nat → Option (List Int)
  | 0, _ => none
  | m + 1, i => match kGo ws n A i n 0 with
    | some B => some B
    | none => iGo ws n A m (i + 1)
def mvGo (ws : List Int) (n : Nat) : Nat → List Int → Int → List Int × Int
  | 0, A, c => (A, c)
  | f + 1, A, c => match iGo ws n A n 0 with
    | some B => mvGo ws n f B (c + 1)
    | none => (A, c)
def moveTour (ws A : List Int) : List Int × Int × Bool :=
  if isCit ws = true ∧ isOrder (citN ws) A = true then ((mvGo ws (citN ws) ((longP ws (citN ws) A).toNat + 1) A 0).1, (mvGo ws (citN ws) ((longP ws (citN ws) A).toNat + 1) A 0).2, true) else ([], 0, false)
theorem kGo_skip {ws : List Int} {n : Nat} {A : List Int} {i m k : Nat} (h : k = i) : kGo ws n A i (m + 1) k = kGo ws n A i m (k + 1) := by rw [kGo, if_neg (fun h' => h'.1 h)]
theorem kGo_no {ws : List Int} {n : Nat} {A : List Int} {i m k : Nat} (h : ¬ longP ws n (movedP A i k) < longP ws n A) : kGo ws n A i (m + 1) k = kGo ws n A i m (k + 1) := by rw [kGo, if_neg (fun h' => h h'.2)]
theorem kGo_yes {ws : List Int} {n : Nat} {A : List Int} {i m k : Nat} (h : k ≠ i) (g : longP ws n (movedP A i k) < longP ws n A) : kGo ws n A i (m + 1) k = some (movedP A i k) := by rw [kGo, if_pos ⟨h, g⟩]
theorem iGo_no {ws : List Int} {n : Nat} {A : List Int} {i m : Nat} (h : kGo ws n A i n 0 = none) : iGo ws n A (m + 1) i = iGo ws n A m (i + 1) := by rw [iGo, h]
theorem iGo_yes {ws : List Int} {n : Nat} {A B : List Int} {i m : Nat} (h : kGo ws n A i n 0 = some B) : iGo ws n A (m + 1) i = some B := by rw [iGo, h]
theorem mvGo_no {ws : List Int} {n f : Nat} {A : List Int} {c : Int} (h : iGo ws n A n 0 = none) : mvGo ws n f A c = (A, c) := by
  cases f with
  | zero => rfl
  | succ f => rw [mvGo, h]
theorem mvGo_yes {ws : List Int} {n f : Nat} {A B : List Int} {c : Int} (h : iGo ws n A n 0 = some B) : mvGo ws n (f + 1) A c = mvGo ws n f B (c + 1) := by rw [mvGo, h]
theorem tourOk_of {n : Nat} {A : List Int} (h : isOrder n A = true) : TourOk A n := by
  obtain ⟨h1, h2, _⟩ := (isOrder_iff n A).1 h
  exact ⟨by omega, h2⟩
end Go.Proofs.Ytkankfdpodofjaa
