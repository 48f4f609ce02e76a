/-
  ProveNo: plain laws, and an append of a row to a slice of slices that tells what stays.
-/
import Derived.Test.YtcpbgjnijhcpkaaJoin
namespace Go.Proofs.Ytcpbgjnijhcpkaa
open Go.RowKit
set_option linter.unusedVariables false
set_option maxRecDepth 100000

/-- the first letter from a on of which nothing is known -/
def freeFrom (L : Nat) (kn : List Int) : Nat → Nat → Nat
  | 0, a => a
  | n + 1, a => if hasI kn (a : Int) || hasI kn (-(a : Int)) then freeFrom L kn n (a + 1) else a
def freeOf (L : Nat) (kn : List Int) : Nat := freeFrom L kn L 1
def clauseOf (d : List Int) : List Int := srtL (negs d)
def proveGo (L : Nat) (cs : List (List Int)) : Nat → List Int → List (List Int) → Option (List (List Int))
  | 0, _, _ => none
  | n + 1, d, P =>
    (if (unitsF cs d).wrong < 0 then
      (if freeOf L (unitsF cs d).known ≤ L then
        (proveGo L cs n (d ++ [-(freeOf L (unitsF cs d).known : Int)]) P).bind fun P1 => proveGo L cs n (d ++ [(freeOf L (unitsF cs d).known : Int)]) P1
      else none)
    else some P).bind fun P2 => if P2.length < 128 then some (P2 ++ [clauseOf d]) else none
theorem freeFrom_spec (L : Nat) (kn : List Int) : ∀ (n a : Nat), a ≤ freeFrom L kn n a ∧ freeFrom L kn n a ≤ a + n ∧ (∀ j, a ≤ j → j < freeFrom L kn n a → (hasI kn (j : Int) || hasI kn (-(j : Int))) = true) ∧ (freeFrom L kn n a < a + n → (hasI kn (freeFrom L kn n a : Int) || hasI kn (-(freeFrom L kn n a : Int))) = false) := by
  intro n
  induction n with
  | zero => intro a; exact ⟨Nat.le_refl _, Nat.le_refl _, fun j h1 h2 => by rw [freeFrom] at h2; omega, fun h => by rw [freeFrom] at h; omega⟩
  | succ n ih =>
    intro a
    rw [freeFrom]
    cases h : (hasI kn (a : Int) || hasI kn (-(a : Int)))
    · rw [if_neg (by decide)]
      exact ⟨Nat.le_refl _, by omega, fun j h1 h2 => by omega, fun _ => h⟩
    · rw [if_pos rfl]
      obtain ⟨i1, i2, i3, i4⟩ := ih (a + 1)
      refine ⟨by omega, by omega, fun j h1 h2 => ?_, fun h' => i4 (by omega)⟩
      by_cases e : j = a
      · rw [e]; exact h
      · exact i3 j (by omega) h2
theorem free_step {L a : Nat} {kn : List Int} (ha : a ≤ L) (h : (hasI kn (a : Int) || hasI kn (-(a : Int))) = true) : freeFrom L kn (L + 1 - a) a = freeFrom L kn (L + 1 - (a + 1)) (a + 1) := by
  rw [show L + 1 - a = (L + 1 - (a + 1)) + 1 by omega, freeFrom, if_pos h]
theorem free_hit {L a : Nat} {kn : List Int} (ha : a ≤ L) (h : (hasI kn (a : Int) || hasI kn (-(a : Int))) = false) : freeFrom L kn (L + 1 - a) a = a := by
  rw [show L + 1 - a = (L + 1 - (a + 1)) + 1 by omega, freeFrom, if_neg (by rw [h]; decide)]
theorem free_end {L a : Nat} {kn : List Int} (ha : L < a) : freeFrom L kn (L + 1 - a) a = a := by rw [show L + 1 - a = 0 by omega, freeFrom]
/-- what was given is known -/
theorem unitsGo_sub (cs : List (List Int)) : ∀ (n : Nat) (kn by_ : List Int), ∀ x ∈ kn, x ∈ (unitsGo cs n kn by_).known := by
  intro n
  induction n with
  | zero => intro kn by_ x hx; exact hx
  | succ n ih =>
    intro kn by_ x hx
    rw [unitsGo]
    split
    · exact hx
    · split
      · exact hx
      · exact ih _ _ x (List.mem_append.2 (.inl hx))
theorem unitsF_sub (cs : List (List Int)) (g : List Int) : ∀ x ∈ g, x ∈ (unitsF cs g).known := unitsGo_sub cs _ _ _
theorem free_cons {L : Nat} {cs : List (List Int)} {d : List Int} (hd : Cons (L : Int) d) (h : freeOf L (unitsF cs d).known ≤ L) : Cons (L : Int) (d ++ [-(freeOf L (unitsF cs d).known : Int)]) ∧ Cons (L : Int) (d ++ [(freeOf L (unitsF cs d).known : Int)]) := by
  obtain ⟨i1, i2, i3, i4⟩ := freeFrom_spec L (unitsF cs d).known L 1
  have e : freeFrom L (unitsF cs d).known L 1 = freeOf L (unitsF cs d).known := rfl
  rw [e] at i1 i2 i3 i4
  have hf := i4 (by omega)
  generalize freeOf L (unitsF cs d).known = a at *
  rw [Bool.or_eq_false_iff, hasI_false, hasI_false] at hf
  have h1 : (a : Int) ∉ d := fun hm => hf.1 (unitsF_sub cs d _ hm)
  have h2 : -(a : Int) ∉ d := fun hm => hf.2 (unitsF_sub cs d _ hm)
  exact ⟨hd.snoc (isLit_iff.2 ⟨by omega, by omega, by omega⟩) h2 (by rw [Int.neg_neg]; exact h1), hd.snoc (isLit_iff.2 ⟨by omega, by omega, by omega⟩) h1 h2⟩
/-- the reference's clause: each opposite joined -/
def joinUp (S : List Int) : List Int → List Int
  | [] => S
  | x :: r => joinUp (joinN S x).1 r
theorem joinUp_eq (d S : List Int) (hd : Dist d) (h : ∀ x ∈ d, ∀ y ∈ S, absI y ≠ absI x) : joinUp S d = d.foldl (fun S x => insL x S) S := by
  induction d generalizing S with
  | nil => rfl
  | cons x r ih =>
    obtain ⟨h1, h2⟩ := dist_ne hd
    rw [joinUp, joinN_no (h x (by simp)), List.foldl_cons, ih _ h1]
    intro y hy z hz
    rcases (insL_mem x S z).1 hz with rfl | hz
    · exact h2 y hy
    · exact h y (by simp [hy]) z hz
theorem joinUp_clause {L : Int} {d : List Int} (hd : Cons L d) : joinUp [] (negs d) = clauseOf d := joinUp_eq _ _ (cons_negs hd).2 (by simp)
theorem insUp_clause {L : Int} {d : List Int} (hd : Cons L d) : insUp ltL (negs d).length (negs d) = clauseOf d := insUp_all_srt (cons_negs hd).2
theorem clauseOf_len (d : List Int) : (clauseOf d).length = d.length := by rw [clauseOf, srtL_len, negs_len]
theorem prove_len {L : Nat} {cs : List (List Int)} : ∀ (n : Nat) (d : List Int) (P P' : List (List Int)), proveGo L cs n d P = some P' → P'.length ≤ 128 := by
  intro n
  induction n with
  | zero => intro d P P' h; rw [proveGo] at h; cases h
  | succ n ih =>
    intro d P P' h
    rw [proveGo, Option.bind_eq_some_iff] at h
    obtain ⟨P2, _, h2⟩ := h
    split at h2
    · injection h2 with h2
      subst h2
      simp; omega
    · cases h2
end Go.Proofs.Ytcpbgjnijhcpkaa
