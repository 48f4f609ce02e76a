/-
  ProveNo: the append with its finer frame, and what a proof's function leaves (the appends are written by wip/gen/prove.py out of XAppII).
-/
import Derived.Test.YtcpbgjnijhcpkaaProveP
import Derived.Test.YtcpbgjnijhcpkaaAppII
namespace Go.Proofs.Ytcpbgjnijhcpkaa
open Go.RowKit
set_option linter.unusedVariables false
set_option maxRecDepth 100000

theorem prove_sum {L : Nat} {cs : List (List Int)} (hL : (L : Int) ≤ 10) : ∀ (n : Nat) (d : List Int) (P P' : List (List Int)), Cons (L : Int) d → (P.map List.length).sum ≤ 10 * P.length → proveGo L cs n d P = some P' → (P'.map List.length).sum ≤ 10 * P'.length := by
  intro n
  induction n with
  | zero => intro d P P' _ _ h; rw [proveGo] at h; cases h
  | succ n ih =>
    intro d P P' hd hP h
    rw [proveGo, Option.bind_eq_some_iff] at h
    obtain ⟨P2, h1, h2⟩ := h
    have h3 : (P2.map List.length).sum ≤ 10 * P2.length := by
      split at h1
      · split at h1
        · rename_i hf
          rw [Option.bind_eq_some_iff] at h1
          obtain ⟨P1, g1, g2⟩ := h1
          obtain ⟨c1, c2⟩ := free_cons hd hf
          exact ih _ _ _ c2 (ih _ _ _ c1 hP g1) g2
        · cases h1
      · injection h1 with h1; rw [← h1]; exact hP
    split at h2
    · injection h2 with h2
      subst h2
      rw [sum_snoc, List.length_append, clauseOf_len]
      have := hd.len hL
      simp; omega
    · cases h2
/-- what a call leaves that puts rows behind a proof -/
def ProvePost (L : Nat) (cs : List (List Int)) (n : Nat) (d : List Int) (P : List (List Int)) (lo : Nat) (v : Value) (w : World) (e : Ending) (w' : World) : Prop :=
  KeepB w w' v ∧ ((proveGo L cs n d P = none ∧ ∃ r, e = .returned (.tuple #[r, .bool false])) ∨ ∃ P' r, proveGo L cs n d P = some P' ∧ e = .returned (.tuple #[r, .bool true]) ∧ OwnII w' lo w'.heap.size r P' ∧ BlkOk w v r)
theorem prove_wrong {L : Nat} {cs : List (List Int)} {n : Nat} {d : List Int} {P : List (List Int)} (h : ¬ (unitsF cs d).wrong < 0) : proveGo L cs (n + 1) d P = if P.length < 128 then some (P ++ [clauseOf d]) else none := by rw [proveGo, if_neg h]; rfl
theorem prove_full {L : Nat} {cs : List (List Int)} {n : Nat} {d : List Int} {P : List (List Int)} (h : (unitsF cs d).wrong < 0) (hf : ¬ freeOf L (unitsF cs d).known ≤ L) : proveGo L cs (n + 1) d P = none := by rw [proveGo, if_pos h, if_neg hf]; rfl
theorem prove_one {L : Nat} {cs : List (List Int)} {n : Nat} {d : List Int} {P : List (List Int)} (h : (unitsF cs d).wrong < 0) (hf : freeOf L (unitsF cs d).known ≤ L) (h1 : proveGo L cs n (d ++ [-(freeOf L (unitsF cs d).known : Int)]) P = none) : proveGo L cs (n + 1) d P = none := by rw [proveGo, if_pos h, if_pos hf, h1]; rfl
theorem prove_two {L : Nat} {cs : List (List Int)} {n : Nat} {d : List Int} {P P1 : List (List Int)} (h : (unitsF cs d).wrong < 0) (hf : freeOf L (unitsF cs d).known ≤ L) (h1 : proveGo L cs n (d ++ [-(freeOf L (unitsF cs d).known : Int)]) P = some P1) (h2 : proveGo L cs n (d ++ [(freeOf L (unitsF cs d).known : Int)]) P1 = none) : proveGo L cs (n + 1) d P = none := by rw [proveGo, if_pos h, if_pos hf, h1]; show (proveGo L cs n _ P1).bind _ = none; rw [h2]; rfl
theorem prove_three {L : Nat} {cs : List (List Int)} {n : Nat} {d : List Int} {P P1 P2 : List (List Int)} (h : (unitsF cs d).wrong < 0) (hf : freeOf L (unitsF cs d).known ≤ L) (h1 : proveGo L cs n (d ++ [-(freeOf L (unitsF cs d).known : Int)]) P = some P1) (h2 : proveGo L cs n (d ++ [(freeOf L (unitsF cs d).known : Int)]) P1 = some P2) : proveGo L cs (n + 1) d P = if P2.length < 128 then some (P2 ++ [clauseOf d]) else none := by rw [proveGo, if_pos h, if_pos hf, h1]; show (proveGo L cs n _ P1).bind _ = _; rw [h2]; rfl
end Go.Proofs.Ytcpbgjnijhcpkaa
