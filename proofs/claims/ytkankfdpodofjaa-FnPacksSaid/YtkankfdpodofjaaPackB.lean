/-
  FnPacks: the plain part: bins, by the first that fits and as few as there can be.
-/
import Derived.Test.YtkankfdpodofjaaPackQ
namespace Go.Proofs.Ytkankfdpodofjaa
open Go.RowKit
set_option linter.unusedVariables false
set_option maxRecDepth 100000

/-- the first bin with room for s -/
def rkB (s : Int) : List Int → Nat
  | [] => 0
  | e :: r => if e < s then rkB s r + 1 else 0
theorem rkB_le (s : Int) : ∀ E : List Int, rkB s E ≤ E.length := by
  intro E
  induction E with
  | nil => simp [rkB]
  | cons e r ih => rw [rkB]; split <;> simp <;> omega
theorem rkB_lt (s : Int) : ∀ (E : List Int) (r : Nat), r < rkB s E → E.getD r 0 < s := by
  intro E
  induction E with
  | nil => intro r h; simp [rkB] at h
  | cons e t ih =>
    intro r h
    rw [rkB] at h
    split at h
    · rename_i hfe
      cases r with
      | zero => simpa [List.getD] using hfe
      | succ r => have := ih r (by omega); simpa [List.getD] using this
    · omega
theorem rkB_at (s : Int) : ∀ (E : List Int), rkB s E < E.length → s ≤ E.getD (rkB s E) 0 := by
  intro E
  induction E with
  | nil => intro h; simp at h
  | cons e t ih =>
    intro h
    rw [rkB] at h ⊢
    split
    · rename_i hfe
      rw [if_pos hfe] at h
      have := ih (by simpa using h)
      simpa [List.getD] using this
    · rename_i hfe
      simpa [List.getD] using hfe
theorem rkB_step {s : Int} {E : List Int} {k : Nat} (hk : k ≤ rkB s E) (hl : k < E.length) (hf : E.getD k 0 < s) : k + 1 ≤ rkB s E := by
  by_cases h : k = rkB s E
  · have := rkB_at s E (by omega)
    rw [← h] at this
    omega
  · omega
theorem rkB_end {s : Int} {E : List Int} {k : Nat} (hk : k ≤ rkB s E) (h : k = E.length ∨ s ≤ E.getD k 0) : k = rkB s E := by
  have := rkB_le s E
  rcases h with h | h
  · omega
  · by_cases h2 : k < rkB s E
    · have := rkB_lt s E k h2; omega
    · omega
def putB (R : Int) (E : List Int) (k : Nat) (s : Int) : List Int := if k = E.length then E ++ [R - s] else E.set k (E.getD k 0 - s)
section
variable (ss O : List Int) (R : Int)
def ixB (t : Nat) : Nat := (O.getD t 0).toNat
def ffB : Nat → List Int
  | 0 => []
  | t + 1 => putB R (ffB t) (rkB (ss.getD (ixB O t) 0) (ffB t)) (ss.getD (ixB O t) 0)
def ffOut (z : Int) (n : Nat) : Nat → List Int
  | 0 => List.replicate n z
  | t + 1 => (ffOut z n t).set (ixB O t) ((rkB (ss.getD (ixB O t) 0) (ffB ss O R t) : Nat) : Int)
theorem ffOut_len (z : Int) (n : Nat) : ∀ t, (ffOut ss O R z n t).length = n := by
  intro t
  induction t with
  | zero => simp [ffOut]
  | succ t ih => rw [ffOut, List.length_set, ih]
theorem ffB_len : ∀ t, (ffB ss O R t).length ≤ t := by
  intro t
  induction t with
  | zero => simp [ffB]
  | succ t ih =>
    rw [ffB, putB]
    split <;> simp <;> omega
theorem ffOut_rng (z : Int) (n : Nat) (hz : -1 ≤ z) (hz2 : z ≤ 0) : ∀ t, ∀ y ∈ ffOut ss O R z n t, -1 ≤ y ∧ y ≤ (t : Int) := by
  intro t
  induction t with
  | zero => intro y hy; rw [ffOut] at hy; have := List.eq_of_mem_replicate hy; omega
  | succ t ih =>
    intro y hy
    rw [ffOut] at hy
    rcases List.mem_or_eq_of_mem_set hy with hy | rfl
    · have := ih y hy; omega
    · have h1 := rkB_le (ss.getD (ixB O t) 0) (ffB ss O R t)
      have h2 := ffB_len ss O R t
      omega
end
theorem set_atB (zs : List Int) (p q : Nat) (x : Int) (hq : p < zs.length) : (zs.set p x).getD q 0 = if q = p then x else zs.getD q 0 := by
  simp only [List.getD, List.getElem?_set]
  by_cases h : p = q
  · subst h; simp [hq]
  · rw [if_neg h, if_neg (fun e => h e.symm)]
theorem snoc_at (E : List Int) (x : Int) (q : Nat) : (E ++ [x]).getD q 0 = if q = E.length then x else E.getD q 0 := by
  simp only [List.getD]
  by_cases h : q = E.length
  · rw [if_pos h, h]; simp
  · rw [if_neg h]
    by_cases hl : q < E.length
    · rw [List.getElem?_append_left hl]
    · rw [List.getElem?_append_right (by omega), List.getElem?_eq_none (by simp; omega), List.getElem?_eq_none (by omega)]
theorem pSum_upd {zs : List Int} {p q : Nat → Bool} {i : Nat} (hp : p i = false) (hq : q i = true) (he : ∀ j, j ≠ i → q j = p j) : ∀ n, pSum zs q n = pSum zs p n + if i < n then zs.getD i 0 else 0 := by
  intro n
  induction n with
  | zero => simp [pSum]
  | succ n ih =>
    rw [pSum, pSum, ih]
    by_cases e : n = i
    · subst e
      rw [hp, hq, if_neg (Nat.lt_irrefl _), if_pos (Nat.lt_succ_self _)]
      simp
    · rw [he n e]
      by_cases hin : i < n
      · rw [if_pos hin, if_pos (show i < n + 1 by omega)]; split <;> omega
      · rw [if_neg hin, if_neg (show ¬ i < n + 1 by omega)]; split <;> omega
/-- what lies in the bins -/
def bSum (R : Int) : List Int → Int
  | [] => 0
  | e :: r => R - e + bSum R r
theorem bSum_append (R : Int) (A B : List Int) : bSum R (A ++ B) = bSum R A + bSum R B := by
  induction A with
  | nil => simp [bSum]
  | cons a r ih => rw [List.cons_append, bSum, bSum, ih]; omega
theorem bSum_set (R x : Int) : ∀ (E : List Int) (k : Nat), k < E.length → bSum R (E.set k (E.getD k 0 - x)) = bSum R E + x := by
  intro E
  induction E with
  | nil => intro k h; simp at h
  | cons e r ih =>
    intro k h
    cases k with
    | zero => simp [bSum, List.getD]; omega
    | succ k =>
      have := ih k (by simpa using h)
      rw [show (e :: r).getD (k + 1) 0 = r.getD k 0 by simp [List.getD], List.set_cons_succ, bSum, bSum, this]; omega
theorem bSum_put (R x : Int) (E : List Int) (k : Nat) (h : k ≤ E.length) : bSum R (putB R E k x) = bSum R E + x := by
  unfold putB
  split
  · rw [bSum_append, bSum, bSum]; omega
  · exact bSum_set R x E k (by omega)
/-! ### The first that fits -/
structure FfHyp (ss O : List Int) (R : Int) (n : Nat) : Prop where
  lt : ∀ t, t < n → ixB O t < n
  inj : ∀ s t, s < n → t < n → ixB O s = ixB O t → s = t
  sz : ∀ i, i < n → 1 ≤ ss.getD i 0 ∧ ss.getD i 0 ≤ R
structure FfInv (ss O : List Int) (R : Int) (n t : Nat) (E U : List Int) : Prop where
  i2 : ∀ k, k < E.length → 0 ≤ E.getD k 0 ∧ E.getD k 0 < R
  i3 : ∀ a b, a < b → b < E.length → E.getD a 0 + E.getD b 0 < R
  i4 : ∀ k : Nat, k < E.length → pSum ss (fun j => U.getD j 0 == (k : Int)) n = R - E.getD k 0
  i5 : bSum R E = pSum ss (fun j => !(U.getD j 0 == -1)) n
  i6 : ∀ s, s < t → ∃ r : Nat, r < E.length ∧ U.getD (ixB O s) 0 = (r : Int)
  i7 : ∀ j, j < n → (∀ s, s < t → ixB O s ≠ j) → U.getD j 0 = -1
  i8 : ∀ j, j < n → U.getD j 0 < (E.length : Int)
theorem ffInv {ss O : List Int} {R : Int} {n : Nat} (h : FfHyp ss O R n) : ∀ t, t ≤ n → FfInv ss O R n t (ffB ss O R t) (ffOut ss O R (-1) n t) := by
  intro t
  induction t with
  | zero =>
    intro _
    have hr : ∀ j, j < n → (ffOut ss O R (-1) n 0).getD j 0 = -1 := fun j hj => by simp [ffOut, List.getD, hj]
    have hz : ∀ m, m ≤ n → pSum ss (fun j => !((ffOut ss O R (-1) n 0).getD j 0 == -1)) m = 0 := by
      intro m
      induction m with
      | zero => intro _; rfl
      | succ m ih => intro hm; rw [pSum, ih (by omega), hr m (by omega)]; rfl
    refine ⟨fun k hk => by simp [ffB] at hk, fun a b _ hb => by simp [ffB] at hb, fun k hk => by simp [ffB] at hk, ?_, fun s hs => by omega, fun j hj _ => hr j hj, fun j hj => by rw [hr j hj]; simp [ffB]⟩
    rw [hz n (Nat.le_refl _)]; rfl
  | succ t ih =>
    intro ht
    obtain ⟨i2, i3, i4, i5, i6, i7, i8⟩ := ih (by omega)
    obtain ⟨i, hi⟩ : ∃ i, i = ixB O t := ⟨_, rfl⟩
    obtain ⟨E, hE⟩ : ∃ E, E = ffB ss O R t := ⟨_, rfl⟩
    obtain ⟨U, hU⟩ : ∃ U, U = ffOut ss O R (-1) n t := ⟨_, rfl⟩
    obtain ⟨s, hs⟩ : ∃ s, s = ss.getD i 0 := ⟨_, rfl⟩
    obtain ⟨k, hk⟩ : ∃ k, k = rkB s E := ⟨_, rfl⟩
    have hin : i < n := by rw [hi]; exact h.lt t (by omega)
    have hsz := h.sz i hin
    rw [← hs] at hsz
    have hkl : k ≤ E.length := by rw [hk]; exact rkB_le _ _
    have hO : ffOut ss O R (-1) n (t + 1) = U.set i (k : Int) := by rw [ffOut, ← hi, ← hE, ← hs, ← hk, ← hU]
    have hE2 : ffB ss O R (t + 1) = putB R E k s := by rw [ffB, ← hi, ← hE, ← hs, ← hk]
    have hul : U.length = n := by rw [hU]; exact ffOut_len ss O R (-1) n t
    have hg : ∀ j, (U.set i (k : Int)).getD j 0 = if j = i then (k : Int) else U.getD j 0 := fun j => set_atB _ _ _ _ (by omega)
    rw [← hE] at i2 i3 i4 i5 i6 i8
    rw [← hU] at i4 i5 i6 i7 i8
    have hfresh : U.getD i 0 = -1 := i7 i hin fun q hq e => by
      have := h.inj q t (by omega) (by omega) (by rw [e, hi])
      omega
    have hEl : (putB R E k s).length = max E.length (k + 1) := by
      rw [putB]; split <;> simp <;> omega
    have hEk : ∀ r, (putB R E k s).getD r 0 = if r = k then (if k = E.length then R - s else E.getD k 0 - s) else E.getD r 0 := fun r => by
      rw [putB]
      by_cases e : k = E.length
      · rw [if_pos e, snoc_at, e, if_pos rfl]
      · rw [if_neg e, set_atB _ _ _ _ (by omega), if_neg e]
    have hfit : k < E.length → s ≤ E.getD k 0 := fun hlt => by
      rw [hk]; exact rkB_at s E (by omega)
    have hbef : ∀ a, a < k → E.getD a 0 < s := fun a ha => rkB_lt s E a (by omega)
    rw [hE2, hO]
    refine ⟨fun r hr => ?_, fun a b hab hb => ?_, fun r hr => ?_, ?_, fun q hq => ?_, fun j hj hn => ?_, fun j hj => ?_⟩
    · rw [hEk]
      by_cases e : r = k
      · rw [if_pos e]
        by_cases e2 : k = E.length
        · rw [if_pos e2]; omega
        · rw [if_neg e2]
          have := hfit (by omega)
          have := i2 k (by omega)
          omega
      · rw [if_neg e]; exact i2 r (by omega)
    · rw [hEk a, hEk b]
      by_cases e2 : k = E.length
      · by_cases eb : b = k
        · rw [if_neg (by omega), if_pos eb, if_pos e2]
          have := hbef a (by omega)
          omega
        · rw [if_neg (by omega), if_neg eb]
          exact i3 a b hab (by omega)
      · have hb' : b < E.length := by omega
        have h3 := i3 a b hab hb'
        by_cases ea : a = k
        · subst ea
          rw [if_pos rfl, if_neg e2, if_neg (by omega)]; omega
        · rw [if_neg ea]
          by_cases eb : b = k
          · subst eb; rw [if_pos rfl, if_neg e2]; omega
          · rw [if_neg eb]; exact h3
    · have hup : pSum ss (fun j => (U.set i (k : Int)).getD j 0 == (r : Int)) n = pSum ss (fun j => U.getD j 0 == (r : Int)) n + if r = k then s else 0 := by
        by_cases e : r = k
        · subst e
          rw [if_pos rfl, pSum_upd (p := fun j => U.getD j 0 == (r : Int)) (q := fun j => (U.set i (r : Int)).getD j 0 == (r : Int)) (i := i) (by rw [hfresh]; simp) (by rw [hg, if_pos rfl]; simp) (fun j hj => by rw [hg, if_neg hj]) n, if_pos hin, hs]
        · rw [if_neg e, Int.add_zero]
          refine pSum_congr n fun j hj => ?_
          rw [hg]
          by_cases ej : j = i
          · rw [if_pos ej, ej, hfresh, Bool.eq_iff_iff, beq_iff_eq, beq_iff_eq]; omega
          · rw [if_neg ej]
      rw [hup, hEk]
      by_cases e : r = k
      · rw [if_pos e, if_pos e]
        by_cases e2 : k = E.length
        · rw [if_pos e2]
          have : pSum ss (fun j => U.getD j 0 == (r : Int)) n = 0 := by
            have hz : ∀ m, m ≤ n → pSum ss (fun j => U.getD j 0 == (r : Int)) m = 0 := by
              intro m
              induction m with
              | zero => intro _; rfl
              | succ m ih =>
                intro hm
                have := i8 m (by omega)
                rw [pSum, ih (by omega), if_neg (by rw [beq_iff_eq]; omega)]
            exact hz n (Nat.le_refl _)
          rw [this]; omega
        · rw [if_neg e2, i4 r (by omega), e]; omega
      · rw [if_neg e, if_neg e, i4 r (by omega)]; omega
    · rw [bSum_put R s E k hkl, i5, pSum_upd (p := fun j => !(U.getD j 0 == -1)) (q := fun j => !((U.set i (k : Int)).getD j 0 == -1)) (i := i) (by rw [hfresh]; rfl) (by rw [hg, if_pos rfl, Bool.not_eq_true', beq_eq_false_iff_ne]; omega) (fun j hj => by rw [hg, if_neg hj]) n, if_pos hin, hs]
    · rw [hg]
      by_cases e : ixB O q = i
      · rw [if_pos e]; exact ⟨k, by omega, rfl⟩
      · rw [if_neg e]
        obtain ⟨r, r1, r2⟩ := i6 q (by
          have : q ≠ t := fun e' => e (by rw [e', hi])
          omega)
        exact ⟨r, by omega, r2⟩
    · rw [hg, if_neg (fun e => hn t (Nat.lt_succ_self _) (by rw [← hi, e]))]
      exact i7 j hj fun q hq => hn q (by omega)
    · rw [hg]
      by_cases e : j = i
      · rw [if_pos e]; omega
      · rw [if_neg e]; have := i8 j hj; omega
theorem ffOut_same {ss O : List Int} {R : Int} {n : Nat} (h : ∀ t, t < n → ixB O t < n) : ∀ t, t ≤ n → ∀ s, s < t → (ffOut ss O R 0 n t).getD (ixB O s) 0 = (ffOut ss O R (-1) n t).getD (ixB O s) 0 := by
  intro t
  induction t with
  | zero => intro _ s hs; omega
  | succ t ih =>
    intro ht s hs
    have hin := h t (by omega)
    rw [ffOut, ffOut, set_atB _ _ _ _ (by rw [ffOut_len]; exact hin), set_atB _ _ _ _ (by rw [ffOut_len]; exact hin)]
    by_cases e : ixB O s = ixB O t
    · rw [if_pos e, if_pos e]
    · rw [if_neg e, if_neg e]
      exact ih (by omega) s (by
        have : s ≠ t := fun h => e (by rw [h])
        omega)
theorem bins_half {R : Int} (hR : 0 ≤ R) : ∀ (m : Nat) (E : List Int), E.length ≤ m → (∀ k, k < E.length → E.getD k 0 < R) → (∀ a b, a < b → b < E.length → E.getD a 0 + E.getD b 0 < R) → ((E.length / 2 : Nat) : Int) * (R + 1) ≤ bSum R E := by
  intro m
  induction m using Nat.strongRecOn with
  | _ m ih =>
    intro E hm h1 h2
    match E, hm, h1, h2 with
    | [], _, _, _ => simp [bSum]
    | [e], _, h1, _ =>
      have := h1 0 (by simp)
      simp [bSum, List.getD] at this ⊢
      omega
    | a :: b :: r, hm, h1, h2 =>
      have hab := h2 0 1 (by omega) (by simp)
      have := ih (m - 2) (by simp at hm; omega) r (by simp at hm; omega) (fun k hk => by have := h1 (k + 2) (by simp; omega); simpa [List.getD] using this) (fun x y hxy hy => by have := h2 (x + 2) (y + 2) (by omega) (by simp; omega); simpa [List.getD] using this)
      simp [List.getD] at hab
      rw [show (a :: b :: r).length / 2 = r.length / 2 + 1 by simp; omega, Int.natCast_add, Int.add_mul, bSum, bSum]
      simp only [Int.natCast_one, Int.one_mul]
      omega
/-- what is said of bins -/
structure BinS (ss : List Int) (R : Int) (n used : Nat) (out : List Int) : Prop where
  len : out.length = n
  us : used ≤ n
  rng : ∀ j, j < n → 0 ≤ out.getD j 0 ∧ out.getD j 0 < (used : Int)
  load : ∀ b : Nat, b < used → 1 ≤ pSum ss (fun j => out.getD j 0 == (b : Int)) n ∧ pSum ss (fun j => out.getD j 0 == (b : Int)) n ≤ R
  half : ((used / 2 : Nat) : Int) * (R + 1) ≤ pSum ss (fun _ => true) n
theorem ff_ok {ss O : List Int} {R : Int} {n : Nat} (h : FfHyp ss O R n) (hall : ∀ j, j < n → ∃ s, s < n ∧ ixB O s = j) (hR : 0 ≤ R) : BinS ss R n (ffB ss O R n).length (ffOut ss O R 0 n n) := by
  obtain ⟨i2, i3, i4, i5, i6, i7, i8⟩ := ffInv h n (Nat.le_refl _)
  have hsame : ∀ j, j < n → (ffOut ss O R 0 n n).getD j 0 = (ffOut ss O R (-1) n n).getD j 0 := fun j hj => by
    obtain ⟨s, s1, s2⟩ := hall j hj
    rw [← s2]; exact ffOut_same h.lt n (Nat.le_refl _) s s1
  have hpl : ∀ j, j < n → ∃ r : Nat, r < (ffB ss O R n).length ∧ (ffOut ss O R (-1) n n).getD j 0 = (r : Int) := fun j hj => by
    obtain ⟨s, s1, s2⟩ := hall j hj
    rw [← s2]; exact i6 s s1
  refine ⟨ffOut_len ss O R 0 n n, ffB_len ss O R n, fun j hj => ?_, fun b hb => ?_, ?_⟩
  · rw [hsame j hj]
    obtain ⟨r, r1, r2⟩ := hpl j hj
    omega
  · rw [pSum_congr (q := fun j => (ffOut ss O R (-1) n n).getD j 0 == (b : Int)) n fun j hj => by rw [hsame j hj], i4 b hb]
    have := i2 b hb
    omega
  · have := bins_half hR _ (ffB ss O R n) (Nat.le_refl _) (fun k hk => (i2 k hk).2) i3
    rw [i5, pSum_congr (q := fun _ => true) n fun j hj => by
      obtain ⟨r, r1, r2⟩ := hpl j hj
      rw [r2, Bool.not_eq_true', beq_eq_false_iff_ne]; omega] at this
    exact this
/-! ### As few as there can be -/
def foldK (f : Nat → Int → Int) (b : Int) : Nat → Int
  | 0 => b
  | k + 1 => f k (foldK f b k)
theorem foldK_ind {f : Nat → Int → Int} {b : Int} (Q : Int → Prop) : ∀ n, Q b → (∀ k, k < n → ∀ v, Q v → Q (f k v)) → Q (foldK f b n) := by
  intro n
  induction n with
  | zero => intro h _; exact h
  | succ n ih => intro h hs; rw [foldK]; exact hs n (by omega) _ (ih h fun k hk => hs k (by omega))
def few (R : Int) : List Int → List Int → Int
  | [], B => (B.length : Int)
  | s :: r, B => foldK (fun k best => if s ≤ B.getD k 0 then min best (few R r (B.set k (B.getD k 0 - s))) else best) (few R r (B ++ [R - s])) B.length
def fewTo (R s : Int) (r B : List Int) : Nat → Int := foldK (fun k best => if s ≤ B.getD k 0 then min best (few R r (B.set k (B.getD k 0 - s))) else best) (few R r (B ++ [R - s]))
theorem few_cons (R s : Int) (r B : List Int) : few R (s :: r) B = fewTo R s r B B.length := rfl
theorem fewTo_zero (R s : Int) (r B : List Int) : fewTo R s r B 0 = few R r (B ++ [R - s]) := rfl
theorem fewTo_succ (R s : Int) (r B : List Int) (k : Nat) : fewTo R s r B (k + 1) = if s ≤ B.getD k 0 then min (fewTo R s r B k) (few R r (B.set k (B.getD k 0 - s))) else fewTo R s r B k := rfl
theorem few_new (R s : Int) (r B : List Int) : few R (s :: r) B ≤ few R r (B ++ [R - s]) := by
  rw [few_cons]
  exact foldK_ind (fun v => v ≤ few R r (B ++ [R - s])) B.length (Int.le_refl _) fun k hk v hv => by split <;> omega
theorem few_into (R s : Int) (r B : List Int) {k : Nat} (hk : k < B.length) (hs : s ≤ B.getD k 0) : few R (s :: r) B ≤ few R r (B.set k (B.getD k 0 - s)) := by
  rw [few_cons]
  have : ∀ m, k < m → fewTo R s r B m ≤ few R r (B.set k (B.getD k 0 - s)) := by
    intro m
    induction m with
    | zero => intro h; omega
    | succ m ih =>
      intro h
      rw [fewTo_succ]
      by_cases e : k = m
      · subst e; rw [if_pos hs]; omega
      · have := ih (by omega)
        split <;> omega
  exact this _ hk
def remL : List Int → List Nat → Nat → Int
  | s :: r, x :: fs, y => (if x = y then s else 0) + remL r fs y
  | _, _, _ => 0
theorem remL_nn : ∀ (zs : List Int) (fs : List Nat) (y : Nat), (∀ s ∈ zs, 0 ≤ s) → 0 ≤ remL zs fs y := by
  intro zs
  induction zs with
  | nil => intro fs y _; simp [remL]
  | cons s r ih =>
    intro fs y h
    cases fs with
    | nil => simp [remL]
    | cons x fs =>
      rw [remL]
      have h1 := h s (by simp)
      have h2 := ih fs y fun z hz => h z (List.mem_cons_of_mem _ hz)
      split <;> omega
theorem few_le {R : Int} {u : Nat} : ∀ (zs : List Int) (B : List Int) (lab free fs : List Nat), fs.length = zs.length → (∀ s ∈ zs, 0 ≤ s) → lab.length = B.length → (∀ x ∈ fs, x ∈ lab ∨ x ∈ free) → (∀ k, k < B.length → remL zs fs (lab.getD k 0) ≤ B.getD k 0) → (∀ x ∈ free, remL zs fs x ≤ R) → B.length + free.length = u → few R zs B ≤ (u : Int) := by
  intro zs
  induction zs with
  | nil => intro B lab free fs _ _ _ _ _ _ hu; rw [few]; omega
  | cons s r ih =>
    intro B lab free fs hf hs hl hx hb hr hu
    cases fs with
    | nil => simp at hf
    | cons x fs =>
      have hs0 := hs s (by simp)
      have hsr : ∀ z ∈ r, 0 ≤ z := fun z hz => hs z (List.mem_cons_of_mem _ hz)
      have hdown : ∀ y, remL r fs y ≤ remL (s :: r) (x :: fs) y := fun y => by rw [remL]; split <;> omega
      have hself : remL (s :: r) (x :: fs) x = s + remL r fs x := by rw [remL, if_pos rfl]
      by_cases hin : x ∈ lab
      · obtain ⟨k, k1, k2⟩ := List.mem_iff_getElem.1 hin
        have hkB : k < B.length := by omega
        have hlk : lab.getD k 0 = x := by simp [List.getD, k1, k2]
        have hbk := hb k hkB
        rw [hlk, hself] at hbk
        have hnn := remL_nn r fs x hsr
        refine Int.le_trans (few_into R s r B hkB (by omega)) (ih _ lab free fs (by simpa using hf) hsr (by rw [List.length_set]; exact hl) (fun y hy => hx y (List.mem_cons_of_mem _ hy)) (fun q hq => ?_) (fun y hy => Int.le_trans (hdown y) (hr y hy)) (by rw [List.length_set]; exact hu))
        rw [List.length_set] at hq
        rw [set_atB _ _ _ _ hkB]
        by_cases e : q = k
        · rw [if_pos e, e, hlk]; omega
        · rw [if_neg e]; exact Int.le_trans (hdown _) (hb q hq)
      · have hfr : x ∈ free := (hx x (by simp)).resolve_left hin
        have hel := List.length_erase_of_mem hfr
        have hpos : 0 < free.length := List.length_pos_of_mem hfr
        have hrx := hr x hfr
        rw [hself] at hrx
        refine Int.le_trans (few_new R s r B) (ih _ (lab ++ [x]) (free.erase x) fs (by simpa using hf) hsr (by simp [hl]) (fun y hy => ?_) (fun q hq => ?_) (fun y hy => Int.le_trans (hdown y) (hr y (List.mem_of_mem_erase hy))) (by simp; omega))
        · by_cases e : y = x
          · exact .inl (by simp [e])
          · rcases hx y (List.mem_cons_of_mem _ hy) with h | h
            · exact .inl (List.mem_append_left _ h)
            · exact .inr ((List.mem_erase_of_ne e).2 h)
        · simp only [List.length_append, List.length_singleton] at hq
          rw [snoc_at]
          by_cases e : q = B.length
          · rw [if_pos e]
            have : (lab ++ [x]).getD q 0 = x := by rw [e, ← hl]; simp [List.getD]
            rw [this]; omega
          · rw [if_neg e]
            have : (lab ++ [x]).getD q 0 = lab.getD q 0 := by simp only [List.getD]; rw [List.getElem?_append_left (by omega)]
            rw [this]
            exact Int.le_trans (hdown _) (hb q (by omega))
theorem pSum_cons (s : Int) (r : List Int) (p : Nat → Bool) : ∀ n, pSum (s :: r) p (n + 1) = (if p 0 then s else 0) + pSum r (fun j => p (j + 1)) n := by
  intro n
  induction n with
  | zero => simp [pSum, List.getD]
  | succ n ih =>
    rw [pSum, ih, pSum, show (s :: r).getD (n + 1) 0 = r.getD n 0 by simp [List.getD]]
    split <;> split <;> omega
theorem remL_sum : ∀ (zs : List Int) (fs : List Nat) (y : Nat), fs.length = zs.length → remL zs fs y = pSum zs (fun j => fs.getD j 0 == y) zs.length := by
  intro zs
  induction zs with
  | nil => intro fs y _; simp [remL, pSum]
  | cons s r ih =>
    intro fs y h
    cases fs with
    | nil => simp at h
    | cons x fs =>
      rw [remL, List.length_cons, pSum_cons, ih fs y (by simpa using h)]
      simp [List.getD]
theorem bSum_le {R : Int} : ∀ B : List Int, (∀ e ∈ B, 0 ≤ e) → bSum R B ≤ R * (B.length : Int) := by
  intro B
  induction B with
  | nil => intro _; simp [bSum]
  | cons e r ih =>
    intro h
    have h1 := h e (by simp)
    have h2 := ih fun x hx => h x (List.mem_cons_of_mem _ hx)
    rw [bSum, List.length_cons, Int.natCast_add, Int.mul_add]
    simp only [Int.natCast_one, Int.mul_one]
    omega
def aSum : List Int → Int
  | [] => 0
  | x :: r => x + aSum r
theorem few_ge {R : Int} : ∀ (zs B : List Int), (∀ s ∈ zs, s ≤ R) → (∀ e ∈ B, 0 ≤ e) → bSum R B + aSum zs ≤ R * few R zs B := by
  intro zs
  induction zs with
  | nil => intro B _ hb; rw [few, aSum]; have := bSum_le (R := R) B hb; omega
  | cons s r ih =>
    intro B hs hb
    have h1 := hs s (by simp)
    have hr : ∀ z ∈ r, z ≤ R := fun z hz => hs z (List.mem_cons_of_mem _ hz)
    rw [few_cons, aSum]
    refine foldK_ind (fun v => bSum R B + (s + aSum r) ≤ R * v) B.length ?_ fun k hk v hv => ?_
    · have := ih (B ++ [R - s]) hr (fun e he => by
        rcases List.mem_append.1 he with he | he
        · exact hb e he
        · rw [List.mem_singleton] at he; omega)
      rw [bSum_append, bSum, bSum] at this
      omega
    · split
      · rename_i hle
        have := ih (B.set k (B.getD k 0 - s)) hr (fun e he => by
          rcases List.mem_or_eq_of_mem_set he with he | rfl
          · exact hb e he
          · omega)
        rw [bSum_set R s B k hk] at this
        by_cases hm : v ≤ few R r (B.set k (B.getD k 0 - s))
        · rw [Int.min_eq_left hm]; exact hv
        · rw [Int.min_eq_right (by omega)]; omega
      · exact hv
theorem aSum_p : ∀ zs : List Int, aSum zs = pSum zs (fun _ => true) zs.length := by
  intro zs
  induction zs with
  | nil => rfl
  | cons s r ih => rw [aSum, List.length_cons, pSum_cons, ih]; simp
/-- bins against the least number of them -/
theorem bins_least {ss out : List Int} {R : Int} {n used : Nat} (hl : ss.length = n) (hs : ∀ s ∈ ss, 1 ≤ s ∧ s ≤ R) (hR : 0 ≤ R) (hn : 1 ≤ n) (hn7 : n ≤ 7) (h : BinS ss R n used out) : 0 ≤ few R ss [] ∧ few R ss [] ≤ (used : Int) ∧ pSum ss (fun _ => true) n ≤ R * few R ss [] ∧ 2 * (used : Int) ≤ 3 * few R ss [] + 2 := by
  have h1 : few R ss [] ≤ (used : Int) := by
    refine few_le ss [] [] (List.range used) (out.map Int.toNat) (by simp [h.len, hl]) (fun s hx => by have := hs s hx; omega) rfl (fun x hx => ?_) (fun k hk => by simp at hk) (fun x hx => ?_) (by simp)
    · right
      obtain ⟨y, y1, rfl⟩ := List.mem_map.1 hx
      obtain ⟨j, j1, j2⟩ := List.mem_iff_getElem.1 y1
      have := h.rng j (by rw [← h.len]; exact j1)
      rw [show out.getD j 0 = y by simp [List.getD, j1, j2]] at this
      rw [List.mem_range]; omega
    · rw [List.mem_range] at hx
      rw [remL_sum _ _ _ (by simp [h.len, hl]), hl, pSum_congr (q := fun j => out.getD j 0 == (x : Int)) n fun j hj => by
        have := h.rng j hj
        have e : (out.map Int.toNat).getD j 0 = (out.getD j 0).toNat := by simp [List.getD, show j < out.length by rw [h.len]; exact hj]
        rw [e, Bool.eq_iff_iff, beq_iff_eq, beq_iff_eq]; omega]
      exact (h.load x hx).2
  have h2 : pSum ss (fun _ => true) n ≤ R * few R ss [] := by
    have := few_ge (R := R) ss [] (fun s hx => (hs s hx).2) (by simp)
    rw [aSum_p, hl, bSum] at this
    omega
  obtain ⟨f, hf⟩ : ∃ f, f = few R ss [] := ⟨_, rfl⟩
  rw [← hf] at h1 h2 ⊢
  have h3 := h.half
  have h4 := h.us
  have hpos : 1 ≤ pSum ss (fun _ => true) n := by
    obtain ⟨s, r, e⟩ : ∃ s r, ss = s :: r := by
      cases ss with
      | nil => simp at hl; omega
      | cons s r => exact ⟨s, r, rfl⟩
    subst e
    have := hs s (by simp)
    have hnn := pSum_nn (zs := r) (fun i => by
      by_cases hi : i < r.length
      · have := hs r[i] (by simp)
        simp [List.getD, hi]; omega
      · simp [List.getD, Nat.le_of_not_lt hi]) (fun _ => true) r.length
    rw [← hl, List.length_cons, pSum_cons]
    simp only [if_true]
    omega
  have hf0 : 1 ≤ f := by
    refine Classical.byContradiction fun hc => ?_
    have : R * f ≤ R * 0 := Int.mul_le_mul_of_nonneg_left (by omega) hR
    omega
  have hhalf : ((used / 2 : Nat) : Int) < f ∨ used / 2 = 0 := by
    refine Classical.byContradiction fun hc => ?_
    rw [not_or] at hc
    have a : R * f ≤ R * ((used / 2 : Nat) : Int) := Int.mul_le_mul_of_nonneg_left (by omega) hR
    rw [Int.mul_add, Int.mul_one, Int.mul_comm] at h3
    omega
  exact ⟨by omega, h1, h2, by omega⟩
end Go.Proofs.Ytkankfdpodofjaa
