/-
  Bounds, raised or not, and the least tree are none greater than any tour: the plain part; no statement of the program is proved here.
-/
import Derived.Test.YtkankfdpodofjaaPrimP
import Derived.Test.YtkankfdpodofjaaRaiseP
namespace Go.Proofs.Ytkankfdpodofjaa
open Go.RowKit
set_option linter.unusedVariables false
set_option maxRecDepth 100000

/-! ### Lists that hold each number once -/
theorem nodup_le : ∀ (n : Nat) (A : List Int), A.Nodup → (∀ x ∈ A, 0 ≤ x ∧ x < (n : Int)) → A.length ≤ n := by
  intro n
  induction n with
  | zero =>
    intro A _ h
    cases A with
    | nil => simp
    | cons x r => have := h x (List.mem_cons_self ..); omega
  | succ n ih =>
    intro A hn h
    have h1 := ih (A.erase (n : Int)) (hn.erase _) (fun x hx => by
      have h2 := h x (List.mem_of_mem_erase hx)
      have h3 : x ≠ (n : Int) := fun e => by
        rw [e] at hx
        exact (hn.mem_erase_iff.1 hx).1 rfl
      omega)
    have := List.length_erase_le (a := (n : Int)) (l := A)
    by_cases hm : (n : Int) ∈ A
    · have := List.length_erase_of_mem hm; omega
    · rw [List.erase_of_not_mem hm] at h1; omega
theorem all_in {n : Nat} {A : List Int} (hl : A.length = n) (hn : A.Nodup) (h : ∀ x ∈ A, 0 ≤ x ∧ x < (n : Int)) {v : Int} (h0 : 0 ≤ v) (h1 : v < n) : v ∈ A := by
  by_cases hv : v ∈ A
  · exact hv
  · have := nodup_le n (v :: A) (List.nodup_cons.2 ⟨hv, hn⟩) (fun x hx => by
      rcases List.mem_cons.1 hx with rfl | hx
      · exact ⟨h0, h1⟩
      · exact h x hx)
    simp at this; omega
def sumTo (g : Int → Int) : Nat → Int
  | 0 => 0
  | n + 1 => sumTo g n + g (n : Int)
theorem map_sum_erase (g : Int → Int) {A : List Int} {x : Int} (h : x ∈ A) : (A.map g).sum = g x + ((A.erase x).map g).sum := by
  induction A with
  | nil => cases h
  | cons d r ih =>
    rw [List.erase_cons]
    by_cases hd : d = x
    · subst hd; simp
    · have hm : x ∈ r := by
        rcases List.mem_cons.1 h with h | h
        · exact absurd h.symm hd
        · exact h
      rw [if_neg (by simpa using hd), List.map_cons, List.sum_cons, List.map_cons, List.sum_cons, ih hm]; omega
theorem sum_all (g : Int → Int) : ∀ (n : Nat) (A : List Int), A.length = n → (∀ v : Int, 0 ≤ v → v < n → v ∈ A) → (A.map g).sum = sumTo g n := by
  intro n
  induction n with
  | zero =>
    intro A hl _
    have : A = [] := List.eq_nil_of_length_eq_zero hl
    subst this; rfl
  | succ n ih =>
    intro A hl h
    have hm := h (n : Int) (by omega) (by omega)
    rw [map_sum_erase g hm, ih (A.erase (n : Int)) (by rw [List.length_erase_of_mem hm]; omega) (fun v h0 h1 => (List.mem_erase_of_ne (by omega)).2 (h v h0 (by omega))), sumTo]
    omega
/-! ### The length of a tour as that of a path and the way back -/
def longW (W : Int → Int → Int) (n : Nat) (A : List Int) : Nat → Int
  | 0 => 0
  | k + 1 => longW W n A k + W (A.getD k 0) (A.getD ((k + 1) % n) 0)
theorem longW_ws (ws : List Int) (n : Nat) (A : List Int) : ∀ k, longTo ws n A k = longW (wayOf ws n) n A k := by
  intro k
  induction k with
  | zero => rfl
  | succ k ih => rw [longTo, longW, ih]
theorem pathE_snoc : ∀ (l : List Int) (y x : Int), pathE (l ++ [y, x]) = pathE (l ++ [y]) ++ [(y, x)]
  | [], _, _ => rfl
  | [_], _, _ => rfl
  | a :: b :: r, y, x => by
    have := pathE_snoc (b :: r) y x
    simp only [List.cons_append] at this ⊢
    rw [pathE, pathE, this]
    rfl
theorem wsum_snoc (W : Int → Int → Int) : ∀ (F : List (Int × Int)) (e : Int × Int), wsum W (F ++ [e]) = wsum W F + W e.1 e.2
  | [], e => by simp [wsum]
  | d :: r, e => by rw [List.cons_append, wsum, wsum, wsum_snoc W r e]; omega
theorem getD_lt {A : List Int} {k : Nat} (h : k < A.length) : A.getD k 0 = A[k] := by simp [List.getD, h]
theorem longW_path (W : Int → Int → Int) {n : Nat} {A : List Int} (hl : A.length = n) : ∀ k, k < n → longW W n A k = wsum W (pathE (A.take (k + 1))) := by
  intro k
  induction k with
  | zero =>
    intro h
    cases A with
    | nil => simp at hl; omega
    | cons a r => simp [longW, pathE, wsum]
  | succ k ih =>
    intro h
    have h1 : A.take (k + 1) = A.take k ++ [A.getD k 0] := by rw [getD_lt (by omega)]; exact (List.take_append_getElem (by omega)).symm
    have h2 : A.take (k + 1 + 1) = A.take k ++ [A.getD k 0, A.getD (k + 1) 0] := by
      rw [show A.take (k + 1 + 1) = A.take (k + 1) ++ [A.getD (k + 1) 0] by rw [getD_lt (show k + 1 < A.length by omega)]; exact (List.take_append_getElem (by omega)).symm, h1]
      simp
    rw [longW, ih (by omega), h2, h1, pathE_snoc, wsum_snoc, Nat.mod_eq_of_lt h]
theorem longW_tour (W : Int → Int → Int) {n : Nat} {A : List Int} (hl : A.length = n) (hn : 1 ≤ n) : longW W n A n = wsum W (pathE A) + W (A.getD (n - 1) 0) (A.getD 0 0) := by
  obtain ⟨m, rfl⟩ : ∃ m, n = m + 1 := ⟨n - 1, by omega⟩
  rw [longW, longW_path W hl m (by omega), Nat.mod_self, Nat.add_sub_cancel, List.take_of_length_le (by omega)]
/-- a tour of n cities that begins with the first one -/
structure Tour0 (A : List Int) (n : Nat) : Prop where
  len : A.length = n
  rng : ∀ x ∈ A, 0 ≤ x ∧ x < (n : Int)
  nd : A.Nodup
  hd : A.getD 0 0 = 0
theorem Tour0.ok {A : List Int} {n : Nat} (h : Tour0 A n) : TourOk A n := ⟨h.len, h.rng⟩
/-- the tree of all cities -/
theorem tree_tour {W : Int → Int → Int} {n : Nat} (hn : 1 ≤ n) (hsym : ∀ a b, 0 ≤ a → a < (n : Int) → 0 ≤ b → b < (n : Int) → W a b = W b a) (hpos : ∀ a b, 0 ≤ a → a < (n : Int) → 0 ≤ b → b < (n : Int) → 0 ≤ W a b) {A : List Int} (hA : Tour0 A n) :
    (treeOf W 0 n).2 ≤ longW W n A n := by
  have h1 := treeOf_path (W := W) (f := 0) (n := n) hn (Int.le_refl _) (fun a b h1 h2 h3 h4 => hsym a b h1 (by omega) h3 (by omega)) hA.len (fun x hx => by have := hA.rng x hx; omega) (fun v h0 h2 => all_in hA.len hA.nd hA.rng h0 (by omega))
  rw [longW_tour W hA.len hn]
  have a := hA.ok.getD (show n - 1 < n by omega)
  have b := hA.ok.getD (show 0 < n by omega)
  have := hpos _ _ a.1 a.2 b.1 b.2
  omega
/-- the bound -/
theorem bound_tour {W : Int → Int → Int} {n : Nat} (hn : 3 ≤ n) (hsym : ∀ a b, 0 ≤ a → a < (n : Int) → 0 ≤ b → b < (n : Int) → W a b = W b a) {A : List Int} (hA : Tour0 A n) :
    (boundOf W n).2 ≤ longW W n A n := by
  obtain ⟨l1, l2, l3, l4⟩ := hA
  match A, l1, l2, l3, l4 with
  | [], l1, _, _, _ => simp at l1; omega
  | [_], l1, _, _, _ => simp at l1; omega
  | x :: a :: r, l1, l2, l3, l4 =>
    have hx : x = 0 := by simpa [List.getD] using l4
    subst hx
    have hA : Tour0 (0 :: a :: r) n := ⟨l1, l2, l3, l4⟩
    have hnd := List.nodup_cons.1 l3
    have hT : ∀ y ∈ a :: r, 1 ≤ y ∧ y < (n : Int) := fun y hy => by
      have h1 := l2 y (List.mem_cons_of_mem _ hy)
      have : y ≠ 0 := fun e => hnd.1 (by rw [← e]; exact hy)
      omega
    have h1 := treeOf_path (W := W) (f := 1) (n := n - 1) (by omega) (by decide) (fun a b h1 h2 h3 h4 => hsym a b (by omega) (by omega) (by omega) (by omega)) (T := a :: r) (by simp at l1 ⊢; omega) (fun y hy => by have := hT y hy; omega) (fun v h0 h2 => by
      have := all_in l1 l3 l2 (show 0 ≤ v by omega) (by omega)
      rcases List.mem_cons.1 this with h | h
      · omega
      · exact h)
    rw [longW_tour W l1 (by omega), pathE, wsum]
    simp only [boundOf, List.getD, List.getElem?_cons_zero, Option.getD_some]
    obtain ⟨z, hz⟩ : ∃ z, z = ((0 :: a :: r : List Int)[n - 1]?).getD 0 := ⟨_, rfl⟩
    rw [← hz]
    have hzm : z ∈ r := by
      obtain ⟨m, rfl⟩ : ∃ m, n = m + 3 := ⟨n - 3, by omega⟩
      have hr : m < r.length := by simp at l1; omega
      rw [hz, show m + 3 - 1 = m + 1 + 1 by omega, List.getElem?_cons_succ, List.getElem?_cons_succ, List.getElem?_eq_getElem hr]
      exact List.getElem_mem hr
    have haz : z ≠ a := fun e => (List.nodup_cons.1 hnd.2).1 (by rw [← e]; exact hzm)
    have hra := hT a (List.mem_cons_self ..)
    have hrz := hT z (List.mem_cons_of_mem _ hzm)
    have hs : W z 0 = W 0 z := hsym _ _ (by omega) (by omega) (by omega) (by omega)
    obtain ⟨f1, f2, f3⟩ := fstOf_ok (W 0) hn
    obtain ⟨s1, s2, s3, s4⟩ := sndOf_ok (W 0) hn
    have le : ∀ u v : Int, (u = v ∨ LexLt (W 0) v u) → W 0 v ≤ W 0 u := fun u v h => by
      rcases h with rfl | h
      · exact Int.le_refl _
      · unfold LexLt at h; omega
    have ha := le _ _ (f3 a hra.1 hra.2)
    have hz' := le _ _ (f3 z hrz.1 hrz.2)
    by_cases hfa : a = fstOf (W 0) n
    · have := le _ _ (s4 z hrz.1 hrz.2 (by omega))
      have e1 := congrArg (W 0) hfa
      rw [hs]; omega
    · have := le _ _ (s4 a hra.1 hra.2 hfa)
      rw [hs]; omega
/-! ### Prices -/
theorem longW_prices (ws P : List Int) {n : Nat} (hn : 1 ≤ n) {A : List Int} (hA : Tour0 A n) (hP : P.length = n) : longW (wayOf (nowL ws P n) n) n A n = longW (wayOf ws n) n A n + 2 * sumP P n := by
  have hg : ∀ k, k ≤ n → longW (wayOf (nowL ws P n) n) n A k = longW (wayOf ws n) n A k + sumTo (fun j => P.getD (A.getD j.toNat 0).toNat 0) k + sumTo (fun j => P.getD (A.getD ((j.toNat + 1) % n) 0).toNat 0) k := by
    intro k
    induction k with
    | zero => intro _; rfl
    | succ k ih =>
      intro hk
      have a := hA.ok.getD (show k < n by omega)
      have b := hA.ok.getD (Nat.mod_lt (k + 1) (show n > 0 by omega))
      obtain ⟨i, hi⟩ := Int.eq_ofNat_of_zero_le a.1
      obtain ⟨j, hj⟩ := Int.eq_ofNat_of_zero_le b.1
      rw [longW, longW, ih (by omega), sumTo, sumTo, Int.toNat_natCast, hi, hj, wayNow ws P (by omega) (by omega), wayOf_nat, Int.toNat_natCast, Int.toNat_natCast]
      omega
  have hs : sumTo (fun j => P.getD (A.getD j.toNat 0).toNat 0) n = sumP P n := by
    have e1 : ∀ k, k ≤ n → sumTo (fun j => P.getD (A.getD j.toNat 0).toNat 0) k = ((A.take k).map fun x => P.getD x.toNat 0).sum := by
      intro k
      induction k with
      | zero => intro _; rfl
      | succ k ih =>
        intro hk
        have hl := hA.len
        rw [sumTo, ih (by omega), Int.toNat_natCast, ← List.take_append_getElem (show k < A.length by omega), List.map_append, List.sum_append, getD_lt (show k < A.length by omega)]
        simp
    have e2 : ∀ k, k ≤ n → sumTo (fun x => P.getD x.toNat 0) k = sumP P k := by
      intro k
      induction k with
      | zero => intro _; simp [sumTo, sumP]
      | succ k ih => intro hk; rw [sumTo, ih (by omega), sumP_succ (by omega), Int.toNat_natCast]
    rw [e1 n (Nat.le_refl _), List.take_of_length_le (by rw [hA.len]; exact Nat.le_refl _), sum_all _ n A hA.len (fun v h0 h1 => all_in hA.len hA.nd hA.rng h0 h1), e2 n (Nat.le_refl _)]
  have ht : sumTo (fun j => P.getD (A.getD ((j.toNat + 1) % n) 0).toNat 0) n = sumTo (fun j => P.getD (A.getD j.toNat 0).toNat 0) n := by
    obtain ⟨m, rfl⟩ : ∃ m, n = m + 1 := ⟨n - 1, by omega⟩
    have e : ∀ k, k ≤ m → sumTo (fun j => P.getD (A.getD ((j.toNat + 1) % (m + 1)) 0).toNat 0) k + P.getD (A.getD 0 0).toNat 0 = sumTo (fun j => P.getD (A.getD j.toNat 0).toNat 0) (k + 1) := by
      intro k
      induction k with
      | zero => intro _; simp [sumTo]
      | succ k ih =>
        intro hk
        have h1 := ih (by omega)
        rw [sumTo, Int.toNat_natCast, Nat.mod_eq_of_lt (show k + 1 < m + 1 by omega), sumTo, Int.toNat_natCast]
        omega
    have := e m (Nat.le_refl _)
    rw [← this, sumTo, Int.toNat_natCast, Nat.mod_self]
  rw [hg n (Nat.le_refl _), ht, hs]
  omega
theorem sym_way {ws : List Int} {n : Nat} (h : symW ws n = true) {a b : Int} (h1 : 0 ≤ a) (h2 : a < n) (h3 : 0 ≤ b) (h4 : b < n) : wayOf ws n a b = wayOf ws n b a := by
  obtain ⟨i, rfl⟩ := Int.eq_ofNat_of_zero_le h1
  obtain ⟨k, rfl⟩ := Int.eq_ofNat_of_zero_le h3
  have := symW_iff.1 h i k (by omega) (by omega)
  simp only [okP, Bool.and_eq_true, beq_iff_eq] at this
  rw [wayOf_nat, wayOf_nat]
  exact this.1
/-- the bound with whatever prices -/
theorem score_tour {ws P : List Int} {n : Nat} (hn : 3 ≤ n) (hs : symW ws n = true) (hP : P.length = n) {A : List Int} (hA : Tour0 A n) : scoreP ws P n ≤ longP ws n A := by
  have h1 := bound_tour (W := wayOf (nowL ws P n) n) hn (fun a b h1 h2 h3 h4 => by
    obtain ⟨i, rfl⟩ := Int.eq_ofNat_of_zero_le h1
    obtain ⟨k, rfl⟩ := Int.eq_ofNat_of_zero_le h3
    have := sym_way hs h1 h2 h3 h4
    rw [wayOf_nat, wayOf_nat] at this
    rw [wayNow ws P (by omega) (by omega), wayNow ws P (by omega) (by omega), this]
    omega) hA
  rw [longW_prices ws P (by omega) hA hP] at h1
  rw [longP, longW_ws, scoreP, bndP]
  omega
theorem nextP_len (ws P : List Int) (n : Nat) : (nextP ws P n).length = P.length := by
  have : ∀ (E Q : List Int), (bumps E Q).length = Q.length := by
    intro E
    induction E with
    | nil => intro Q; rfl
    | cons c r ih => intro Q; show (bumps r (bump Q c)).length = _; rw [ih, bump_len]
  rw [nextP, lessTo_len, this]
theorem raGo_tour {ws : List Int} {n : Nat} (hn : 3 ≤ n) (hs : symW ws n = true) {A : List Int} (hA : Tour0 A n) : ∀ (m : Nat) (first : Bool) (best : Int) (kept P : List Int), P.length = n → (first = false → best ≤ longP ws n A) → (first = true → 0 < m) →
    (raGo ws n m first best kept P).1 ≤ longP ws n A := by
  intro m
  induction m with
  | zero =>
    intro first best kept P hP h1 h2
    rw [raGo]
    cases first with
    | false => exact h1 rfl
    | true => have := h2 rfl; omega
  | succ m ih =>
    intro first best kept P hP h1 h2
    rw [raGo]
    split
    · exact ih _ _ _ _ (by rw [nextP_len]; exact hP) (fun _ => score_tour hn hs hP hA) (fun h => by cases h)
    · rename_i hc
      have hf : first = false := by cases first with | false => rfl | true => exact absurd (.inl rfl) hc
      exact ih _ _ _ _ (by rw [nextP_len]; exact hP) (fun _ => h1 hf) (fun h => by cases h)
theorem raGo_ge {ws : List Int} {n : Nat} : ∀ (m : Nat) (best : Int) (kept P : List Int), best ≤ (raGo ws n m false best kept P).1 := by
  intro m
  induction m with
  | zero => intro best kept P; exact Int.le_refl _
  | succ m ih =>
    intro best kept P
    rw [raGo]
    split
    · rename_i hc
      have : scoreP ws P n > best := by rcases hc with h | h; cases h; exact h
      have := ih (scoreP ws P n) P (nextP ws P n)
      omega
    · exact ih _ _ _
theorem raGo_len {ws : List Int} {n : Nat} : ∀ (m : Nat) (first : Bool) (best : Int) (kept P : List Int), P.length = n → (first = false → kept.length = n) → (first = true → 0 < m) → (raGo ws n m first best kept P).2.length = n := by
  intro m
  induction m with
  | zero =>
    intro first best kept P hP h1 h2
    cases first with
    | false => exact h1 rfl
    | true => have := h2 rfl; omega
  | succ m ih =>
    intro first best kept P hP h1 h2
    rw [raGo]
    split
    · exact ih _ _ _ _ (by rw [nextP_len]; exact hP) (fun _ => hP) (fun h => by cases h)
    · rename_i hc
      have hf : first = false := by cases first with | false => rfl | true => exact absurd (.inl rfl) hc
      exact ih _ _ _ _ (by rw [nextP_len]; exact hP) (fun _ => h1 hf) (fun h => by cases h)
theorem rep_getD (n i : Nat) : (List.replicate n (0 : Int)).getD i 0 = 0 := by
  simp only [List.getD, List.getElem?_replicate]
  split <;> rfl
/-- without prices it is the bound -/
theorem score_zero (ws : List Int) {n : Nat} (hl : n * n = ws.length) : scoreP ws (List.replicate n 0) n = (boundOf (wayOf ws n) n).2 := by
  have hnow : nowL ws (List.replicate n 0) n = ws := by
    refine List.ext_getElem (by rw [nowL, nowTo_len, hl]) fun i h1 h2 => ?_
    have h3 : i < n * n := by rw [hl]; exact h2
    have := nowTo_getD ws (List.replicate n 0) n (n * n) i h3
    rw [nowAt, rep_getD, rep_getD, Int.add_zero, Int.add_zero] at this
    have a : (nowL ws (List.replicate n 0) n).getD i 0 = (nowL ws (List.replicate n 0) n)[i] := getD_lt h1
    have b : ws.getD i 0 = ws[i] := getD_lt h2
    rw [← a, ← b]; exact this
  have hsum : sumP (List.replicate n 0) n = 0 := by
    rw [sumP, List.take_of_length_le (by simp)]
    induction n with
    | zero => rfl
    | succ n _ => simp
  rw [scoreP, bndP, hnow, hsum]
  omega
structure BoundFacts (ws : List Int) (n : Nat) (A : List Int) : Prop where
  bound : tourBound ws = ((boundOf (wayOf ws n) n).2, true)
  plain : raised ws 0 = ((boundOf (wayOf ws n) n).2, List.replicate n 0, true)
  le : (boundOf (wayOf ws n) n).2 ≤ longP ws n A
  sum : (treeOf (wayOf ws n) 0 n).2 ≤ longP ws n A
  rise : ∀ r : Int, 0 ≤ r → r ≤ 50 → ∃ g P, raised ws r = (g, P, true) ∧ P.length = n ∧ g ≤ longP ws n A ∧ (boundOf (wayOf ws n) n).2 ≤ g
theorem boundFacts {ws : List Int} {n : Nat} (hn : 3 ≤ n) (hc : citN ws = n) {A : List Int} (hA : Tour0 A n) : BoundFacts ws n A := by
  obtain ⟨c1, c2, c3, c4, c5⟩ := cit_facts (ws := ws) (by rw [hc]; exact hn)
  rw [hc] at c2 c4
  obtain ⟨_, _, _, d1, d2⟩ := isCit_out c1
  rw [← c2] at d2
  have hb := bound_tour (W := wayOf ws n) hn (fun a b h1 h2 h3 h4 => sym_way d2 h1 h2 h3 h4) hA
  have ht := tree_tour (W := wayOf ws n) (by omega) (fun a b h1 h2 h3 h4 => sym_way d2 h1 h2 h3 h4) (fun a b h1 h2 h3 h4 => (wayOf_rng c4 d1 h1 h2 h3 h4).1) hA
  rw [← longW_ws] at hb ht
  have hz := score_zero ws (n := n) c4
  refine ⟨?_, ?_, hb, ht, fun r h0 h1 => ?_⟩
  · rw [tourBound, hc, if_pos hn]
  · rw [raised, hc, if_pos ⟨hn, by decide⟩]
    show ((raGo ws n 1 true 0 [] (List.replicate n 0)).1, (raGo ws n 1 true 0 [] (List.replicate n 0)).2, true) = _
    rw [raGo_yes (.inl rfl), show raGo ws n 0 false (scoreP ws (List.replicate n 0) n) (List.replicate n 0) (nextP ws (List.replicate n 0) n) = (scoreP ws (List.replicate n 0) n, List.replicate n 0) from rfl, hz]
  · refine ⟨_, _, by rw [raised, hc, if_pos ⟨hn, by unfold inB; rw [decide_eq_true h0, decide_eq_true h1]; rfl⟩], ?_, ?_, ?_⟩
    · exact raGo_len _ _ _ _ _ (by simp) (fun h => by cases h) (fun _ => by omega)
    · exact raGo_tour hn d2 hA _ _ _ _ _ (by simp) (fun h => by cases h) (fun _ => by omega)
    · rw [raGo_yes (.inl rfl), hz]
      exact raGo_ge _ _ _ _
end Go.Proofs.Ytkankfdpodofjaa
