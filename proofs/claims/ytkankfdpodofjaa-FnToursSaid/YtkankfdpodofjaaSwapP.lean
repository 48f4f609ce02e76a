/-
  SwapTour, NearTour, tours and their turns: the plain part; no statement of the program is proved here.
-/
import Derived.Test.YtkankfdpodofjaaTourP
namespace Go.Proofs.Ytkankfdpodofjaa
open Go.RowKit
set_option linter.unusedVariables false
set_option maxRecDepth 100000

/-- a tour of n cities -/
structure TourN (A : List Int) (n : Nat) : Prop where
  len : A.length = n
  rng : ∀ x ∈ A, 0 ≤ x ∧ x < (n : Int)
  nd : A.Nodup
theorem TourN.ok {A : List Int} {n : Nat} (h : TourN A n) : TourOk A n := ⟨h.len, h.rng⟩
theorem Tour0.tn {A : List Int} {n : Nat} (h : Tour0 A n) : TourN A n := ⟨h.len, h.rng, h.nd⟩
theorem TourN.order {A : List Int} {n : Nat} (h : TourN A n) : isOrder n A = true := (isOrder_iff n A).2 ⟨by rw [h.len], h.rng, h.nd⟩
theorem TourN.perm {A B : List Int} {n : Nat} (h : TourN A n) (p : B.Perm A) : TourN B n := ⟨by rw [p.length_eq, h.len], fun x hx => h.rng x (p.mem_iff.1 hx), p.nodup_iff.2 h.nd⟩
/-! ### A part turned around -/
def swappedP (A : List Int) (i k : Nat) : List Int := (List.range A.length).map fun q => A.getD (if i ≤ q ∧ q ≤ k then i + k - q else q) 0
theorem swappedP_len (A : List Int) (i k : Nat) : (swappedP A i k).length = A.length := by simp [swappedP]
theorem swappedP_at (A : List Int) (i k : Nat) {q : Nat} (hq : q < A.length) : (swappedP A i k).getD q 0 = A.getD (if i ≤ q ∧ q ≤ k then i + k - q else q) 0 := by simp [swappedP, List.getD, hq]
theorem nodup_inj {A : List Int} (h : A.Nodup) {p q : Nat} (hp : p < A.length) (hq : q < A.length) (e : A.getD p 0 = A.getD q 0) : p = q := by
  rw [getD_lt hp, getD_lt hq] at e
  rcases Nat.lt_trichotomy p q with g | g | g
  · exact absurd e ((List.pairwise_iff_getElem.1 h) p q hp hq g)
  · exact g
  · exact absurd e.symm ((List.pairwise_iff_getElem.1 h) q p hq hp g)
theorem nodup_of_inj {A : List Int} (h : ∀ p q, p < q → q < A.length → A.getD p 0 ≠ A.getD q 0) : A.Nodup := by
  refine List.pairwise_iff_getElem.2 fun p q hp hq hpq => ?_
  have := h p q hpq hq
  rw [getD_lt hp, getD_lt hq] at this
  exact this
theorem swappedP_ok {A : List Int} {n : Nat} (h : TourN A n) {i k : Nat} (hk : k < n) : TourN (swappedP A i k) n := by
  have hl := h.len
  have hs : ∀ q, q < n → (if i ≤ q ∧ q ≤ k then i + k - q else q) < n := fun q hq => by split <;> omega
  refine ⟨by rw [swappedP_len, hl], fun x hx => ?_, nodup_of_inj fun p q hpq hq => ?_⟩
  · simp only [swappedP, List.mem_map, List.mem_range] at hx
    obtain ⟨q, hq, rfl⟩ := hx
    exact h.rng _ (getD_memI (by rw [hl]; exact hs q (by omega)))
  · rw [swappedP_len] at hq
    rw [swappedP_at A i k (by omega), swappedP_at A i k hq]
    intro e
    have := nodup_inj h.nd (by rw [hl]; exact hs p (by omega)) (by rw [hl]; exact hs q (by omega)) e
    revert this
    split <;> split <;> omega
theorem movedP_tn {A : List Int} {n : Nat} (h : TourN A n) {i k : Nat} (hi : i < n) : TourN (movedP A i k) n := by
  refine h.perm ?_
  have hl : i < A.length := by rw [h.len]; exact hi
  have e : A = A.take i ++ A.getD i 0 :: A.drop (i + 1) := by
    rw [getD_lt hl]
    exact (List.take_append_drop i A).symm.trans (by rw [List.drop_eq_getElem_cons hl])
  have p1 : (movedP A i k).Perm (A.getD i 0 :: restP A i) := by
    unfold movedP
    refine List.perm_middle.trans ?_
    rw [List.take_append_drop]
  have p2 : A.Perm (A.getD i 0 :: restP A i) := by
    have : (A.take i ++ A.getD i 0 :: A.drop (i + 1)).Perm (A.getD i 0 :: (A.take i ++ A.drop (i + 1))) := List.perm_middle
    rw [← e] at this
    exact this
  exact p1.trans p2.symm
/-! ### The search -/
def skGo (ws : List Int) (n : Nat) (A : List Int) (i : Nat) : Nat → Nat → Option (List Int)
  | 0, _ => none
  | m + 1, k => if longP ws n (swappedP A i k) < longP ws n A then some (swappedP A i k) else skGo ws n A i m (k + 1)
def siGo (ws : List Int) (n : Nat) (A : List Int) : Nat → Nat → Option (List Int)
  | 0, _ => none
  | m + 1, i => match skGo ws n A i (n - (i + 1)) (i + 1) with
    | some B => some B
    | none => siGo ws n A m (i + 1)
def smGo (ws : List Int) (n : Nat) : Nat → List Int → Int → List Int × Int
  | 0, A, c => (A, c)
  | f + 1, A, c => match siGo ws n A n 0 with
    | some B => smGo ws n f B (c + 1)
    | none => (A, c)
theorem skGo_no {ws : List Int} {n : Nat} {A : List Int} {i m k : Nat} (h : ¬ longP ws n (swappedP A i k) < longP ws n A) : skGo ws n A i (m + 1) k = skGo ws n A i m (k + 1) := by rw [skGo, if_neg h]
theorem skGo_yes {ws : List Int} {n : Nat} {A : List Int} {i m k : Nat} (g : longP ws n (swappedP A i k) < longP ws n A) : skGo ws n A i (m + 1) k = some (swappedP A i k) := by rw [skGo, if_pos g]
theorem siGo_no {ws : List Int} {n : Nat} {A : List Int} {i m : Nat} (h : skGo ws n A i (n - (i + 1)) (i + 1) = none) : siGo ws n A (m + 1) i = siGo ws n A m (i + 1) := by rw [siGo, h]
theorem siGo_yes {ws : List Int} {n : Nat} {A B : List Int} {i m : Nat} (h : skGo ws n A i (n - (i + 1)) (i + 1) = some B) : siGo ws n A (m + 1) i = some B := by rw [siGo, h]
theorem smGo_no {ws : List Int} {n f : Nat} {A : List Int} {c : Int} (h : siGo ws n A n 0 = none) : smGo ws n f A c = (A, c) := by
  cases f with
  | zero => rfl
  | succ f => rw [smGo, h]
theorem smGo_yes {ws : List Int} {n f : Nat} {A B : List Int} {c : Int} (h : siGo ws n A n 0 = some B) : smGo ws n (f + 1) A c = smGo ws n f B (c + 1) := by rw [smGo, h]
theorem skGo_some {ws : List Int} {n : Nat} {A B : List Int} {i : Nat} : ∀ (m k : Nat), k + m ≤ n → skGo ws n A i m k = some B → (∃ k, k < n ∧ B = swappedP A i k) ∧ longP ws n B < longP ws n A := by
  intro m
  induction m with
  | zero => intro k _ h; cases h
  | succ m ih =>
    intro k hk h
    rw [skGo] at h
    split at h
    · rename_i hlt
      injection h with h
      subst h
      exact ⟨⟨k, by omega, rfl⟩, hlt⟩
    · exact ih _ (by omega) h
theorem siGo_some {ws : List Int} {n : Nat} {A B : List Int} (hA : TourN A n) : ∀ (m i : Nat), i + m ≤ n → siGo ws n A m i = some B → TourN B n ∧ longP ws n B < longP ws n A := by
  intro m
  induction m with
  | zero => intro i _ h; cases h
  | succ m ih =>
    intro i hi h
    rw [siGo] at h
    cases hs : skGo ws n A i (n - (i + 1)) (i + 1) with
    | some C =>
      rw [hs] at h
      injection h with h
      subst h
      obtain ⟨⟨k, hk, rfl⟩, hlt⟩ := skGo_some _ _ (by omega) hs
      exact ⟨swappedP_ok hA hk, hlt⟩
    | none => rw [hs] at h; exact ih _ (by omega) h
theorem kGo_some {ws : List Int} {n : Nat} {A B : List Int} {i : Nat} : ∀ (m k : Nat), kGo ws n A i m k = some B → (∃ k, B = movedP A i k) ∧ longP ws n B < longP ws n A := by
  intro m
  induction m with
  | zero => intro k h; cases h
  | succ m ih =>
    intro k h
    rw [kGo] at h
    split at h
    · rename_i hlt
      injection h with h
      subst h
      exact ⟨⟨k, rfl⟩, hlt.2⟩
    · exact ih _ h
theorem iGo_some {ws : List Int} {n : Nat} {A B : List Int} (hA : TourN A n) : ∀ (m i : Nat), i + m ≤ n → iGo ws n A m i = some B → TourN B n ∧ longP ws n B < longP ws n A := by
  intro m
  induction m with
  | zero => intro i _ h; cases h
  | succ m ih =>
    intro i hi h
    rw [iGo] at h
    cases hs : kGo ws n A i n 0 with
    | some C =>
      rw [hs] at h
      injection h with h
      subst h
      obtain ⟨⟨k, rfl⟩, hlt⟩ := kGo_some _ _ hs
      exact ⟨movedP_tn hA (by omega), hlt⟩
    | none => rw [hs] at h; exact ih _ (by omega) h
structure RunF (ws : List Int) (n : Nat) (A : List Int) (c : Int) (r : List Int × Int) : Prop where
  tn : TourN r.1 n
  le : longP ws n r.1 ≤ longP ws n A
  ge : c ≤ r.2
  lt : c < r.2 → longP ws n r.1 < longP ws n A
theorem smGo_run {ws : List Int} {n : Nat} : ∀ (f : Nat) (A : List Int) (c : Int), TourN A n → RunF ws n A c (smGo ws n f A c) := by
  intro f
  induction f with
  | zero => intro A c h; exact ⟨h, Int.le_refl _, Int.le_refl _, fun h => by simp [smGo] at h⟩
  | succ f ih =>
    intro A c h
    cases hs : siGo ws n A n 0 with
    | none => rw [smGo_no hs]; exact ⟨h, Int.le_refl _, Int.le_refl _, fun h => by simp at h⟩
    | some B =>
      obtain ⟨h1, h2⟩ := siGo_some h _ _ (by omega) hs
      obtain ⟨r1, r2, r3, r4⟩ := ih B (c + 1) h1
      rw [smGo_yes hs]
      exact ⟨r1, by omega, by omega, fun _ => by omega⟩
theorem mvGo_run {ws : List Int} {n : Nat} : ∀ (f : Nat) (A : List Int) (c : Int), TourN A n → RunF ws n A c (mvGo ws n f A c) := by
  intro f
  induction f with
  | zero => intro A c h; exact ⟨h, Int.le_refl _, Int.le_refl _, fun h => by simp [mvGo] at h⟩
  | succ f ih =>
    intro A c h
    cases hs : iGo ws n A n 0 with
    | none => rw [mvGo_no hs]; exact ⟨h, Int.le_refl _, Int.le_refl _, fun h => by simp at h⟩
    | some B =>
      obtain ⟨h1, h2⟩ := iGo_some h _ _ (by omega) hs
      obtain ⟨r1, r2, r3, r4⟩ := ih B (c + 1) h1
      rw [mvGo_yes hs]
      exact ⟨r1, by omega, by omega, fun _ => by omega⟩
theorem smGo_fix {ws : List Int} {n : Nat} (hw : WaysOk ws n) : ∀ (f : Nat) (A : List Int) (c : Int), TourN A n → (longP ws n A).toNat < f → siGo ws n (smGo ws n f A c).1 n 0 = none := by
  intro f
  induction f with
  | zero => intro A c _ h; omega
  | succ f ih =>
    intro A c h hf
    cases hs : siGo ws n A n 0 with
    | none => rw [smGo_no hs]; exact hs
    | some B =>
      obtain ⟨h1, h2⟩ := siGo_some h _ _ (by omega) hs
      have := (longTo_rng hw h1.ok n (Nat.le_refl _)).1
      rw [smGo_yes hs]
      exact ih B (c + 1) h1 (by unfold longP at *; omega)
def swapTour (ws A : List Int) (n : Nat) : List Int × Int := smGo ws n ((longP ws n A).toNat + 1) A 0
/-! ### A tour may begin anywhere -/
theorem longW_one (W : Int → Int → Int) {n : Nat} {x : Int} {r : List Int} (hl : (x :: r).length = n) : longW W n (r ++ [x]) n = longW W n (x :: r) n := by
  have hn : 1 ≤ n := by rw [← hl]; simp
  rw [longW_tour W hl hn, longW_tour W (show (r ++ [x]).length = n by rw [← hl]; simp) hn]
  have hrl : r.length = n - 1 := by rw [← hl]; simp
  cases r with
  | nil => simp at hrl; simp [pathE, wsum, List.getD, ← hrl]
  | cons y s =>
    have e1 : (y :: s ++ [x]).getD (n - 1) 0 = x := by rw [← hrl]; simp [List.getD]
    have e2 : (y :: s ++ [x]).getD 0 0 = y := by simp [List.getD]
    have e3 : (x :: y :: s).getD 0 0 = x := by simp [List.getD]
    rw [e1, e2, e3, pathE, wsum]
    have hm : n - 1 = s.length + 1 := by rw [← hrl]; simp
    have e4 : (x :: y :: s).getD (n - 1) 0 = (y :: s).getLast (by simp) := by
      rw [hm, List.getLast_eq_getElem]
      simp [List.getD]
    rw [e4]
    have hd : y :: s = (y :: s).dropLast ++ [(y :: s).getLast (by simp)] := (List.dropLast_concat_getLast (by simp)).symm
    have e5 : pathE (y :: s ++ [x]) = pathE (y :: s) ++ [((y :: s).getLast (by simp), x)] := by
      obtain ⟨l, z, hz⟩ : ∃ l z, y :: s = l ++ [z] := ⟨_, _, hd⟩
      have hz2 : (y :: s).getLast (by simp) = z := by simp [hz]
      rw [hz2, hz, List.append_assoc]
      exact pathE_snoc l z x
    rw [e5, wsum_snoc]
    simp only
    omega
theorem longW_turn (W : Int → Int → Int) : ∀ (B C : List Int) (n : Nat), (B ++ C).length = n → longW W n (C ++ B) n = longW W n (B ++ C) n
  | [], C, n, h => by simp
  | x :: B, C, n, h => by
    have h1 := longW_turn W B (C ++ [x]) n (by simp at h ⊢; omega)
    have h2 := longW_one W (n := n) (x := x) (r := B ++ C) (by simpa using h)
    rw [List.append_assoc] at h1
    rw [show C ++ x :: B = C ++ ([x] ++ B) by simp, h1, ← List.append_assoc, h2]
    rfl
/-- the best tour that begins with the first city is none longer than any tour -/
theorem least_any {ws : List Int} {n : Nat} (hn : 1 ≤ n) {least : Int} (h : ∀ T, Tour0 T n → least ≤ longP ws n T) {A : List Int} (hA : TourN A n) : least ≤ longP ws n A := by
  have h0 : (0 : Int) ∈ A := all_in hA.len hA.nd hA.rng (Int.le_refl _) (by omega)
  obtain ⟨B, C, rfl⟩ := List.append_of_mem h0
  have hp : ((0 :: C) ++ B).Perm (B ++ 0 :: C) := List.perm_append_comm
  have ht := hA.perm hp
  have := h ((0 :: C) ++ B) ⟨ht.len, ht.rng, ht.nd, by simp [List.getD]⟩
  rw [longP, longW_ws, longW_turn (wayOf ws n) B (0 :: C) n hA.len] at this
  rw [longP, longW_ws]
  exact this
/-! ### On to the nearest city -/
def nxGo (W : Int → Int → Int) (S : List Int) (i : Int) : Nat → Int → Int → Int
  | 0, _, c => c
  | m + 1, k, c => nxGo W S i m (k + 1) (if hasI S k = false ∧ (c < 0 ∨ W i k < W i c) then k else c)
theorem nxGo_yes {W : Int → Int → Int} {S : List Int} {i : Int} {m : Nat} {k c : Int} (h : hasI S k = false ∧ (c < 0 ∨ W i k < W i c)) : nxGo W S i (m + 1) k c = nxGo W S i m (k + 1) k := by rw [nxGo, if_pos h]
theorem nxGo_no {W : Int → Int → Int} {S : List Int} {i : Int} {m : Nat} {k c : Int} (h : ¬ (hasI S k = false ∧ (c < 0 ∨ W i k < W i c))) : nxGo W S i (m + 1) k c = nxGo W S i m (k + 1) c := by rw [nxGo, if_neg h]
/-- no city yet, or one that is not in -/
def NxOk (S : List Int) (k c : Int) : Prop := c = -1 ∨ (0 ≤ c ∧ c < k ∧ c ∉ S)
theorem nxGo_ok (W : Int → Int → Int) (S : List Int) (i : Int) : ∀ (m : Nat) (k c : Int), 0 ≤ k → NxOk S k c → NxOk S (k + m) (nxGo W S i m k c) ∧ (0 ≤ c → 0 ≤ nxGo W S i m k c ∧ W i (nxGo W S i m k c) ≤ W i c) ∧ ∀ j, k ≤ j → j < k + m → j ∉ S → 0 ≤ nxGo W S i m k c ∧ W i (nxGo W S i m k c) ≤ W i j := by
  intro m
  induction m with
  | zero => intro k c hk h; exact ⟨by simpa [nxGo] using h, fun h => ⟨h, Int.le_refl _⟩, fun j h1 h2 _ => by omega⟩
  | succ m ih =>
    intro k c hk h
    by_cases hc : hasI S k = false ∧ (c < 0 ∨ W i k < W i c)
    · rw [nxGo_yes hc]
      obtain ⟨i1, i2, i3⟩ := ih (k + 1) k (by omega) (.inr ⟨hk, by omega, (hasI_false S k).1 hc.1⟩)
      have i2 := i2 hk
      refine ⟨by rw [show k + ((m + 1 : Nat) : Int) = k + 1 + m by omega]; exact i1, fun h0 => ⟨i2.1, ?_⟩, fun j h1 h2 h3 => ?_⟩
      · rcases hc.2 with h' | h' <;> omega
      · by_cases hj : j = k
        · subst hj; exact i2
        · exact i3 j (by omega) (by omega) h3
    · rw [nxGo_no hc]
      obtain ⟨i1, i2, i3⟩ := ih (k + 1) c (by omega) (by rcases h with h | h; exact .inl h; exact .inr ⟨h.1, by omega, h.2.2⟩)
      refine ⟨by rw [show k + ((m + 1 : Nat) : Int) = k + 1 + m by omega]; exact i1, i2, fun j h1 h2 h3 => ?_⟩
      by_cases hj : j = k
      · subst hj
        have h4 := (hasI_false S j).2 h3
        have h5 : ¬ c < 0 := fun h => hc ⟨h4, .inl h⟩
        have h6 : ¬ W i j < W i c := fun h => hc ⟨h4, .inr h⟩
        have := i2 (by omega)
        exact ⟨this.1, by omega⟩
      · exact i3 j (by omega) (by omega) h3
def nextC (W : Int → Int → Int) (n : Nat) (S : List Int) : Int := nxGo W S (S.getD (S.length - 1) 0) n 0 (-1)
def nearTo (W : Int → Int → Int) (n : Nat) (from' : Int) : Nat → List Int
  | 0 => [from']
  | k + 1 => nearTo W n from' k ++ [nextC W n (nearTo W n from' k)]
def nearP (W : Int → Int → Int) (n : Nat) (from' : Int) : List Int := nearTo W n from' (n - 1)
theorem nearTo_len (W : Int → Int → Int) (n : Nat) (f : Int) : ∀ k, (nearTo W n f k).length = k + 1 := by
  intro k
  induction k with
  | zero => rfl
  | succ k ih => rw [nearTo, List.length_append, ih]; rfl
theorem nextC_ok (W : Int → Int → Int) {n : Nat} {S : List Int} (hl : S.length < n) : 0 ≤ nextC W n S ∧ nextC W n S < n ∧ nextC W n S ∉ S ∧ ∀ j, 0 ≤ j → j < (n : Int) → j ∉ S → W (S.getD (S.length - 1) 0) (nextC W n S) ≤ W (S.getD (S.length - 1) 0) j := by
  obtain ⟨h1, _, h3⟩ := nxGo_ok W S (S.getD (S.length - 1) 0) n 0 (-1) (Int.le_refl _) (.inl rfl)
  rw [Int.zero_add] at h1 h3
  have hout : ∃ j, 0 ≤ j ∧ j < (n : Int) ∧ j ∉ S := by
    by_cases h : ∃ j, 0 ≤ j ∧ j < (n : Int) ∧ j ∉ S
    · exact h
    · have := pigeon 0 n S (fun k h1 h2 => by
        by_cases hk : k ∈ S
        · exact hk
        · exact absurd ⟨k, h1, by omega, hk⟩ h)
      omega
  obtain ⟨j, j1, j2, j3⟩ := hout
  have h0 := (h3 j j1 j2 j3).1
  rcases h1 with h1 | h1
  · exfalso; unfold nextC at *; omega
  · exact ⟨h0, h1.2.1, h1.2.2, fun j j1 j2 j3 => (h3 j j1 j2 j3).2⟩
theorem nearTo_ok (W : Int → Int → Int) {n : Nat} {f : Int} (h0 : 0 ≤ f) (h1 : f < n) : ∀ k, k < n → (∀ x ∈ nearTo W n f k, 0 ≤ x ∧ x < (n : Int)) ∧ (nearTo W n f k).Nodup := by
  intro k
  induction k with
  | zero => intro _; exact ⟨fun x hx => by simp [nearTo] at hx; omega, by simp [nearTo]⟩
  | succ k ih =>
    intro hk
    obtain ⟨i1, i2⟩ := ih (by omega)
    obtain ⟨c1, c2, c3, _⟩ := nextC_ok W (n := n) (S := nearTo W n f k) (by rw [nearTo_len]; exact hk)
    rw [nearTo]
    refine ⟨fun x hx => ?_, ?_⟩
    · rcases List.mem_append.1 hx with hx | hx
      · exact i1 x hx
      · rw [List.mem_singleton] at hx; subst hx; exact ⟨c1, c2⟩
    · rw [List.nodup_append]
      refine ⟨i2, by simp, fun x hx y hy => ?_⟩
      rw [List.mem_singleton] at hy
      subst hy
      rintro rfl
      exact c3 hx
theorem nearTo_at (W : Int → Int → Int) (n : Nat) (f : Int) : ∀ (m k : Nat), k ≤ m → (nearTo W n f m).getD k 0 = (nearTo W n f k).getD k 0 := by
  intro m
  induction m with
  | zero =>
    intro k h
    have hk : k = 0 := by omega
    rw [hk]
  | succ m ih =>
    intro k h
    by_cases hk : k = m + 1
    · rw [hk]
    · rw [← ih k (by omega), nearTo]
      simp only [List.getD]
      rw [List.getElem?_append_left (by rw [nearTo_len]; omega)]
structure NearF (W : Int → Int → Int) (n : Nat) (f : Int) : Prop where
  tn : TourN (nearP W n f) n
  hd : (nearP W n f).getD 0 0 = f
  nx : ∀ i k : Nat, i + 1 < n → i + 1 ≤ k → k < n → W ((nearP W n f).getD i 0) ((nearP W n f).getD (i + 1) 0) ≤ W ((nearP W n f).getD i 0) ((nearP W n f).getD k 0)
theorem nearF (W : Int → Int → Int) {n : Nat} {f : Int} (hn : 1 ≤ n) (h0 : 0 ≤ f) (h1 : f < n) : NearF W n f := by
  obtain ⟨a, b⟩ := nearTo_ok W h0 h1 (n - 1) (by omega)
  have hl : (nearP W n f).length = n := by rw [nearP, nearTo_len]; omega
  refine ⟨⟨hl, a, b⟩, ?_, fun i k hi hik hk => ?_⟩
  · rw [nearP, nearTo_at W n f (n - 1) 0 (by omega)]
    simp [nearTo, List.getD]
  · have hS := nearTo_len W n f i
    obtain ⟨c1, c2, c3, c4⟩ := nextC_ok W (n := n) (S := nearTo W n f i) (by rw [hS]; omega)
    have e1 : (nearP W n f).getD i 0 = (nearTo W n f i).getD ((nearTo W n f i).length - 1) 0 := by rw [nearP, nearTo_at W n f (n - 1) i (by omega), hS, Nat.add_sub_cancel]
    have e2 : (nearP W n f).getD (i + 1) 0 = nextC W n (nearTo W n f i) := by
      rw [nearP, nearTo_at W n f (n - 1) (i + 1) (by omega), nearTo]
      simp only [List.getD]
      rw [List.getElem?_append_right (by rw [hS]; omega), hS]
      simp
    rw [e1, e2]
    have hkl : k < (nearP W n f).length := by rw [hl]; exact hk
    refine c4 _ (a _ (getD_memI hkl)).1 (a _ (getD_memI hkl)).2 fun hm => ?_
    obtain ⟨j, hj, he⟩ := List.mem_iff_getElem.1 hm
    have hji : j ≤ i := by rw [hS] at hj; omega
    have e3 : (nearP W n f).getD j 0 = (nearP W n f).getD k 0 := by
      rw [← he, nearP, nearTo_at W n f (n - 1) j (by omega), ← nearTo_at W n f i j hji, getD_lt hj]
    have := nodup_inj b (by rw [nearTo_len]; omega) hkl e3
    omega
end Go.Proofs.Ytkankfdpodofjaa
