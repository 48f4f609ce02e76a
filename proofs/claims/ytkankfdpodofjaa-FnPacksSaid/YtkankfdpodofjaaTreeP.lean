/-
  The least tree of cities and a bound of tours: the plain part; no statement of the program is proved here.
-/
import Derived.Test.YtkankfdpodofjaaCityP
import Derived.Test.YtkankfdpodofjaaSort
namespace Go.Proofs.Ytkankfdpodofjaa
open Go.RowKit
set_option linter.unusedVariables false
set_option maxRecDepth 100000

/-! ### The next edge -/
def rowGo (W : Int → Int → Int) (S : List Int) (i : Int) : Nat → Int → Int × Int → Int × Int
  | 0, _, c => c
  | m + 1, k, c => rowGo W S i m (k + 1) (if hasI S k = false ∧ (c.1 < 0 ∨ W i k < W c.1 c.2) then (i, k) else c)
def pairGo (W : Int → Int → Int) (S : List Int) (f : Int) (n : Nat) : Nat → Int → Int × Int → Int × Int
  | 0, _, c => c
  | m + 1, i, c => pairGo W S f n m (i + 1) (if hasI S i then rowGo W S i n f c else c)
def pick (W : Int → Int → Int) (S : List Int) (f : Int) (n : Nat) : Int × Int := pairGo W S f n n f (-1, -1)
/-- no edge yet, or one that leads out -/
def EdgeOk (S : List Int) (f : Int) (n : Nat) (c : Int × Int) : Prop := c = (-1, -1) ∨ (c.1 ∈ S ∧ f ≤ c.1 ∧ c.1 < f + n ∧ c.2 ∉ S ∧ f ≤ c.2 ∧ c.2 < f + n)
theorem rowGo_ok (W : Int → Int → Int) (S : List Int) (f i : Int) (n : Nat) (hi : i ∈ S) (h1 : f ≤ i) (h2 : i < f + n) : ∀ (m : Nat) (k : Int) (c : Int × Int), f ≤ k → k + m ≤ f + n → EdgeOk S f n c → EdgeOk S f n (rowGo W S i m k c) := by
  intro m
  induction m with
  | zero => intro k c _ _ h; exact h
  | succ m ih =>
    intro k c hk hkm h
    rw [rowGo]
    refine ih _ _ (by omega) (by omega) ?_
    split
    · rename_i hc
      exact .inr ⟨hi, h1, h2, (hasI_false S k).1 hc.1, hk, by omega⟩
    · exact h
theorem pairGo_ok (W : Int → Int → Int) (S : List Int) (f : Int) (n : Nat) : ∀ (m : Nat) (i : Int) (c : Int × Int), f ≤ i → i + m ≤ f + n → EdgeOk S f n c → EdgeOk S f n (pairGo W S f n m i c) := by
  intro m
  induction m with
  | zero => intro i c _ _ h; exact h
  | succ m ih =>
    intro i c hi him h
    rw [pairGo]
    refine ih _ _ (by omega) (by omega) ?_
    split
    · rename_i hs
      exact rowGo_ok W S f i n ((hasI_iff S i).1 hs) hi (by omega) n f c (Int.le_refl _) (Int.le_refl _) h
    · exact h
theorem rowGo_some (W : Int → Int → Int) (S : List Int) (i : Int) (hi0 : 0 ≤ i) : ∀ (m : Nat) (k : Int) (c : Int × Int), (0 ≤ c.1 ∨ ∃ j, k ≤ j ∧ j < k + m ∧ j ∉ S) → 0 ≤ (rowGo W S i m k c).1 := by
  intro m
  induction m with
  | zero => intro k c h; rcases h with h | ⟨j, h1, h2, _⟩; exact h; omega
  | succ m ih =>
    intro k c h
    rw [rowGo]
    refine ih _ _ ?_
    by_cases hc : hasI S k = false ∧ (c.1 < 0 ∨ W i k < W c.1 c.2)
    · rw [if_pos hc]; exact .inl hi0
    · rw [if_neg hc]
      rcases h with h | ⟨j, h1, h2, h3⟩
      · exact .inl h
      · by_cases hjk : j = k
        · subst hjk
          left
          have := (hasI_false S j).2 h3
          by_cases h0 : c.1 < 0
          · exact absurd ⟨this, .inl h0⟩ hc
          · omega
        · exact .inr ⟨j, by omega, by omega, h3⟩
theorem pairGo_some (W : Int → Int → Int) (S : List Int) (f : Int) (n : Nat) (hf : 0 ≤ f) (hout : ∃ j, f ≤ j ∧ j < f + n ∧ j ∉ S) : ∀ (m : Nat) (i : Int) (c : Int × Int), f ≤ i → (0 ≤ c.1 ∨ ∃ j, i ≤ j ∧ j < i + m ∧ j ∈ S) → 0 ≤ (pairGo W S f n m i c).1 := by
  intro m
  induction m with
  | zero => intro i c _ h; rcases h with h | ⟨j, h1, h2, _⟩; exact h; omega
  | succ m ih =>
    intro i c hi h
    rw [pairGo]
    refine ih _ _ (by omega) ?_
    by_cases hc : hasI S i = true
    · rw [if_pos hc]
      exact .inl (rowGo_some W S i (by omega) n f c (.inr hout))
    · rw [if_neg hc]
      rcases h with h | ⟨j, h1, h2, h3⟩
      · exact .inl h
      · by_cases hji : j = i
        · subst hji; exact absurd ((hasI_iff S j).2 h3) hc
        · exact .inr ⟨j, by omega, by omega, h3⟩
theorem pigeon (f : Int) : ∀ (m : Nat) (S : List Int), (∀ k, f ≤ k → k < f + m → k ∈ S) → m ≤ S.length := by
  intro m
  induction m with
  | zero => intro S _; omega
  | succ m ih =>
    intro S h
    have hm := h (f + m) (by omega) (by omega)
    have := ih (S.erase (f + m)) (fun k h1 h2 => (List.mem_erase_of_ne (by omega)).2 (h k h1 (by omega)))
    rw [List.length_erase_of_mem hm] at this
    have := List.length_pos_of_mem hm
    omega
/-- while not all cities are in, there is an edge that leads out -/
theorem pick_ok (W : Int → Int → Int) (S : List Int) (f : Int) (n : Nat) (hf : 0 ≤ f) (hin : ∃ j, f ≤ j ∧ j < f + n ∧ j ∈ S) (hl : S.length < n) :
    (pick W S f n).1 ∈ S ∧ f ≤ (pick W S f n).1 ∧ (pick W S f n).1 < f + n ∧ (pick W S f n).2 ∉ S ∧ f ≤ (pick W S f n).2 ∧ (pick W S f n).2 < f + n := by
  have hout : ∃ j, f ≤ j ∧ j < f + n ∧ j ∉ S := by
    by_cases h : ∃ j, f ≤ j ∧ j < f + n ∧ j ∉ S
    · exact h
    · have := pigeon f n S (fun k h1 h2 => by
        by_cases hk : k ∈ S
        · exact hk
        · exact absurd ⟨k, h1, h2, hk⟩ h)
      omega
  have h1 := pairGo_ok W S f n n f (-1, -1) (Int.le_refl _) (Int.le_refl _) (.inl rfl)
  have h2 := pairGo_some W S f n hf hout n f (-1, -1) (Int.le_refl _) (.inr hin)
  unfold pick
  rcases h1 with h1 | h1
  · rw [h1] at h2; exact absurd h2 (by decide)
  · exact h1
/-! ### The tree -/
def treeGo (W : Int → Int → Int) (f : Int) (n : Nat) : Nat → List Int → List Int → Int → List Int × Int
  | 0, _, E, t => (E, t)
  | m + 1, S, E, t => treeGo W f n m (S ++ [(pick W S f n).2]) (E ++ [(pick W S f n).1, (pick W S f n).2]) (t + W (pick W S f n).1 (pick W S f n).2)
def treeOf (W : Int → Int → Int) (f : Int) (n : Nat) : List Int × Int := treeGo W f n (n - 1) [f] [] 0
theorem treeGo_rng (W : Int → Int → Int) (f : Int) (n : Nat) (hf : 0 ≤ f) (B : Int) (hW : ∀ a b, f ≤ a → a < f + n → f ≤ b → b < f + n → -B ≤ W a b ∧ W a b ≤ B) : ∀ (m : Nat) (S E : List Int) (t : Int), m + S.length = n → (∃ j, f ≤ j ∧ j < f + n ∧ j ∈ S) → (∀ x ∈ E, f ≤ x ∧ x < f + n) →
    (∀ x ∈ (treeGo W f n m S E t).1, f ≤ x ∧ x < f + n) ∧ (treeGo W f n m S E t).1.length = E.length + 2 * m ∧ t - m * B ≤ (treeGo W f n m S E t).2 ∧ (treeGo W f n m S E t).2 ≤ t + m * B := by
  intro m
  induction m with
  | zero => intro S E t _ _ hE; exact ⟨hE, rfl, by simp [treeGo], by simp [treeGo]⟩
  | succ m ih =>
    intro S E t hm hin hE
    obtain ⟨p1, p2, p3, p4, p5, p6⟩ := pick_ok W S f n hf hin (by omega)
    rw [treeGo]
    have hw := hW _ _ p2 p3 p5 p6
    obtain ⟨j, j1, j2, j3⟩ := hin
    obtain ⟨i1, i2, i3, i4⟩ := ih (S ++ [(pick W S f n).2]) (E ++ [(pick W S f n).1, (pick W S f n).2]) (t + W (pick W S f n).1 (pick W S f n).2) (by simp; omega) ⟨j, j1, j2, by simp [j3]⟩ (fun x hx => by
      rw [List.mem_append] at hx
      rcases hx with hx | hx
      · exact hE x hx
      · simp only [List.mem_cons, List.not_mem_nil, or_false] at hx
        rcases hx with rfl | rfl
        · exact ⟨p2, p3⟩
        · exact ⟨p5, p6⟩)
    refine ⟨i1, by rw [i2]; simp; omega, ?_, ?_⟩
    · rw [Int.natCast_add, Int.natCast_one, Int.add_mul, Int.one_mul]; omega
    · rw [Int.natCast_add, Int.natCast_one, Int.add_mul, Int.one_mul]; omega
/-! ### The first two of an order -/
def LexLt (key : Int → Int) (a b : Int) : Prop := key a < key b ∨ (key a = key b ∧ a < b)
theorem LexLt.trans {key : Int → Int} {a b c : Int} (h : LexLt key a b) (g : LexLt key b c) : LexLt key a c := by
  unfold LexLt at *; omega
theorem sink_snoc (lt : Int → Int → Bool) (B : List Int) (a x : Int) : sinkAt lt (B ++ [a]).length ((B ++ [a]) ++ [x]) = if lt x a then sinkAt lt B.length (B ++ [x]) ++ [a] else B ++ [a] ++ [x] := by
  have hl : (B ++ [a]).length = B.length + 1 := by simp
  rw [hl, sinkAt]
  have g1 : ((B ++ [a]) ++ [x]).getD (B.length + 1) 0 = x := by rw [← hl]; simp [List.getD]
  have g2 : ((B ++ [a]) ++ [x]).getD B.length 0 = a := by simp [List.getD]
  rw [g1, g2]
  split
  · have : swapAt ((B ++ [a]) ++ [x]) B.length = (B ++ [x]) ++ [a] := by
      unfold swapAt
      rw [g1, g2, List.append_assoc, List.append_assoc, List.set_append_right _ _ (by omega), List.set_append_right _ _ (by omega)]
      simp
    rw [this]
    exact sinkAt_append lt (B ++ [x]) [a] B.length (by simp)
  · rfl
theorem sink_lex (key : Int → Int) (lt : Int → Int → Bool) (hlt : ∀ x y, lt x y = decide (key x < key y)) (x : Int) : ∀ (n : Nat) (A : List Int), A.length = n → A.Pairwise (LexLt key) → (∀ a ∈ A, a < x) → (sinkAt lt A.length (A ++ [x])).Pairwise (LexLt key) ∧ ∀ y, y ∈ sinkAt lt A.length (A ++ [x]) ↔ y = x ∨ y ∈ A := by
  intro n
  induction n with
  | zero =>
    intro A hA _ _
    have : A = [] := List.eq_nil_of_length_eq_zero hA
    subst this
    refine ⟨by simp [sinkAt], fun y => by simp [sinkAt]⟩
  | succ n ih =>
    intro A hA hp hx
    obtain ⟨B, a, rfl⟩ : ∃ B a, A = B ++ [a] := by
      have hne : A ≠ [] := by intro e; rw [e] at hA; simp at hA
      exact ⟨A.dropLast, A.getLast hne, (List.dropLast_concat_getLast hne).symm⟩
    rw [List.pairwise_append] at hp
    obtain ⟨p1, _, p3⟩ := hp
    obtain ⟨i1, i2⟩ := ih B (by simp at hA; omega) p1 (fun b hb => hx b (by simp [hb]))
    rw [sink_snoc, hlt]
    by_cases hc : key x < key a
    · rw [if_pos (by simpa using hc)]
      refine ⟨?_, fun y => ?_⟩
      · rw [List.pairwise_append]
        refine ⟨i1, by simp, fun u hu v hv => ?_⟩
        rw [List.mem_singleton] at hv
        subst hv
        rcases (i2 u).1 hu with rfl | hu
        · exact .inl hc
        · exact p3 u hu v (by simp)
      · simp only [List.mem_append, i2, List.mem_singleton]
        constructor
        · rintro ((h | h) | h) <;> simp [h]
        · rintro (h | h | h) <;> simp [h]
    · rw [if_neg (by simpa using hc)]
      have hax : LexLt key a x := by
        have := hx a (by simp)
        unfold LexLt; omega
      refine ⟨?_, fun y => ?_⟩
      · rw [List.pairwise_append]
        refine ⟨by rw [List.pairwise_append]; exact ⟨p1, by simp, p3⟩, by simp, fun u hu v hv => ?_⟩
        rw [List.mem_singleton] at hv
        subst hv
        rw [List.mem_append, List.mem_singleton] at hu
        rcases hu with hu | rfl
        · exact (p3 u hu a (by simp)).trans hax
        · exact hax
      · simp only [List.mem_append, List.mem_singleton]
        constructor
        · rintro ((h | h) | h) <;> simp [h]
        · rintro (h | h | h) <;> simp [h]
theorem ordTo_lex (key : Int → Int) (lt : Int → Int → Bool) (hlt : ∀ x y, lt x y = decide (key x < key y)) (n : Nat) : (ordTo lt n).Pairwise (LexLt key) ∧ ∀ y, y ∈ ordTo lt n ↔ 0 ≤ y ∧ y < (n : Int) := by
  induction n with
  | zero => exact ⟨by simp [ordTo], fun y => by simp [ordTo]⟩
  | succ n ih =>
    obtain ⟨i1, i2⟩ := ih
    have := sink_lex key lt hlt (n : Int) _ (ordTo lt n) rfl i1 (fun a ha => ((i2 a).1 ha).2)
    rw [ordTo_len] at this
    rw [ordTo]
    refine ⟨this.1, fun y => ?_⟩
    rw [this.2, i2]
    omega
/-- the least city by key, the lesser one of two alike -/
def fstGo (key : Int → Int) : Nat → Int → Int → Int
  | 0, _, c => c
  | m + 1, k, c => fstGo key m (k + 1) (if key k < key c then k else c)
def sndGo (key : Int → Int) (F : Int) : Nat → Int → Int → Int
  | 0, _, c => c
  | m + 1, k, c => sndGo key F m (k + 1) (if k ≠ F ∧ (c < 0 ∨ key k < key c) then k else c)
theorem fstGo_least (key : Int → Int) (a : Int) : ∀ (m : Nat) (k c : Int), a ≤ c → c < k → (∀ j, a ≤ j → j < k → j = c ∨ LexLt key c j) →
    a ≤ fstGo key m k c ∧ fstGo key m k c < k + m ∧ ∀ j, a ≤ j → j < k + m → j = fstGo key m k c ∨ LexLt key (fstGo key m k c) j := by
  intro m
  induction m with
  | zero => intro k c h1 h2 h3; exact ⟨h1, by simpa [fstGo] using h2, fun j a b => h3 j a (by simpa using b)⟩
  | succ m ih =>
    intro k c h1 h2 h3
    rw [fstGo, show k + ((m + 1 : Nat) : Int) = k + 1 + (m : Int) by omega]
    by_cases hc : key k < key c
    · rw [if_pos hc]
      refine ih _ _ (by omega) (by omega) (fun j g1 g2 => ?_)
      by_cases hj : j = k
      · exact .inl hj
      · right
        rcases h3 j g1 (by omega) with rfl | h
        · exact .inl hc
        · unfold LexLt at *; omega
    · rw [if_neg hc]
      refine ih _ _ h1 (by omega) (fun j g1 g2 => ?_)
      by_cases hj : j = k
      · subst hj; right; unfold LexLt; omega
      · exact h3 j g1 (by omega)
theorem sndGo_least (key : Int → Int) (F a : Int) (ha : 0 ≤ a) : ∀ (m : Nat) (k c : Int), a ≤ k → (c < 0 → ∀ j, a ≤ j → j < k → j = F) → (0 ≤ c → a ≤ c ∧ c < k ∧ c ≠ F ∧ ∀ j, a ≤ j → j < k → j ≠ F → j = c ∨ LexLt key c j) → (0 ≤ c ∨ ∃ j, k ≤ j ∧ j < k + m ∧ j ≠ F) →
    a ≤ sndGo key F m k c ∧ sndGo key F m k c < k + m ∧ sndGo key F m k c ≠ F ∧ ∀ j, a ≤ j → j < k + m → j ≠ F → j = sndGo key F m k c ∨ LexLt key (sndGo key F m k c) j := by
  intro m
  induction m with
  | zero =>
    intro k c h1 h2 h3 h4
    rcases h4 with h4 | ⟨j, j1, j2, _⟩
    · obtain ⟨g1, g2, g3, g4⟩ := h3 h4
      exact ⟨g1, by simpa [sndGo] using g2, g3, fun j a b c => g4 j a (by simpa using b) c⟩
    · omega
  | succ m ih =>
    intro k c h1 h2 h3 h4
    rw [sndGo, show k + ((m + 1 : Nat) : Int) = k + 1 + (m : Int) by omega]
    by_cases hc : k ≠ F ∧ (c < 0 ∨ key k < key c)
    · rw [if_pos hc]
      refine ih _ _ (by omega) (fun h => by omega) (fun _ => ⟨h1, by omega, hc.1, fun j g1 g2 g3 => ?_⟩) (.inl (by omega))
      by_cases hj : j = k
      · exact .inl hj
      · right
        by_cases hc0 : c < 0
        · exact absurd (h2 hc0 j g1 (by omega)) g3
        · obtain ⟨q1, q2, q3, q4⟩ := h3 (by omega)
          have hk : key k < key c := by
            rcases hc.2 with h | h
            · exact absurd h hc0
            · exact h
          rcases q4 j g1 (by omega) g3 with rfl | h
          · exact .inl hk
          · unfold LexLt at *; omega
    · rw [if_neg hc]
      refine ih _ _ (by omega) (fun h j g1 g2 => ?_) (fun h => ?_) ?_
      · by_cases hj : j = k
        · subst hj
          by_cases hF : j = F
          · exact hF
          · exact absurd ⟨hF, .inl h⟩ hc
        · exact h2 h j g1 (by omega)
      · obtain ⟨q1, q2, q3, q4⟩ := h3 h
        refine ⟨q1, by omega, q3, fun j g1 g2 g3 => ?_⟩
        by_cases hj : j = k
        · subst hj
          right
          have : ¬ key j < key c := fun h' => hc ⟨g3, .inr h'⟩
          unfold LexLt; omega
        · exact q4 j g1 (by omega) g3
      · rcases h4 with h4 | ⟨j, j1, j2, j3⟩
        · exact .inl h4
        · by_cases hj : j = k
          · subst hj
            by_cases hc0 : c < 0
            · exact absurd ⟨j3, .inl hc0⟩ hc
            · exact .inl (by omega)
          · exact .inr ⟨j, by omega, by omega, j3⟩
def fstOf (key : Int → Int) (n : Nat) : Int := fstGo key (n - 2) 2 1
def sndOf (key : Int → Int) (n : Nat) : Int := sndGo key (fstOf key n) (n - 1) 1 (-1)
theorem fstOf_ok (key : Int → Int) {n : Nat} (hn : 3 ≤ n) : 1 ≤ fstOf key n ∧ fstOf key n < n ∧ ∀ j, 1 ≤ j → j < (n : Int) → j = fstOf key n ∨ LexLt key (fstOf key n) j := by
  have := fstGo_least key 1 (n - 2) 2 1 (by omega) (by omega) (fun j a b => .inl (by omega))
  rw [show (2 : Int) + ((n - 2 : Nat) : Int) = (n : Int) by omega] at this
  exact this
theorem sndOf_ok (key : Int → Int) {n : Nat} (hn : 3 ≤ n) : 1 ≤ sndOf key n ∧ sndOf key n < n ∧ sndOf key n ≠ fstOf key n ∧ ∀ j, 1 ≤ j → j < (n : Int) → j ≠ fstOf key n → j = sndOf key n ∨ LexLt key (sndOf key n) j := by
  have := sndGo_least key (fstOf key n) 1 (by omega) (n - 1) 1 (-1) (by omega) (fun _ j a b => by omega) (fun h => by omega) (.inr (by
    by_cases h : fstOf key n = 1
    · exact ⟨2, by omega, by omega, by omega⟩
    · exact ⟨1, by omega, by omega, by omega⟩))
  rw [show (1 : Int) + ((n - 1 : Nat) : Int) = (n : Int) by omega] at this
  exact this
theorem lex_not {key : Int → Int} {a b : Int} (h : LexLt key a b) : ¬ LexLt key b a := by unfold LexLt at *; omega
theorem lex_ne {key : Int → Int} {a b : Int} (h : LexLt key a b) : a ≠ b := by rintro rfl; exact lex_not h h
/-- the first two of the order are the least city and the next one -/
theorem ord_two (key : Int → Int) (lt : Int → Int → Bool) (hlt : ∀ x y, lt x y = decide (key (x + 1) < key (y + 1))) {n : Nat} (hn : 3 ≤ n) : ∃ r, ordTo lt (n - 1) = (fstOf key n - 1) :: (sndOf key n - 1) :: r := by
  obtain ⟨p, hm⟩ := ordTo_lex (fun x => key (x + 1)) lt hlt (n - 1)
  have hl := ordTo_len lt (n - 1)
  obtain ⟨a, b, r, e⟩ : ∃ a b r, ordTo lt (n - 1) = a :: b :: r := by
    cases h1 : ordTo lt (n - 1) with
    | nil => rw [h1] at hl; simp at hl; omega
    | cons a t =>
      cases t with
      | nil => rw [h1] at hl; simp at hl; omega
      | cons b r => exact ⟨a, b, r, rfl⟩
  rw [e] at p hm
  rw [List.pairwise_cons, List.pairwise_cons] at p
  obtain ⟨p1, p2, _⟩ := p
  obtain ⟨f1, f2, f3⟩ := fstOf_ok key hn
  obtain ⟨s1, s2, s3, s4⟩ := sndOf_ok key hn
  have ha := (hm a).1 (by simp)
  have hb := (hm b).1 (by simp)
  have lx : ∀ x y, LexLt (fun x => key (x + 1)) x y ↔ LexLt key (x + 1) (y + 1) := fun x y => by
    unfold LexLt
    constructor
    · rintro (h | ⟨h1, h2⟩)
      · exact .inl h
      · exact .inr ⟨h1, by omega⟩
    · rintro (h | ⟨h1, h2⟩)
      · exact .inl h
      · exact .inr ⟨h1, by omega⟩
  have hab := p1 b (by simp)
  rw [lx] at hab
  have hfa : fstOf key n - 1 = a := by
    have : fstOf key n - 1 ∈ a :: b :: r := (hm _).2 ⟨by omega, by omega⟩
    rcases List.mem_cons.1 this with h | h
    · exact h
    · have h1 := (lx _ _).1 (p1 _ h)
      rw [Int.sub_add_cancel] at h1
      rcases f3 (a + 1) (by omega) (by omega) with h2 | h2
      · omega
      · exact absurd h1 (lex_not h2)
  have hsb : sndOf key n - 1 = b := by
    have : sndOf key n - 1 ∈ a :: b :: r := (hm _).2 ⟨by omega, by omega⟩
    rcases List.mem_cons.1 this with h | h
    · omega
    · rcases List.mem_cons.1 h with h | h
      · exact h
      · have h1 := (lx _ _).1 (p2 _ h)
        rw [Int.sub_add_cancel] at h1
        have hne := lex_ne hab
        rcases s4 (b + 1) (by omega) (by omega) (by omega) with h2 | h2
        · omega
        · exact absurd h1 (lex_not h2)
  exact ⟨r, by rw [e, hfa, hsb]⟩
/-! ### The bound -/
def boundOf (W : Int → Int → Int) (n : Nat) : List Int × Int :=
  ((treeOf W 1 (n - 1)).1 ++ [0, fstOf (W 0) n] ++ [0, sndOf (W 0) n], (treeOf W 1 (n - 1)).2 + W 0 (fstOf (W 0) n) + W 0 (sndOf (W 0) n))
end Go.Proofs.Ytkankfdpodofjaa
