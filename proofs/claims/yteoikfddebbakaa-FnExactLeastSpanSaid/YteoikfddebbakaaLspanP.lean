/-
  LeastSpan: the plain part: the least end over all ways to put jobs on machines, by the program's search and by the reference's.
-/
import Derived.Test.YteoikfddebbakaaPlan
namespace Go.Proofs.Yteoikfddebbakaa
open Go.RowKit
set_option linter.unusedVariables false
set_option maxRecDepth 100000

/-! ### The program's search -/
def lsGo (f : List Int → Int) (U : List Int) (x : Int) : Nat → Nat → Int → Int
  | 0, _, best => best
  | n + 1, k, best =>
    let e := f (U.set k (U.getD k 0 + x))
    let b := if best < 0 ∨ e < best then e else best
    if U.getD k 0 = 0 then b else lsGo f U x n (k + 1) b
def lspan : List Int → List Int → Int
  | [], U => maxL U
  | x :: r, U => lsGo (lspan r) U x U.length 0 (-1)
/-! ### The reference's -/
def lbGo (f : List Int → Int → Int → Int) (U : List Int) (x now : Int) : Nat → Nat → Int → Int
  | 0, _, m => m
  | n + 1, k, m =>
    let m' := f (U.set k (U.getD k 0 + x)) (max now (U.getD k 0 + x)) m
    if U.getD k 0 = 0 then m' else lbGo f U x now n (k + 1) m'
def lbest : List Int → List Int → Int → Int → Int
  | [], U, now, most => if now ≥ most then most else now
  | x :: r, U, now, most => if now ≥ most then most else lbGo (fun V p m => lbest r V p m) U x now U.length 0 most

/-! ### Tops -/
theorem getD_set (U : List Int) (k j : Nat) (x : Int) (hk : k < U.length) : (U.set k x).getD j 0 = if k = j then x else U.getD j 0 := by
  simp only [List.getD, List.getElem?_set]
  split
  · rename_i e; rfl
  · rfl
theorem top_of {U : List Int} (h : 0 < U.length) : Top U (maxL U) := by
  have hne : U ≠ [] := by intro e; rw [e] at h; simp at h
  have h2 : ∀ x ∈ U, x ≤ maxL U := by
    intro x hx
    have : ¬ maxL U < x := fun hl => by have := (maxL_lt U hne x).1 hl x hx; omega
    omega
  refine ⟨?_, h2⟩
  cases U with
  | nil => exact absurd rfl hne
  | cons a r =>
    have hmem : ∀ (r : List Int) (x : Int), r.foldl max x ∈ x :: r := by
      intro r
      induction r with
      | nil => intro x; simp
      | cons b r ih =>
        intro x
        rw [List.foldl_cons]
        have := ih (max x b)
        rcases List.mem_cons.1 this with h | h
        · rw [h]
          rcases Int.le_total x b with h' | h'
          · rw [show max x b = b by omega]; simp
          · rw [show max x b = x by omega]; simp
        · exact List.mem_cons_of_mem _ (List.mem_cons_of_mem _ h)
    exact hmem r a
theorem maxL_set {U : List Int} {k : Nat} (hk : k < U.length) {x : Int} (hx : 0 ≤ x) : maxL (U.set k (U.getD k 0 + x)) = max (maxL U) (U.getD k 0 + x) :=
  top_maxL ((top_of (by omega)).step hk hx)
/-! ### What can be reached, machines being alike -/
inductive Reach : List Int → List Int → Int → Prop
  | nil {U : List Int} {e : Int} : Top U e → Reach [] U e
  | cons {x u e : Int} {r U R : List Int} : U.Perm (u :: R) → Reach r ((u + x) :: R) e → Reach (x :: r) U e
theorem Top.perm {U V : List Int} {e : Int} (h : Top U e) (p : U.Perm V) : Top V e := ⟨p.mem_iff.1 h.1, fun x hx => h.2 x (p.mem_iff.2 hx)⟩
theorem Reach.perm {L U V : List Int} {e : Int} (h : Reach L U e) (p : U.Perm V) : Reach L V e := by
  cases h with
  | nil h => exact .nil (h.perm p)
  | cons q h => exact .cons (p.symm.trans q) h
theorem Reach.swap {x y e : Int} {r U : List Int} (h : Reach (x :: y :: r) U e) : Reach (y :: x :: r) U e := by
  cases h with
  | @cons _ u _ _ _ R p h =>
    cases h with
    | @cons _ v _ _ _ R' q h =>
      by_cases hv : v = u + x
      · subst hv
        refine .cons p (.cons (List.Perm.refl _) ?_)
        have q' : R.Perm R' := List.Perm.cons_inv q
        have e1 : u + y + x = u + x + y := by omega
        rw [e1]
        exact h.perm (List.Perm.cons _ q'.symm)
      · have hm : v ∈ R := by
          have : v ∈ (u + x) :: R := q.mem_iff.2 (by simp)
          rcases List.mem_cons.1 this with h' | h'
          · exact absurd h' hv
          · exact h'
        have hR : R.Perm (v :: R.erase v) := List.perm_cons_erase hm
        have q2 : R'.Perm ((u + x) :: R.erase v) := by
          have : ((u + x) :: R).Perm (v :: (u + x) :: R.erase v) := (List.Perm.cons _ hR).trans (List.Perm.swap _ _ _)
          exact List.Perm.cons_inv (q.symm.trans this)
        refine .cons (u := v) (R := u :: R.erase v) (p.trans ((List.Perm.cons _ hR).trans (List.Perm.swap _ _ _))) ?_
        refine .cons (u := u) (R := (v + y) :: R.erase v) (List.Perm.swap _ _ _) ?_
        exact h.perm ((List.Perm.cons _ q2).trans (List.Perm.swap _ _ _))
theorem Reach.permL {L L' : List Int} (p : L.Perm L') : ∀ {U : List Int} {e : Int}, Reach L U e → Reach L' U e := by
  induction p with
  | nil => intro U e h; exact h
  | cons x _ ih =>
    intro U e h
    cases h with
    | cons q h => exact .cons q (ih h)
  | swap x y l => intro U e h; exact h.swap
  | trans _ _ ih1 ih2 => intro U e h; exact ih2 (ih1 h)
theorem Reach.ge {L U : List Int} {e : Int} (h : Reach L U e) : (∀ x ∈ L, 0 ≤ x) → (∀ x ∈ U, x ≤ e) := by
  induction h with
  | nil h => intro _; exact h.2
  | @cons x u e r U R p _ ih =>
    intro hL y hy
    have ih := ih (fun z hz => hL z (by simp [hz]))
    have hx := hL x (by simp)
    have hm := p.mem_iff.1 hy
    rcases List.mem_cons.1 hm with rfl | h'
    · have := ih (y + x) (by simp); omega
    · exact ih y (by simp [h'])
theorem Reach.geL {L U : List Int} {e : Int} (h : Reach L U e) : (∀ x ∈ L, 0 ≤ x) → (∀ x ∈ U, 0 ≤ x) → (∀ x ∈ L, x ≤ e) := by
  induction h with
  | nil h => intro _ _ x hx; simp at hx
  | @cons x u e r U R p hr ih =>
    intro hL hU y hy
    have hx := hL x (by simp)
    have hu := hU u (p.mem_iff.2 (by simp))
    have hr0 : ∀ z ∈ r, 0 ≤ z := fun z hz => hL z (by simp [hz])
    rcases List.mem_cons.1 hy with rfl | h'
    · have := hr.ge hr0 (u + y) (by simp); omega
    · refine ih hr0 (fun z hz => ?_) y h'
      rcases List.mem_cons.1 hz with rfl | h2
      · omega
      · exact hU z (p.mem_iff.2 (by simp [h2]))
theorem perm_sum {U V : List Int} (p : U.Perm V) : U.sum = V.sum := by
  induction p with
  | nil => rfl
  | cons x _ ih => simp [ih]
  | swap x y l => simp only [List.sum_cons]; omega
  | trans _ _ ih1 ih2 => rw [ih1, ih2]
theorem sum_le (U : List Int) (e : Int) (h : ∀ x ∈ U, x ≤ e) : U.sum ≤ U.length * e := by
  induction U with
  | nil => simp
  | cons a r ih =>
    have h1 := h a (by simp)
    have h2 := ih (fun x hx => h x (by simp [hx]))
    rw [List.sum_cons, List.length_cons, Int.natCast_add, Int.natCast_one, Int.add_mul, Int.one_mul]
    omega
theorem Reach.sum {L U : List Int} {e : Int} (h : Reach L U e) : U.sum + L.sum ≤ U.length * e := by
  induction h with
  | @nil U e h => have := sum_le U e h.2; simpa using this
  | @cons x u e r U R p _ ih =>
    rw [perm_sum p, p.length_eq]
    simp only [List.sum_cons, List.length_cons] at ih ⊢
    omega
/-! ### The program's search reaches its answer -/
theorem set_perm {U : List Int} {k : Nat} (hk : k < U.length) (y : Int) : ∃ R, U.Perm (U.getD k 0 :: R) ∧ (U.set k y).Perm (y :: R) := by
  induction U generalizing k with
  | nil => simp at hk
  | cons a r ih =>
    cases k with
    | zero => exact ⟨r, by simp, by simp⟩
    | succ k =>
      obtain ⟨R, h1, h2⟩ := ih (k := k) (by simpa using hk)
      refine ⟨a :: R, ?_, ?_⟩
      · rw [List.getD_cons_succ]; exact (List.Perm.cons _ h1).trans (List.Perm.swap _ _ _)
      · rw [List.set_cons_succ]; exact (List.Perm.cons _ h2).trans (List.Perm.swap _ _ _)
theorem lsGo_in (f : List Int → Int) (U : List Int) (x : Int) (hf : ∀ k, k < U.length → 0 ≤ f (U.set k (U.getD k 0 + x))) : ∀ (n k : Nat) (best : Int), k + n = U.length → (0 ≤ best → ∃ j, j < U.length ∧ best = f (U.set j (U.getD j 0 + x))) → (best < 0 → 0 < n) →
    ∃ j, j < U.length ∧ lsGo f U x n k best = f (U.set j (U.getD j 0 + x)) := by
  intro n
  induction n with
  | zero =>
    intro k best _ h1 h2
    by_cases hb : best < 0
    · have := h2 hb; omega
    · rw [lsGo]; exact h1 (by omega)
  | succ n ih =>
    intro k best hk h1 h2
    have hkl : k < U.length := by omega
    have hfk := hf k hkl
    have hb : ∃ j, j < U.length ∧ (if best < 0 ∨ f (U.set k (U.getD k 0 + x)) < best then f (U.set k (U.getD k 0 + x)) else best) = f (U.set j (U.getD j 0 + x)) := by
      split
      · exact ⟨k, hkl, rfl⟩
      · rename_i hc; exact h1 (by omega)
    have hb0 : 0 ≤ (if best < 0 ∨ f (U.set k (U.getD k 0 + x)) < best then f (U.set k (U.getD k 0 + x)) else best) := by
      split
      · exact hfk
      · rename_i hc; omega
    rw [lsGo]
    split
    · exact hb
    · exact ih (k + 1) _ (by omega) (fun _ => hb) (fun h => absurd h (by omega))
theorem set_nonneg {U : List Int} {k : Nat} {x : Int} (hU : ∀ y ∈ U, 0 ≤ y) (hk : k < U.length) (hx : 0 ≤ x) : ∀ y ∈ U.set k (U.getD k 0 + x), 0 ≤ y := by
  intro y hy
  rcases List.mem_or_eq_of_mem_set hy with h | rfl
  · exact hU y h
  · have := hU _ (getD_mem hk); omega
theorem lspan_reach : ∀ (L U : List Int), 0 < U.length → (∀ x ∈ L, 0 ≤ x) → (∀ y ∈ U, 0 ≤ y) → Reach L U (lspan L U) ∧ 0 ≤ lspan L U := by
  intro L
  induction L with
  | nil =>
    intro U h0 _ hU
    rw [lspan]
    have ht := top_of h0
    exact ⟨.nil ht, hU _ ht.1⟩
  | cons x r ih =>
    intro U h0 hL hU
    have hx := hL x (by simp)
    have hr : ∀ z ∈ r, 0 ≤ z := fun z hz => hL z (by simp [hz])
    have hf : ∀ k, k < U.length → Reach r (U.set k (U.getD k 0 + x)) (lspan r (U.set k (U.getD k 0 + x))) ∧ 0 ≤ lspan r (U.set k (U.getD k 0 + x)) := fun k hk =>
      ih _ (by simpa using h0) hr (set_nonneg hU hk hx)
    rw [lspan]
    obtain ⟨j, hj, e⟩ := lsGo_in (lspan r) U x (fun k hk => (hf k hk).2) U.length 0 (-1) (by omega) (fun h => absurd h (by omega)) (fun _ => h0)
    rw [e]
    refine ⟨?_, (hf j hj).2⟩
    obtain ⟨R, p1, p2⟩ := set_perm hj (U.getD j 0 + x)
    exact .cons p1 ((hf j hj).1.perm p2)
/-! ### and no greater one than any that can be reached -/
/-- the machines in use stand first -/
def Front (U : List Int) : Prop := ∀ i j, i < j → j < U.length → U.getD i 0 = 0 → U.getD j 0 = 0
theorem lsGo_le (f : List Int → Int) (U : List Int) (x : Int) (hf : ∀ k, k < U.length → 0 ≤ f (U.set k (U.getD k 0 + x))) : ∀ (n k : Nat) (best : Int), k + n = U.length →
    (0 ≤ best → lsGo f U x n k best ≤ best) ∧ ∀ j, k ≤ j → j < U.length → (∀ i, k ≤ i → i < j → U.getD i 0 ≠ 0) → lsGo f U x n k best ≤ f (U.set j (U.getD j 0 + x)) := by
  intro n
  induction n with
  | zero => intro k best hk; exact ⟨fun _ => by rw [lsGo]; exact Int.le_refl _, fun j h1 h2 => by omega⟩
  | succ n ih =>
    intro k best hk
    have hkl : k < U.length := by omega
    have hfk := hf k hkl
    obtain ⟨b, hb⟩ : ∃ b, b = (if best < 0 ∨ f (U.set k (U.getD k 0 + x)) < best then f (U.set k (U.getD k 0 + x)) else best) := ⟨_, rfl⟩
    have hb1 : b ≤ f (U.set k (U.getD k 0 + x)) := by rw [hb]; split <;> omega
    have hb2 : 0 ≤ best → b ≤ best := by intro h; rw [hb]; split <;> omega
    have hb3 : 0 ≤ b := by rw [hb]; split <;> omega
    have e : lsGo f U x (n + 1) k best = if U.getD k 0 = 0 then b else lsGo f U x n (k + 1) b := by rw [lsGo, ← hb]
    rw [e]
    obtain ⟨i1, i2⟩ := ih (k + 1) b (by omega)
    have i1 := i1 hb3
    refine ⟨fun h => ?_, fun j h1 h2 h3 => ?_⟩
    · have := hb2 h
      split <;> omega
    · by_cases hjk : j = k
      · subst hjk
        split <;> omega
      · have hn : U.getD k 0 ≠ 0 := h3 k (Nat.le_refl _) (by omega)
        rw [if_neg hn]
        exact i2 j (by omega) h2 (fun i a c => h3 i (by omega) c)
theorem first_of {U : List Int} {u : Int} (h : u ∈ U) : ∃ k, k < U.length ∧ U.getD k 0 = u ∧ ∀ i, i < k → U.getD i 0 ≠ u := by
  induction U with
  | nil => simp at h
  | cons a r ih =>
    by_cases ha : a = u
    · exact ⟨0, by simp, by simpa using ha, fun i hi => by omega⟩
    · have hm : u ∈ r := by
        rcases List.mem_cons.1 h with h' | h'
        · exact absurd h'.symm ha
        · exact h'
      obtain ⟨k, h1, h2, h3⟩ := ih hm
      refine ⟨k + 1, by simpa using h1, by simpa using h2, fun i hi => ?_⟩
      cases i with
      | zero => simpa using ha
      | succ i => have := h3 i (by omega); simpa using this
theorem front_set {U : List Int} {k : Nat} {x : Int} (hF : Front U) (hU : ∀ y ∈ U, 0 ≤ y) (hk : k < U.length) (hx : 0 < x) (hn : ∀ i, i < k → U.getD i 0 ≠ 0) : Front (U.set k (U.getD k 0 + x)) := by
  intro i j hij hj h0
  rw [List.length_set] at hj
  rw [getD_set _ _ _ _ hk] at h0 ⊢
  have hk0 := hU _ (getD_mem hk)
  by_cases hki : k = i
  · rw [if_pos hki] at h0; omega
  · rw [if_neg hki] at h0
    by_cases hkj : k = j
    · exact absurd h0 (hn i (by omega))
    · rw [if_neg hkj]; exact hF i j hij hj h0
theorem lspan_le : ∀ (L U : List Int) (e : Int), 0 < U.length → (∀ x ∈ L, 0 < x) → (∀ y ∈ U, 0 ≤ y) → Front U → Reach L U e → lspan L U ≤ e := by
  intro L
  induction L with
  | nil =>
    intro U e h0 _ _ _ h
    cases h with
    | nil h => rw [lspan, top_maxL h]; exact Int.le_refl _
  | cons x r ih =>
    intro U e h0 hL hU hF h
    have hx := hL x (by simp)
    have hr : ∀ z ∈ r, 0 < z := fun z hz => hL z (by simp [hz])
    cases h with
    | @cons _ u _ _ _ R p h =>
      have hu : u ∈ U := p.mem_iff.2 (by simp)
      obtain ⟨k, hk, hku, hkf⟩ := first_of hu
      have hn : ∀ i, i < k → U.getD i 0 ≠ 0 := by
        intro i hi h'
        have h2 := hF i k hi hk h'
        exact hkf i hi (by rw [h', ← hku, h2])
      obtain ⟨R', p1, p2⟩ := set_perm hk (U.getD k 0 + x)
      have hRR : R.Perm R' := by
        rw [hku] at p1
        exact List.Perm.cons_inv (p.symm.trans p1)
      have h2 : Reach r (U.set k (U.getD k 0 + x)) e := by
        rw [hku] at p2 ⊢
        exact h.perm ((List.Perm.cons _ hRR).trans p2.symm)
      have h3 := ih _ e (by simpa using h0) hr (set_nonneg hU hk (by omega)) (front_set hF hU hk hx hn) h2
      have hf : ∀ k, k < U.length → 0 ≤ lspan r (U.set k (U.getD k 0 + x)) := fun k hk => (lspan_reach r _ (by simpa using h0) (fun z hz => by have := hr z hz; omega) (set_nonneg hU hk (by omega))).2
      have h4 := (lsGo_le (lspan r) U x hf U.length 0 (-1) (by omega)).2 k (by omega) hk (fun i _ hi => hn i hi)
      rw [lspan]
      omega
/-! ### The reference's search, cut at what is known -/
theorem lsGo_succ (f : List Int → Int) (U : List Int) (x : Int) (n k : Nat) (best : Int) : lsGo f U x (n + 1) k best = if U.getD k 0 = 0 then (if best < 0 ∨ f (U.set k (U.getD k 0 + x)) < best then f (U.set k (U.getD k 0 + x)) else best) else lsGo f U x n (k + 1) (if best < 0 ∨ f (U.set k (U.getD k 0 + x)) < best then f (U.set k (U.getD k 0 + x)) else best) := rfl
theorem lbGo_succ (f : List Int → Int → Int → Int) (U : List Int) (x now : Int) (n k : Nat) (m : Int) : lbGo f U x now (n + 1) k m = if U.getD k 0 = 0 then f (U.set k (U.getD k 0 + x)) (max now (U.getD k 0 + x)) m else lbGo f U x now n (k + 1) (f (U.set k (U.getD k 0 + x)) (max now (U.getD k 0 + x)) m) := rfl
theorem lsGo_best (f : List Int → Int) (U : List Int) (x : Int) (hf : ∀ k, k < U.length → 0 ≤ f (U.set k (U.getD k 0 + x))) : ∀ (n k : Nat) (best : Int), k + (n + 1) = U.length → 0 ≤ best → lsGo f U x (n + 1) k best = min best (lsGo f U x (n + 1) k (-1)) := by
  intro n
  induction n with
  | zero =>
    intro k best hk hb
    have hfk := hf k (by omega)
    simp only [lsGo]
    rw [if_pos (show (-1 : Int) < 0 ∨ _ from .inl (by decide))]
    split <;> split <;> omega
  | succ n ih =>
    intro k best hk hb
    have hfk := hf k (by omega)
    rw [lsGo_succ f U x (n + 1) k best, lsGo_succ f U x (n + 1) k (-1)]
    rw [if_pos (show (-1 : Int) < 0 ∨ _ from .inl (by decide))]
    obtain ⟨e, he⟩ : ∃ e, e = f (U.set k (U.getD k 0 + x)) := ⟨_, rfl⟩
    rw [← he] at hfk ⊢
    by_cases hz : U.getD k 0 = 0
    · rw [if_pos hz, if_pos hz]
      split <;> omega
    · rw [if_neg hz, if_neg hz, ih (k + 1) e (by omega) hfk]
      by_cases hc : best < 0 ∨ e < best
      · rw [if_pos hc, ih (k + 1) e (by omega) hfk]; omega
      · rw [if_neg hc, ih (k + 1) best (by omega) hb]; omega
theorem lbGo_eq (f : List Int → Int) (g : List Int → Int → Int → Int) (U : List Int) (x now : Int) (hf : ∀ k, k < U.length → 0 ≤ f (U.set k (U.getD k 0 + x)))
    (hg : ∀ k m, k < U.length → g (U.set k (U.getD k 0 + x)) (max now (U.getD k 0 + x)) m = min m (f (U.set k (U.getD k 0 + x)))) : ∀ (n k : Nat) (m : Int), k + (n + 1) = U.length → lbGo g U x now (n + 1) k m = min m (lsGo f U x (n + 1) k (-1)) := by
  intro n
  induction n with
  | zero =>
    intro k m hk
    simp only [lbGo, lsGo]
    rw [hg k m (by omega), if_pos (show (-1 : Int) < 0 ∨ _ from .inl (by decide))]
    split <;> rfl
  | succ n ih =>
    intro k m hk
    have hfk := hf k (by omega)
    rw [lbGo_succ, lsGo_succ f U x (n + 1) k (-1)]
    rw [hg k m (by omega), if_pos (show (-1 : Int) < 0 ∨ _ from .inl (by decide))]
    obtain ⟨e, he⟩ : ∃ e, e = f (U.set k (U.getD k 0 + x)) := ⟨_, rfl⟩
    rw [← he] at hfk ⊢
    by_cases hz : U.getD k 0 = 0
    · rw [if_pos hz, if_pos hz]
    · rw [if_neg hz, if_neg hz, ih (k + 1) _ (by omega), lsGo_best f U x hf n (k + 1) e (by omega) hfk]
      omega
theorem lbest_eq : ∀ (L U : List Int) (most : Int), 0 < U.length → (∀ x ∈ L, 0 ≤ x) → (∀ y ∈ U, 0 ≤ y) → lbest L U (maxL U) most = min most (lspan L U) := by
  intro L
  induction L with
  | nil =>
    intro U most h0 _ _
    rw [lbest, lspan]
    split <;> omega
  | cons x r ih =>
    intro U most h0 hL hU
    have hx := hL x (by simp)
    have hr : ∀ z ∈ r, 0 ≤ z := fun z hz => hL z (by simp [hz])
    have hre := (lspan_reach (x :: r) U h0 hL hU).1
    have hge : maxL U ≤ lspan (x :: r) U := hre.ge hL _ (top_of h0).1
    rw [lbest]
    split
    · omega
    · have hf : ∀ k, k < U.length → 0 ≤ lspan r (U.set k (U.getD k 0 + x)) := fun k hk => (lspan_reach r _ (by simpa using h0) hr (set_nonneg hU hk hx)).2
      rw [lspan]
      obtain ⟨n, hn⟩ : ∃ n, U.length = n + 1 := ⟨U.length - 1, by omega⟩
      rw [hn]
      refine lbGo_eq (lspan r) _ U x (maxL U) hf (fun k m hk => ?_) n 0 most (by omega)
      rw [← maxL_set hk hx]
      exact ih _ _ (by simpa using h0) hr (set_nonneg hU hk hx)
/-! ### The plan reaches its end -/
theorem planGo_reach (L : List Int) : ∀ (zs F O : List Int) (m : Int), 0 < F.length → Top F m → (∀ z ∈ zs, 0 ≤ L.getD z.toNat 0) → Reach (zs.map fun z => L.getD z.toNat 0) F (planGo L zs F O m).2.2 := by
  intro zs
  induction zs with
  | nil => intro F O m h0 h _; exact .nil h
  | cons z r ih =>
    intro F O m h0 h hL
    have hz := hL z (by simp)
    have hb := leastOf_lt h0
    rw [planGo, List.map_cons]
    obtain ⟨R, p1, p2⟩ := set_perm hb (F.getD (leastOf F) 0 + L.getD z.toNat 0)
    exact .cons p1 ((ih _ _ _ (by simpa using h0) (h.step hb hz) (fun y hy => hL y (by simp [hy]))).perm p2)
theorem swapAt_permute (A : List Int) (j : Nat) (h : j + 1 < A.length) : (swapAt A j).Perm A := by
  have e : A = A.take j ++ A[j] :: A[j + 1] :: A.drop (j + 2) := by
    rw [← List.drop_eq_getElem_cons (show j + 1 < A.length by omega), ← List.drop_eq_getElem_cons (show j < A.length by omega), List.take_append_drop]
  have e2 : swapAt A j = A.take j ++ A[j + 1] :: A[j] :: A.drop (j + 2) := by
    have hl : (A.take j).length = j := by rw [List.length_take]; omega
    unfold swapAt
    have g1 : A.getD j 0 = A[j] := by simp [List.getD, show j < A.length by omega]
    have g2 : A.getD (j + 1) 0 = A[j + 1] := by simp [List.getD, h]
    rw [g1, g2]
    apply List.ext_getElem
    · simp; omega
    · intro i h1 h2
      rw [List.length_set, List.length_set] at h1
      simp only [List.getElem_set, List.getElem_append, List.length_take, List.getElem_cons, List.getElem_take, List.getElem_drop]
      have hm : min j A.length = j := by omega
      simp only [hm]
      by_cases c1 : i < j
      · rw [if_neg (by omega), if_neg (by omega), dif_pos c1]
      · rw [dif_neg c1]
        by_cases c2 : i = j
        · subst c2
          simp
        · by_cases c3 : i = j + 1
          · subst c3
            simp
          · rw [if_neg (by omega), if_neg (by omega), dif_neg (by omega), dif_neg (by omega)]
            congr 1
            omega
  rw [e2]
  conv => rhs; rw [e]
  exact List.Perm.append_left _ (List.Perm.swap _ _ _)
theorem sinkAt_permute (lt : Int → Int → Bool) : ∀ (j : Nat) (A : List Int), j < A.length → (sinkAt lt j A).Perm A := by
  intro j
  induction j with
  | zero => intro A _; exact List.Perm.refl _
  | succ j ih =>
    intro A h
    rw [sinkAt]
    split
    · exact (ih _ (by rw [swapAt_len]; omega)).trans (swapAt_permute A j h)
    · exact List.Perm.refl _
theorem ordTo_permute (lt : Int → Int → Bool) (n : Nat) : (ordTo lt n).Perm (rngI n) := by
  induction n with
  | zero => exact List.Perm.refl _
  | succ n ih =>
    rw [ordTo, rngI_succ]
    exact (sinkAt_permute lt n _ (by rw [List.length_append, ordTo_len]; simp)).trans (ih.append_right _)
theorem map_rng (L : List Int) : (rngI L.length).map (fun z => L.getD z.toNat 0) = L := by
  apply List.ext_getElem
  · simp [rngI]
  · intro i h1 h2
    simp [rngI, List.getD, h2]
theorem front_zero (M : Nat) : Front (List.replicate M 0) := fun i j _ _ _ => replicate_getD _ _ _
/-! ### The answer -/
def leastSpan (js : List JobD) (M : Int) : Int × Bool := if areMach js M && decide (js.length ≤ 9) then (lspan (longs js) (List.replicate M.toNat 0), true) else (0, false)
def quoUp (s M : Int) : Int := (s + M - 1) / M
theorem longs_pos {js : List JobD} (h : areJobs js = true) : ∀ x ∈ longs js, 0 < x := by
  intro x hx
  obtain ⟨j, hj, rfl⟩ := List.mem_map.1 hx
  have := okJob_bounds ((areJobs_out h).2.2 j hj)
  omega
theorem span_reach {js : List JobD} (h : areJobs js = true) {M : Nat} (hM : 1 ≤ M) (lt : Int → Int → Bool) : Reach (longs js) (List.replicate M 0) (plan js (ordTo lt js.length) M).2.2 := by
  have hp := longs_pos h
  have hL : (longs js).length = js.length := by simp [longs]
  have hr := planGo_reach (longs js) (ordTo lt js.length) (List.replicate M 0) (List.replicate js.length 0) 0 (by simp; omega) (replicate_top (by omega)) (fun z hz => by
    have hz := ordTo_idx lt js.length z hz
    have := hp _ (getD_mem (show z.toNat < (longs js).length by omega))
    omega)
  refine hr.permL ?_
  have := (ordTo_permute lt js.length).map (fun z => (longs js).getD z.toNat 0)
  rw [← hL, map_rng] at this
  rw [← hL]
  exact this
/-- no plan is shorter than the bound -/
theorem span_bound {L : List Int} {M : Nat} {e s g : Int} (hM : 1 ≤ M) (hL : ∀ x ∈ L, 0 < x) (hs : s = L.sum) (hg : g = 0 ∨ g ∈ L) (he0 : 0 ≤ e) (h : Reach L (List.replicate M 0) e) : max g (quoUp s M) ≤ e := by
  have h1 := h.sum
  have h2 := h.geL (fun x hx => by have := hL x hx; omega) (fun x hx => by rw [List.eq_of_mem_replicate hx]; omega)
  have h3 : (List.replicate M (0 : Int)).sum = 0 := by
    clear h h1 h2
    induction M with
    | zero => rfl
    | succ M ih => 
      rw [List.replicate_succ, List.sum_cons]
      cases M with
      | zero => rfl
      | succ M => rw [ih (by omega)]; rfl
  rw [h3, List.length_replicate] at h1
  have h4 : quoUp s M ≤ e := by
    unfold quoUp
    have hMp : (0 : Int) < (M : Int) := by omega
    have : (s + M - 1) / (M : Int) < e + 1 := by
      rw [Int.ediv_lt_iff_lt_mul hMp, Int.add_mul, Int.one_mul, Int.mul_comm]
      omega
    omega
  have h5 : g ≤ e := by
    rcases hg with rfl | hg
    · exact he0
    · exact h2 g hg
  omega
theorem span_eq {js : List JobD} (h : areJobs js = true) {M : Nat} (hM : 1 ≤ M) (lt : Int → Int → Bool) {first s g : Int} (hf : first = (plan js (ordTo lt js.length) M).2.2) (hs : s = (longs js).sum) (hg : g = 0 ∨ g ∈ longs js) :
    (first = max g (quoUp s M) → lspan (longs js) (List.replicate M 0) = first) ∧ lbest (longs js) (List.replicate M 0) 0 first = lspan (longs js) (List.replicate M 0) := by
  have hp := longs_pos h
  have hp0 : ∀ x ∈ longs js, 0 ≤ x := fun x hx => by have := hp x hx; omega
  have h0 : 0 < (List.replicate M (0 : Int)).length := by simp; omega
  have hz : ∀ y ∈ List.replicate M (0 : Int), 0 ≤ y := fun y hy => by rw [List.eq_of_mem_replicate hy]; omega
  have hr := span_reach h hM lt
  have hle := lspan_le (longs js) (List.replicate M 0) _ h0 hp hz (front_zero M) hr
  obtain ⟨hl, hl0⟩ := lspan_reach (longs js) (List.replicate M 0) h0 hp0 hz
  have hb := span_bound hM hp hs hg hl0 hl
  rw [← hf] at hle
  refine ⟨fun e => by omega, ?_⟩
  have hm : maxL (List.replicate M (0 : Int)) = 0 := top_maxL (replicate_top (by omega))
  have := lbest_eq (longs js) (List.replicate M 0) first h0 hp0 hz
  rw [hm] at this
  rw [this]
  omega
end Go.Proofs.Yteoikfddebbakaa
