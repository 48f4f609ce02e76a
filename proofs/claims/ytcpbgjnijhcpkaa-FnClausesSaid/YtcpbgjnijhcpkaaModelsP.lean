/-
  Plain: first models hold, counts fit together, most true clauses are all just if there is a model.
-/
import Derived.Test.YtcpbgjnijhcpkaaCountOn
import Derived.Test.YtcpbgjnijhcpkaaMost
namespace Go.Proofs.Ytcpbgjnijhcpkaa
open Go.RowKit
set_option linter.unusedVariables false
set_option maxRecDepth 100000

theorem firstFrom_iff (L : Nat) (cs : List (List Int)) (k : Nat) : ∀ a, (firstFrom L cs a k = none → ∀ n, a ≤ n → n < a + k → formTrue (valuesN L n) cs = false) ∧ (∀ n, firstFrom L cs a k = some n → a ≤ n ∧ n < a + k ∧ formTrue (valuesN L n) cs = true) := by
  induction k with
  | zero => intro a; exact ⟨fun _ n h1 h2 => (by omega), fun n h => by simp [firstFrom] at h⟩
  | succ k ih =>
    intro a
    cases hf : formTrue (valuesN L a) cs with
    | true => rw [firstFrom_hit L cs a k hf]; exact ⟨fun h => (by cases h), fun n h => by cases h; exact ⟨Nat.le_refl _, by omega, hf⟩⟩
    | false =>
      rw [firstFrom_step L cs a k hf]
      refine ⟨fun h n h1 h2 => ?_, fun n h => ?_⟩
      · by_cases e : n = a
        · rw [e]; exact hf
        · exact (ih (a + 1)).1 h n (by omega) (by omega)
      · obtain ⟨h1, h2, h3⟩ := (ih (a + 1)).2 n h; exact ⟨by omega, by omega, h3⟩
theorem countN_pos (L : Nat) (cs : List (List Int)) (N : Nat) : 0 < countN L cs N ↔ ∃ n, n < N ∧ formTrue (valuesN L n) cs = true := by
  unfold countN
  rw [List.countP_pos_iff]
  simp only [List.mem_range]
theorem fresh_le (M : Nat → Bool) (key : Nat → Nat) (N : Nat) : freshN M key N ≤ (List.range N).countP M := by
  unfold freshN
  apply List.countP_mono_left
  intro x _ h
  rw [Bool.and_eq_true] at h
  exact h.1
theorem fresh_inj (M : Nat → Bool) (key : Nat → Nat) (N : Nat) (h : ∀ a b, a < N → b < N → key a = key b → a = b) : freshN M key N = (List.range N).countP M := by
  unfold freshN
  apply List.countP_congr
  intro k hk
  rw [List.mem_range] at hk
  have : seenBefore M key k (key k) = false := by
    cases hs : seenBefore M key k (key k) with
    | false => rfl
    | true =>
      simp only [seenBefore, List.any_eq_true, List.mem_range, Bool.and_eq_true, beq_iff_eq] at hs
      obtain ⟨m, h1, _, h3⟩ := hs
      have := h m k (by omega) hk h3
      omega
  rw [this]; simp
theorem fresh_pos (M : Nat → Bool) (key : Nat → Nat) (N : Nat) : 0 < freshN M key N ↔ ∃ n, n < N ∧ M n = true := by
  constructor
  · intro h
    have := fresh_le M key N
    have h2 : 0 < (List.range N).countP M := by omega
    rw [List.countP_pos_iff] at h2
    obtain ⟨a, h3, h4⟩ := h2
    exact ⟨a, List.mem_range.1 h3, h4⟩
  · rintro ⟨n, h1, h2⟩
    induction n using Nat.strongRecOn with
    | _ n ih =>
      cases hs : seenBefore M key n (key n) with
      | false =>
        unfold freshN
        rw [List.countP_pos_iff]
        exact ⟨n, List.mem_range.2 h1, by rw [h2, hs]; rfl⟩
      | true =>
        simp only [seenBefore, List.any_eq_true, List.mem_range, Bool.and_eq_true, beq_iff_eq] at hs
        obtain ⟨m, h3, h4, _⟩ := hs
        exact ih m h3 (by omega) h4
theorem fresh_one (M : Nat → Bool) (key : Nat → Nat) (c : Nat) (h : ∀ a, key a = c) (N : Nat) : freshN M key N ≤ 1 := by
  induction N with
  | zero => simp [freshN]
  | succ N ih =>
    rw [freshN_succ]
    cases hs : seenBefore M key N (key N) with
    | true => simpa using ih
    | false =>
      have h0 : freshN M key N = 0 := by
        apply Nat.eq_zero_of_not_pos
        intro hp
        obtain ⟨m, h1, h2⟩ := (fresh_pos M key N).1 hp
        have : seenBefore M key N (key N) = true := by
          simp only [seenBefore, List.any_eq_true, List.mem_range, Bool.and_eq_true, beq_iff_eq]
          exact ⟨m, h1, h2, by rw [h, h]⟩
        rw [hs] at this; cases this
      rw [h0]
      cases M N <;> simp
theorem bestN_spec (L : Nat) (cs : List (List Int)) (N : Nat) : (∀ n, n < N → (heldN (valuesN L n) cs : Int) ≤ (bestN L cs N).1) ∧ (0 < N → (bestN L cs N).1 = (heldN (valuesN L (bestN L cs N).2) cs : Int) ∧ (bestN L cs N).2 < N) := by
  induction N with
  | zero => exact ⟨fun n h => by omega, fun h => by omega⟩
  | succ N ih =>
    rw [bestN]
    split
    · refine ⟨fun n h => ?_, fun _ => ⟨rfl, Nat.lt_succ_self _⟩⟩
      rcases Nat.lt_succ_iff_lt_or_eq.1 h with h | rfl
      · have := ih.1 n h; simp only; omega
      · exact Int.le_refl _
    · rename_i hlt
      refine ⟨fun n h => ?_, fun _ => ?_⟩
      · rcases Nat.lt_succ_iff_lt_or_eq.1 h with h | rfl
        · exact ih.1 n h
        · omega
      · by_cases hN : 0 < N
        · obtain ⟨h1, h2⟩ := ih.2 hN; exact ⟨h1, by omega⟩
        · obtain rfl : N = 0 := by omega
          exfalso; apply hlt; simp [bestN]; omega
/-- the most clauses are all just if there is a model, and then the values told are one -/
theorem bestN_all (L : Nat) (cs : List (List Int)) : decide ((bestN L cs (2 ^ L)).1 = (cs.length : Int)) = decide (0 < countN L cs (2 ^ L)) ∧ formTrue (valuesN L (bestN L cs (2 ^ L)).2) cs = decide (0 < countN L cs (2 ^ L)) := by
  obtain ⟨h1, h2⟩ := bestN_spec L cs (2 ^ L)
  obtain ⟨h3, h4⟩ := h2 (Nat.two_pow_pos L)
  have hb := bestN_bound L cs (2 ^ L)
  have hh := heldN_le (valuesN L (bestN L cs (2 ^ L)).2) cs
  have key : (bestN L cs (2 ^ L)).1 = (cs.length : Int) ↔ 0 < countN L cs (2 ^ L) := by
    rw [countN_pos]
    constructor
    · intro h; exact ⟨_, h4, by unfold formTrue; rw [decide_eq_true]; omega⟩
    · rintro ⟨n, h5, h6⟩
      have := h1 n h5
      unfold formTrue at h6
      have := of_decide_eq_true h6
      omega
  refine ⟨decide_eq_decide.2 key, ?_⟩
  unfold formTrue
  rw [decide_eq_decide, ← key]
  omega
theorem first_one {f : FormD} {L : Nat} (hv : validForm f = true) (hL : f.letters = (L : Int)) :
    (firstModel f).2 = decide (0 < countN L f.clauses (2 ^ L)) ∧ ((firstModel f).2 = true → (firstModel f).1.length = L) := by
  cases h : firstFrom L f.clauses 0 (2 ^ L) with
  | none =>
    rw [firstModel_none hv hL h]
    refine ⟨?_, fun h => by cases h⟩
    symm
    rw [decide_eq_false_iff_not, countN_pos]
    rintro ⟨n, h1, h2⟩
    rw [(firstFrom_iff L f.clauses (2 ^ L) 0).1 h n (Nat.zero_le _) (by omega)] at h2
    cases h2
  | some n =>
    rw [firstModel_some hv hL h]
    obtain ⟨h1, h2, h3⟩ := (firstFrom_iff L f.clauses (2 ^ L) 0).2 n h
    refine ⟨?_, fun _ => valuesN_len L n⟩
    symm
    rw [decide_eq_true_eq, countN_pos]
    exact ⟨n, by omega, h3⟩
/-- the letters from 1 to L -/
def upTo (L : Nat) : List Int := (List.range L).map fun i => ((i + 1 : Nat) : Int)
theorem upTo_succ (L : Nat) : upTo (L + 1) = upTo L ++ [((L + 1 : Nat) : Int)] := by simp [upTo, List.range_succ]
theorem upTo_len (L : Nat) : (upTo L).length = L := by simp [upTo]
/-- the letters up to k that t says -/
def chosen (t : Nat → Bool) (k : Nat) : List Int := ((List.range k).filter fun i => t (i + 1)).map fun i => ((i + 1 : Nat) : Int)
theorem chosen_succ (t : Nat → Bool) (k : Nat) : chosen t (k + 1) = if t (k + 1) then chosen t k ++ [((k + 1 : Nat) : Int)] else chosen t k := by
  unfold chosen
  rw [List.range_succ, List.filter_append, List.map_append]
  cases h : t (k + 1) <;> simp [h]
theorem chosen_len (t : Nat → Bool) (k : Nat) : (chosen t k).length ≤ k := by
  have := List.length_filter_le (fun i => t (i + 1)) (List.range k)
  simpa [chosen] using this
theorem chosen_all (k : Nat) : chosen (fun _ => true) k = upTo k := by
  unfold chosen upTo
  rw [List.filter_eq_self.2 (fun _ _ => rfl)]
theorem onGo_cons (L p x : Int) (xs : List Int) : onGo L p (x :: xs) = (inB 1 L x && (decide (p < x) && onGo L x xs)) := by
  rw [onGo_ok, onGo_ok]
  cases xs with
  | nil => simp [risesI]
  | cons y ys =>
    have e : risesI (x :: y :: ys) = (decide (x < y) && risesI (y :: ys)) := by rfl
    rw [e]
    simp only [List.all_cons]
    cases inB 1 L x <;> cases decide (p < x) <;> cases inB 1 L y <;> cases decide (x < y) <;> simp
theorem onGo_snoc (L : Int) (zs : List Int) (y : Int) : ∀ p, onGo L p zs = true → (∀ x ∈ zs, x < y) → p < y → inB 1 L y = true → onGo L p (zs ++ [y]) = true := by
  induction zs with
  | nil => intro p _ _ h2 h3; rw [List.nil_append, onGo_cons, h3, decide_eq_true h2]; rw [onGo_ok]; rfl
  | cons x xs ih =>
    intro p h h1 h2 h3
    rw [onGo_cons, Bool.and_eq_true, Bool.and_eq_true] at h
    rw [List.cons_append, onGo_cons, h.1, h.2.1, ih x h.2.2 (fun z hz => h1 z (List.mem_cons_of_mem _ hz)) (h1 x (List.mem_cons_self ..)) h3]
    rfl
theorem chosen_mem {t : Nat → Bool} {k : Nat} {x : Int} (h : x ∈ chosen t k) : ∃ i, i < k ∧ x = ((i + 1 : Nat) : Int) ∧ t (i + 1) = true := by
  unfold chosen at h
  rw [List.mem_map] at h
  obtain ⟨i, h1, h2⟩ := h
  rw [List.mem_filter, List.mem_range] at h1
  exact ⟨i, h1.1, h2.symm, h1.2⟩
theorem chosen_on (t : Nat → Bool) (L k : Nat) (h : k ≤ L) : onGo L 0 (chosen t k) = true := by
  induction k with
  | zero => simp [chosen, onGo_ok, risesI]
  | succ k ih =>
    rw [chosen_succ]
    split
    · refine onGo_snoc _ _ _ _ (ih (by omega)) (fun x hx => ?_) (by omega) (by simp [inB]; omega)
      obtain ⟨i, h1, rfl, _⟩ := chosen_mem hx
      omega
    · exact ih (by omega)
theorem bitN_ext {L a b : Nat} (ha : a < 2 ^ L) (hb : b < 2 ^ L) (h : ∀ i, i < L → bitN a i = bitN b i) : a = b := by
  apply Nat.eq_of_testBit_eq
  intro i
  by_cases hi : i < L
  · have := h i hi
    unfold bitN at this
    rw [Nat.testBit_eq_decide_div_mod_eq, Nat.testBit_eq_decide_div_mod_eq, this]
  · rw [Nat.testBit_lt_two_pow (Nat.lt_of_lt_of_le ha (Nat.pow_le_pow_right (by decide) (by omega))), Nat.testBit_lt_two_pow (Nat.lt_of_lt_of_le hb (Nat.pow_le_pow_right (by decide) (by omega)))]
theorem onKey_inj {L a b : Nat} (ha : a < 2 ^ L) (hb : b < 2 ^ L) (h : onKey L (upTo L) a = onKey L (upTo L) b) : a = b := by
  have h1 := numGo_inj _ _ (by simp [projN]) h
  apply bitN_ext ha hb
  intro i hi
  have h2 : ((upTo L).map fun x => bitN a (L - x.toNat)) = ((upTo L).map fun x => bitN b (L - x.toNat)) := h1
  have h3 := List.map_inj_left.1 h2 (((L - i : Nat)) : Int) (by
    unfold upTo
    rw [List.mem_map]
    exact ⟨L - i - 1, List.mem_range.2 (by omega), by omega⟩)
  simpa [show L - (L - i) = i by omega] using h3
/-- what FnModels compares, in numbers -/
structure ModelsOk (f : FormD) (L : Nat) (t : Nat → Bool) (one : Bool) : Prop where
  fst : (firstModel f).2 = one
  len : one = true → (firstModel f).1.length = L
  cnt : ∃ c : Int, countModels f = (c, true) ∧ (0 ≤ c ∧ c ≤ 1024) ∧ (one = true → 0 < c) ∧ (one = false → c = 0) ∧ countOn f (upTo L) = (c, true) ∧ ∃ s : Int, countOn f (chosen t L) = (s, true) ∧ (0 ≤ s ∧ s ≤ c) ∧ (one = true → 0 < s)
  non : ∃ n : Int, countOn f [] = (n, true) ∧ (one = true → n = 1) ∧ (one = false → n = 0)
  mst : ∃ m vs, mostTrue f = (m, vs, true) ∧ vs.length = L ∧ (one = true → m = (f.clauses.length : Int)) ∧ (one = false → m < (f.clauses.length : Int)) ∧ holdsBy f vs = (one, true)
theorem modelsOk {f : FormD} {L : Nat} (hv : validForm f = true) (hL : f.letters = (L : Int)) (t : Nat → Bool) : ModelsOk f L t (firstModel f).2 := by
  have hL10 : L ≤ 10 := by have := (validForm_bounds hv).1; omega
  obtain ⟨h1, h2⟩ := first_one hv hL
  obtain ⟨hb1, hb2⟩ := bestN_all L f.clauses
  have hbb := bestN_bound L f.clauses (2 ^ L)
  have hc : countModels f = (((countN L f.clauses (2 ^ L) : Nat) : Int), true) := by unfold countModels; rw [hv, hL, Int.toNat_natCast]; rfl
  have e0 : (List.range (2 ^ L)).countP (onModels L f.clauses) = countN L f.clauses (2 ^ L) := rfl
  have hon0 : onGo f.letters 0 [] = true := by rw [onGo_ok]; rfl
  have honU : onGo f.letters 0 (upTo L) = true := by rw [hL, ← chosen_all]; exact chosen_on _ L L (Nat.le_refl _)
  have honC : onGo f.letters 0 (chosen t L) = true := by rw [hL]; exact chosen_on t L L (Nat.le_refl _)
  have hpos : ∀ key, 0 < freshN (onModels L f.clauses) key (2 ^ L) ↔ 0 < countN L f.clauses (2 ^ L) := fun key => by
    rw [fresh_pos, countN_pos]; rfl
  have hcl : countN L f.clauses (2 ^ L) ≤ 1024 := Nat.le_trans (countN_le _ _ _) (pow_L hL10)
  refine ⟨rfl, h2, ⟨(countN L f.clauses (2 ^ L) : Nat), hc, ⟨by omega, by omega⟩, ?_, ?_, ?_, (freshN (onModels L f.clauses) (onKey L (chosen t L)) (2 ^ L) : Nat), countOn_valid hv honC hL, ⟨by omega, by have := fresh_le (onModels L f.clauses) (onKey L (chosen t L)) (2 ^ L); omega⟩, ?_⟩, ?_, ⟨_, _, mostTrue_valid hv hL, valuesN_len _ _, ?_, ?_, ?_⟩⟩
  · intro h; rw [h1] at h; have := of_decide_eq_true h; omega
  · intro h; rw [h1] at h; have := of_decide_eq_false h; omega
  · rw [countOn_valid hv honU hL, fresh_inj _ _ _ (fun a b ha hb h => onKey_inj ha hb h), e0]
  · intro h; rw [h1] at h; have := (hpos (onKey L (chosen t L))).2 (of_decide_eq_true h); omega
  · refine ⟨_, countOn_valid hv hon0 hL, fun h => ?_, fun h => ?_⟩
    · rw [h1] at h
      have hle : freshN (onModels L f.clauses) (onKey L []) (2 ^ L) ≤ 1 := fresh_one _ _ (numGo 0 []) (fun a => rfl) _
      have hp := (hpos (onKey L [])).2 (of_decide_eq_true h)
      omega
    · rw [h1] at h
      have hp := hpos (onKey L [])
      have := of_decide_eq_false h
      have e : freshN (onModels L f.clauses) (onKey L []) (2 ^ L) = 0 := by
        apply Nat.eq_zero_of_not_pos; intro h3; exact this (hp.1 h3)
      rw [e]; rfl
  · intro h; rw [h1, ← hb1] at h; exact of_decide_eq_true h
  · intro h; rw [h1, ← hb1] at h; have := of_decide_eq_false h; omega
  · unfold holdsBy
    rw [hv, hL, valuesN_len, decide_eq_true rfl, h1, hb2]
    rfl
end Go.Proofs.Ytcpbgjnijhcpkaa
