/-
  LeastLate: plain laws.
-/
import Derived.Test.YteoikfddebbakaaBit2
import Derived.Test.YteoikfddebbakaaJobA
namespace Go.Proofs.Yteoikfddebbakaa
open Go.RowKit
set_option linter.unusedVariables false
set_option maxRecDepth 100000

def jobAt (js : List JobD) (i : Nat) : JobD := js.getD i .zero
/-- when all jobs of a set have ended -/
def endIn (js : List JobD) (l : List Nat) : Int := (l.map fun i => (jobAt js i).x0).sum
def lateAt (js : List JobD) (i : Nat) (e : Int) : Int := (jobAt js i).x2 * max 0 (e - (jobAt js i).x1)
def lateStep (js : List JobD) (C : Nat → Int) (m : Nat) (e : Int) (s : Int × Int) (i : Nat) : Int × Int :=
  if s.2 < 0 ∨ C (m ^^^ 2 ^ i) + lateAt js i e < s.1 then (C (m ^^^ 2 ^ i) + lateAt js i e, (i : Int)) else s
def lateBest (js : List JobD) (C : Nat → Int) (m : Nat) (e : Int) (l : List Nat) : Int × Int := l.foldl (lateStep js C m e) (0, -1)
def setEnd (js : List JobD) (m : Nat) : Int := endIn js (dig js.length m)
/-- costs and last jobs of the sets 0 .. m -/
def lateTab (js : List JobD) : Nat → List (Int × Int)
  | 0 => [(0, -1)]
  | m + 1 => lateTab js m ++ [lateBest js (fun q => ((lateTab js m).getD q (0, -1)).1) (m + 1) (setEnd js (m + 1)) (dig js.length (m + 1))]
def costAt (js : List JobD) (q : Nat) : Int := ((lateTab js q).getD q (0, -1)).1
def lastAt (js : List JobD) (q : Nat) : Int := ((lateTab js q).getD q (0, -1)).2
def orderGo (js : List JobD) : Nat → Nat → List Int → List Int
  | 0, _, acc => acc
  | n + 1, m, acc => if m = 0 then acc else orderGo js n (m ^^^ 2 ^ (lastAt js m).toNat) (acc ++ [lastAt js m])
def leastLate (js : List JobD) : List Int × Int × Bool :=
  if areJobs js then ((orderGo js (2 ^ js.length) (2 ^ js.length - 1) []).reverse, costAt js (2 ^ js.length - 1), true) else ([], 0, false)
theorem tab_len (js : List JobD) (m : Nat) : (lateTab js m).length = m + 1 := by
  induction m with
  | zero => rfl
  | succ m ih => rw [lateTab, List.length_append, ih]; rfl
theorem tab_get (js : List JobD) {q m : Nat} (h : q ≤ m) : (lateTab js m).getD q (0, -1) = (lateTab js q).getD q (0, -1) := by
  induction m with
  | zero => have : q = 0 := by omega
            rw [this]
  | succ m ih =>
    by_cases e : q = m + 1
    · rw [e]
    · rw [← ih (by omega), lateTab]
      simp only [List.getD, List.getElem?_append_left (show q < (lateTab js m).length by rw [tab_len]; omega)]
theorem cost_tab (js : List JobD) {q m : Nat} (h : q ≤ m) : ((lateTab js m).getD q (0, -1)).1 = costAt js q := by rw [tab_get js h]; rfl
theorem last_tab (js : List JobD) {q m : Nat} (h : q ≤ m) : ((lateTab js m).getD q (0, -1)).2 = lastAt js q := by rw [tab_get js h]; rfl
theorem best_congr {js : List JobD} {C D : Nat → Int} {m : Nat} {e : Int} : ∀ (l : List Nat) (s : Int × Int), (∀ i ∈ l, C (m ^^^ 2 ^ i) = D (m ^^^ 2 ^ i)) → l.foldl (lateStep js C m e) s = l.foldl (lateStep js D m e) s := by
  intro l
  induction l with
  | nil => intro s _; rfl
  | cons i r ih =>
    intro s h
    rw [List.foldl_cons, List.foldl_cons]
    have h1 : lateStep js C m e s i = lateStep js D m e s i := by unfold lateStep; rw [h i (by simp)]
    rw [h1]
    exact ih _ fun k hk => h k (by simp [hk])
/-- the entry of a set -/
theorem entry_eq (js : List JobD) (m : Nat) : (costAt js (m + 1), lastAt js (m + 1)) = lateBest js (costAt js) (m + 1) (setEnd js (m + 1)) (dig js.length (m + 1)) := by
  have h : (lateTab js (m + 1)).getD (m + 1) (0, -1) = lateBest js (fun q => ((lateTab js m).getD q (0, -1)).1) (m + 1) (setEnd js (m + 1)) (dig js.length (m + 1)) := by
    rw [lateTab]
    have hl := tab_len js m
    simp only [List.getD, List.getElem?_append_right (show (lateTab js m).length ≤ m + 1 by omega), hl, Nat.sub_self, List.getElem?_cons_zero, Option.getD_some]
  have e : (costAt js (m + 1), lastAt js (m + 1)) = (lateTab js (m + 1)).getD (m + 1) (0, -1) := rfl
  rw [e, h]
  refine best_congr _ _ fun i hi => ?_
  have := xor_lt (dig_mem.1 hi).2
  exact cost_tab js (by omega)
theorem cost_zero (js : List JobD) : costAt js 0 = 0 := rfl
/-! ### Bounds -/
theorem okJob_iff {j : JobD} : okJob j = true ↔ (1 ≤ j.x0 ∧ j.x0 ≤ 1000) ∧ (0 ≤ j.x1 ∧ j.x1 ≤ 100000) ∧ (0 ≤ j.x2 ∧ j.x2 ≤ 1000) ∧ (0 ≤ j.x3 ∧ j.x3 ≤ 100000) := by
  simp only [okJob, Bool.and_eq_true, inB_iff]; omega
structure JobsOk (js : List JobD) : Prop where
  lo : 1 ≤ js.length
  hi : js.length ≤ 12
  ok : ∀ j ∈ js, okJob j = true
theorem jobsOk {js : List JobD} (h : areJobs js = true) : JobsOk js := by
  rw [areJobs, Bool.and_eq_true, inB_iff, List.all_eq_true] at h
  exact ⟨by omega, by omega, h.2⟩
theorem JobsOk.at' {js : List JobD} (h : JobsOk js) {i : Nat} (hi : i < js.length) : okJob (jobAt js i) = true := by
  have e : jobAt js i = js[i] := by simp [jobAt, List.getD, hi]
  rw [e]; exact h.ok _ (List.getElem_mem hi)
theorem endIn_snoc (js : List JobD) (l : List Nat) (i : Nat) : endIn js (l ++ [i]) = endIn js l + (jobAt js i).x0 := by simp [endIn]
theorem endIn_rng {js : List JobD} (h : JobsOk js) (l : List Nat) (hl : ∀ i ∈ l, i < js.length) : 0 ≤ endIn js l ∧ endIn js l ≤ 1000 * (l.length : Int) := by
  induction l with
  | nil => simp [endIn]
  | cons i r ih =>
    have h1 := ih fun k hk => hl k (by simp [hk])
    have h2 := (okJob_iff.1 (h.at' (hl i (by simp)))).1
    have e : endIn js (i :: r) = (jobAt js i).x0 + endIn js r := by simp [endIn]
    rw [e, List.length_cons]
    omega
theorem dig_len (n m : Nat) : (dig n m).length ≤ n := by
  have := List.length_filter_le (dgt m) (List.range n)
  rw [List.length_range] at this
  exact this
theorem setEnd_rng {js : List JobD} (h : JobsOk js) (m : Nat) : 0 ≤ setEnd js m ∧ setEnd js m ≤ 12000 := by
  have h1 := endIn_rng h (dig js.length m) fun i hi => (dig_mem.1 hi).1
  have h2 := dig_len js.length m
  have h3 := h.hi
  unfold setEnd
  omega
theorem lateAt_rng {js : List JobD} (h : JobsOk js) {i : Nat} (hi : i < js.length) {e : Int} (h0 : 0 ≤ e) (h1 : e ≤ 12000) : 0 ≤ lateAt js i e ∧ lateAt js i e ≤ 12000000 := by
  obtain ⟨_, ⟨d1, d2⟩, ⟨w1, w2⟩, _⟩ := okJob_iff.1 (h.at' hi)
  unfold lateAt
  generalize (jobAt js i).x2 = x at *
  generalize hy : max 0 (e - (jobAt js i).x1) = y
  have hy0 : 0 ≤ y := by omega
  have hy1 : y ≤ 12000 := by omega
  refine ⟨Int.mul_nonneg w1 hy0, ?_⟩
  calc x * y ≤ 1000 * y := Int.mul_le_mul_of_nonneg_right w2 hy0
    _ ≤ 1000 * 12000 := Int.mul_le_mul_of_nonneg_left hy1 (by decide)
    _ = 12000000 := by decide
/-- what stands behind some of a set's jobs -/
theorem best_inv {js : List JobD} (h : JobsOk js) {m : Nat} (hC : ∀ q, q < m → 0 ≤ costAt js q ∧ costAt js q ≤ 12000000 * (q : Int)) {e : Int} (h0 : 0 ≤ e) (h1 : e ≤ 12000) :
    ∀ (l : List Nat) (s : Int × Int), (∀ i ∈ l, i < js.length ∧ dgt m i = true) → (s = (0, -1) ∨ (0 ≤ s.1 ∧ s.1 ≤ 12000000 * (m : Int) ∧ ∃ i : Nat, s.2 = (i : Int) ∧ i < js.length ∧ dgt m i = true)) →
      ((l = [] ∧ s = (0, -1)) ∨ (0 ≤ (l.foldl (lateStep js (costAt js) m e) s).1 ∧ (l.foldl (lateStep js (costAt js) m e) s).1 ≤ 12000000 * (m : Int) ∧ ∃ i : Nat, (l.foldl (lateStep js (costAt js) m e) s).2 = (i : Int) ∧ i < js.length ∧ dgt m i = true)) := by
  intro l
  induction l with
  | nil =>
    intro s _ hs
    rcases hs with hs | hs
    · exact .inl ⟨rfl, hs⟩
    · exact .inr hs
  | cons i r ih =>
    intro s hl hs
    right
    rw [List.foldl_cons]
    have hi := hl i (by simp)
    have hq := xor_lt hi.2
    have hc := hC _ hq
    have hla := lateAt_rng h hi.1 h0 h1
    have hs' : 0 ≤ (lateStep js (costAt js) m e s i).1 ∧ (lateStep js (costAt js) m e s i).1 ≤ 12000000 * (m : Int) ∧ ∃ k : Nat, (lateStep js (costAt js) m e s i).2 = (k : Int) ∧ k < js.length ∧ dgt m k = true := by
      unfold lateStep
      split
      · exact ⟨by show 0 ≤ costAt js (m ^^^ 2 ^ i) + lateAt js i e; omega, by show costAt js (m ^^^ 2 ^ i) + lateAt js i e ≤ _; omega, i, rfl, hi.1, hi.2⟩
      · rename_i hn
        rcases hs with hs | hs
        · rw [hs] at hn; exact absurd (Or.inl (by decide)) hn
        · exact hs
    rcases ih _ (fun k hk => hl k (by simp [hk])) (.inr hs') with ⟨hr, he⟩ | hh
    · rw [hr]; exact hs'
    · exact hh
theorem cost_rng {js : List JobD} (h : JobsOk js) : ∀ q, q < 2 ^ js.length → 0 ≤ costAt js q ∧ costAt js q ≤ 12000000 * (q : Int) ∧ (q ≠ 0 → ∃ i : Nat, lastAt js q = (i : Int) ∧ i < js.length ∧ dgt q i = true) := by
  intro q
  induction q using Nat.strongRecOn with
  | _ q ih =>
    intro hq
    cases q with
    | zero => rw [cost_zero]; exact ⟨by omega, by omega, fun h => absurd rfl h⟩
    | succ m =>
      have he := entry_eq js m
      have hr := setEnd_rng h (m + 1)
      have hb := best_inv h (m := m + 1) (fun k hk => ⟨(ih k hk (by omega)).1, (ih k hk (by omega)).2.1⟩) hr.1 hr.2 (dig js.length (m + 1)) (0, -1) (fun i hi => dig_mem.1 hi) (.inl rfl)
      rcases hb with ⟨h1, _⟩ | ⟨h1, h2, h3⟩
      · exact absurd h1 (dig_pos hq (by omega))
      · have e1 : costAt js (m + 1) = (lateBest js (costAt js) (m + 1) (setEnd js (m + 1)) (dig js.length (m + 1))).1 := by rw [← he]
        have e2 : lastAt js (m + 1) = (lateBest js (costAt js) (m + 1) (setEnd js (m + 1)) (dig js.length (m + 1))).2 := by rw [← he]
        rw [e1, e2]
        exact ⟨h1, h2, fun _ => h3⟩
/-- the way back -/
theorem order_step {js : List JobD} {n m : Nat} {acc : List Int} (h : m ≠ 0) : orderGo js (n + 1) m acc = orderGo js n (m ^^^ 2 ^ (lastAt js m).toNat) (acc ++ [lastAt js m]) := by rw [orderGo, if_neg h]
theorem order_end {js : List JobD} {n : Nat} {acc : List Int} : orderGo js n 0 acc = acc := by
  cases n with
  | zero => rfl
  | succ n => rw [orderGo, if_pos rfl]
/-- more fuel tells the same -/
theorem order_fuel {js : List JobD} (h : JobsOk js) : ∀ (n k m : Nat) (acc : List Int), m < 2 ^ js.length → m ≤ n → n ≤ k → orderGo js n m acc = orderGo js k m acc := by
  intro n
  induction n with
  | zero =>
    intro k m acc _ h1 _
    have : m = 0 := by omega
    rw [this, order_end, order_end]
  | succ n ih =>
    intro k m acc hm h1 h2
    by_cases h0 : m = 0
    · rw [h0, order_end, order_end]
    · obtain ⟨k', rfl⟩ : ∃ k', k = k' + 1 := ⟨k - 1, by omega⟩
      obtain ⟨i, hi, _, hd⟩ := (cost_rng h m hm).2.2 h0
      have hlt : m ^^^ 2 ^ (lastAt js m).toNat < m := by rw [hi, Int.toNat_natCast]; exact xor_lt hd
      rw [order_step h0, order_step h0]
      exact ih k' _ _ (by omega) (by omega) (by omega)
end Go.Proofs.Yteoikfddebbakaa
