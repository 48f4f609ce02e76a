/-
  RaisedBound: the plain part.
-/
import Derived.Test.YtkankfdpodofjaaBoundS
namespace Go.Proofs.Ytkankfdpodofjaa
open Go.RowKit
set_option linter.unusedVariables false
set_option maxRecDepth 100000

/-- ways with prices -/
def nowAt (ws P : List Int) (n i : Nat) : Int := ws.getD i 0 + P.getD (i / n) 0 + P.getD (i % n) 0
def nowTo (ws P : List Int) (n m : Nat) : List Int := (List.range m).map (nowAt ws P n)
theorem nowTo_len (ws P : List Int) (n m : Nat) : (nowTo ws P n m).length = m := by simp [nowTo]
theorem nowTo_succ (ws P : List Int) (n m : Nat) : nowTo ws P n (m + 1) = nowTo ws P n m ++ [nowAt ws P n m] := by simp [nowTo, List.range_succ]
theorem nowTo_getD (ws P : List Int) (n m i : Nat) (h : i < m) : (nowTo ws P n m).getD i 0 = nowAt ws P n i := by simp [nowTo, List.getD, h]
def nowL (ws P : List Int) (n : Nat) : List Int := nowTo ws P n (n * n)
theorem now_divmod {n i k : Nat} (hk : k < n) : (i * n + k) / n = i ∧ (i * n + k) % n = k :=
  ⟨by rw [Nat.add_comm, Nat.add_mul_div_right _ _ (by omega), Nat.div_eq_of_lt hk, Nat.zero_add], by rw [Nat.add_comm, Nat.add_mul_mod_self_right, Nat.mod_eq_of_lt hk]⟩
theorem wayNow (ws P : List Int) {n i k : Nat} (hi : i < n) (hk : k < n) : wayOf (nowL ws P n) n (i : Int) (k : Int) = ws.getD (i * n + k) 0 + P.getD i 0 + P.getD k 0 := by
  rw [wayOf_nat, nowL, nowTo_getD _ _ _ _ _ (pos_lt hi hk), nowAt, (now_divmod hk).1, (now_divmod hk).2]
/-- prices within bounds -/
def PrOk (P : List Int) (n : Nat) (b : Int) : Prop := P.length = n ∧ ∀ x ∈ P, -b ≤ x ∧ x ≤ b
theorem PrOk.getD {P : List Int} {n : Nat} {b : Int} (h : PrOk P n b) {i : Nat} (hi : i < n) : -b ≤ P.getD i 0 ∧ P.getD i 0 ≤ b := h.2 _ (getD_memI (by rw [h.1]; exact hi))
theorem wayNow_rng {ws P : List Int} {n : Nat} (hl : n * n = ws.length) (hw : ∀ x ∈ ws, 0 ≤ x ∧ x ≤ 1000) {b : Int} (hP : PrOk P n b) (hb : b ≤ 100000) : WayRng (wayOf (nowL ws P n) n) n := by
  intro a c ha ha2 hc hc2
  obtain ⟨i, rfl⟩ := Int.eq_ofNat_of_zero_le ha
  obtain ⟨k, rfl⟩ := Int.eq_ofNat_of_zero_le hc
  rw [wayNow ws P (by omega) (by omega)]
  have h1 := hw _ (getD_memI (show i * n + k < ws.length by rw [← hl]; exact pos_lt (by omega) (by omega)))
  have h2 := hP.getD (i := i) (by omega)
  have h3 := hP.getD (i := k) (by omega)
  omega
/-! ### New prices -/
def bump (P : List Int) (c : Int) : List Int := P.set c.toNat (P.getD c.toNat 0 + 1)
def bumps (E P : List Int) : List Int := E.foldl bump P
theorem bump_len (P : List Int) (c : Int) : (bump P c).length = P.length := by simp [bump]
def lessTo (P : List Int) (i : Nat) : List Int := (P.take i).map (· - 2) ++ P.drop i
theorem lessTo_len (P : List Int) (i : Nat) : (lessTo P i).length = P.length := by simp [lessTo]; omega
theorem lessTo_getD (P : List Int) (i : Nat) (hi : i < P.length) : (lessTo P i).getD i 0 = P.getD i 0 := by
  simp only [lessTo, List.getD]
  rw [List.getElem?_append_right (by simp; omega)]
  simp [List.length_take, Nat.min_eq_left (Nat.le_of_lt hi)]
theorem lessTo_succ (P : List Int) (i : Nat) (hi : i < P.length) : (lessTo P i).set i (P.getD i 0 - 2) = lessTo P (i + 1) := by
  have hl : ((P.take i).map (· - 2)).length = i := by simp; omega
  rw [lessTo, List.set_append_right _ _ (by omega), hl, Nat.sub_self, List.drop_eq_getElem_cons hi, List.set_cons_zero, lessTo, List.take_succ_eq_append_getElem hi, List.map_append, List.append_assoc, show P.getD i 0 = P[i] by simp [List.getD, hi]]
  rfl
theorem lessTo_zero (P : List Int) : lessTo P 0 = P := by simp [lessTo]
def sumP (P : List Int) (k : Nat) : Int := (P.take k).sum
theorem sumP_succ {P : List Int} {k : Nat} (hk : k < P.length) : sumP P (k + 1) = sumP P k + P.getD k 0 := by
  unfold sumP
  rw [← List.take_append_getElem hk, List.sum_append]
  simp [List.getD, hk]
theorem sumP_rng {P : List Int} {n : Nat} {b : Int} (h : PrOk P n b) (hb : 0 ≤ b) : ∀ k, k ≤ n → -(b * k) ≤ sumP P k ∧ sumP P k ≤ b * k := by
  intro k
  induction k with
  | zero => intro _; simp [sumP]
  | succ k ih =>
    intro hk
    have h1 := ih (by omega)
    have h2 := h.getD (i := k) (by omega)
    rw [sumP_succ (by rw [h.1]; omega), Int.natCast_add, Int.natCast_one, Int.mul_add, Int.mul_one]
    omega
theorem bump_ok {P : List Int} {n : Nat} {b : Int} (h : PrOk P n b) {c : Int} (hc : 0 ≤ c) (hc2 : c < n) : PrOk (bump P c) n (b + 1) := by
  refine ⟨by rw [bump_len]; exact h.1, fun x hx => ?_⟩
  rcases List.mem_or_eq_of_mem_set hx with hx | rfl
  · have := h.2 x hx; omega
  · have := h.getD (i := c.toNat) (by omega); omega
theorem bumps_ok {n : Nat} : ∀ (E P : List Int) (b : Int), PrOk P n b → (∀ c ∈ E, 0 ≤ c ∧ c < (n : Int)) → PrOk (bumps E P) n (b + E.length) := by
  intro E
  induction E with
  | nil => intro P b h _; simpa [bumps] using h
  | cons c r ih =>
    intro P b h hE
    have h1 := hE c (by simp)
    have := ih (bump P c) (b + 1) (bump_ok h h1.1 h1.2) (fun x hx => hE x (by simp [hx]))
    rw [List.length_cons, Int.natCast_add, Int.natCast_one, show b + ((r.length : Int) + 1) = b + 1 + r.length by omega]
    exact this
theorem less_ok {P : List Int} {n : Nat} {b : Int} (h : PrOk P n b) : PrOk (lessTo P n) n (b + 2) := by
  refine ⟨by rw [lessTo_len]; exact h.1, fun x hx => ?_⟩
  rw [lessTo, List.drop_eq_nil_of_le (by rw [h.1]; exact Nat.le_refl _), List.append_nil] at hx
  obtain ⟨y, hy, rfl⟩ := List.mem_map.1 hx
  have := h.2 y (List.mem_of_mem_take hy)
  show -(b + 2) ≤ y - 2 ∧ y - 2 ≤ b + 2
  omega
/-! ### The rounds -/
def bndP (ws P : List Int) (n : Nat) : List Int × Int := boundOf (wayOf (nowL ws P n) n) n
def scoreP (ws P : List Int) (n : Nat) : Int := (bndP ws P n).2 - 2 * sumP P n
def nextP (ws P : List Int) (n : Nat) : List Int := lessTo (bumps (bndP ws P n).1 P) n
def raGo (ws : List Int) (n : Nat) : Nat → Bool → Int → List Int → List Int → Int × List Int
  | 0, _, best, kept, _ => (best, kept)
  | m + 1, first, best, kept, P =>
    if first = true ∨ scoreP ws P n > best then raGo ws n m false (scoreP ws P n) P (nextP ws P n) else raGo ws n m false best kept (nextP ws P n)
def raised (ws : List Int) (rounds : Int) : Int × List Int × Bool :=
  if 3 ≤ citN ws ∧ inB 0 50 rounds = true then ((raGo ws (citN ws) (rounds.toNat + 1) true 0 [] (List.replicate (citN ws) 0)).1, (raGo ws (citN ws) (rounds.toNat + 1) true 0 [] (List.replicate (citN ws) 0)).2, true) else (0, [], false)
theorem raGo_yes {ws : List Int} {n m : Nat} {first : Bool} {best : Int} {kept P : List Int} (h : first = true ∨ scoreP ws P n > best) : raGo ws n (m + 1) first best kept P = raGo ws n m false (scoreP ws P n) P (nextP ws P n) := by rw [raGo, if_pos h]
theorem raGo_no {ws : List Int} {n m : Nat} {first : Bool} {best : Int} {kept P : List Int} (h : ¬ (first = true ∨ scoreP ws P n > best)) : raGo ws n (m + 1) first best kept P = raGo ws n m false best kept (nextP ws P n) := by rw [raGo, if_neg h]
/-- the edges of a bound are cities -/
theorem bound_rng {W : Int → Int → Int} {n : Nat} (hn3 : 3 ≤ n) (hn : n ≤ 10) (hr : WayRng W n) : (∀ c ∈ (boundOf W n).1, 0 ≤ c ∧ c < (n : Int)) ∧ (boundOf W n).1.length = 2 * n ∧ -20000000 ≤ (boundOf W n).2 ∧ (boundOf W n).2 ≤ 20000000 := by
  have HTE := treeGo_rng W 1 (n - 1) (by omega) 1000000 (fun a b h1 h2 h3 h4 => hr a b (by omega) (by omega) (by omega) (by omega)) (n - 1 - 1) [1] [] 0 (by simp; omega) ⟨1, by omega, by omega, by simp⟩ (by simp)
  have HTE2 : treeGo W 1 (n - 1) (n - 1 - 1) [1] [] 0 = treeOf W 1 (n - 1) := rfl
  rw [HTE2] at HTE
  obtain ⟨q1, q2, q3, q4⟩ := HTE
  obtain ⟨f1, f2, _⟩ := fstOf_ok (W 0) hn3
  obtain ⟨s1, s2, _, _⟩ := sndOf_ok (W 0) hn3
  have w1 := hr 0 (fstOf (W 0) n) (by omega) (by omega) (by omega) f2
  have w2 := hr 0 (sndOf (W 0) n) (by omega) (by omega) (by omega) s2
  refine ⟨fun c hc => ?_, ?_, ?_, ?_⟩
  · simp only [boundOf, List.mem_append, List.mem_cons, List.not_mem_nil, or_false] at hc
    rcases hc with (hc | rfl | rfl) | rfl | rfl
    · have := q1 c hc; omega
    all_goals omega
  · simp only [boundOf, List.length_append, List.length_cons, List.length_nil] at *
    omega
  · simp only [boundOf]; omega
  · simp only [boundOf]; omega
end Go.Proofs.Ytkankfdpodofjaa
