/-
  HornModel: plain laws.
-/
import Derived.Test.YtcpbgjnijhcpkaaFirst
import Derived.Test.YtcpbgjnijhcpkaaBits
namespace Go.Proofs.Ytcpbgjnijhcpkaa
open Go.RowKit
set_option linter.unusedVariables false
set_option maxRecDepth 100000

def isPos (x : Int) : Bool := decide (0 < x)
def upsOk (c : List Int) : Bool := decide (c.countP isPos ≤ 1)
def okHorn (f : FormD) : Bool := validForm f && f.clauses.all upsOk
/-- the numbers of models from n on, met together -/
def meetGo (L : Nat) (cs : List (List Int)) : Nat → Nat → Nat → Bool → Nat × Bool
  | 0, _, a, fd => (a, fd)
  | m + 1, n, a, fd => if formTrue (valuesN L n) cs then meetGo L cs m (n + 1) (a &&& n) true else meetGo L cs m (n + 1) a fd
def meetF (L : Nat) (cs : List (List Int)) : Nat × Bool := meetGo L cs (2 ^ L) 0 (2 ^ L - 1) false
def hornF (f : FormD) : List Bool × Bool :=
  if okHorn f && (meetF f.letters.toNat f.clauses).2 then (valuesN f.letters.toNat (meetF f.letters.toNat f.clauses).1, true) else ([], false)
theorem meet_yes {L : Nat} {cs : List (List Int)} {N n a : Nat} {fd : Bool} (h : n < N) (hf : formTrue (valuesN L n) cs = true) : meetGo L cs (N - n) n a fd = meetGo L cs (N - (n + 1)) (n + 1) (a &&& n) true := by
  rw [show N - n = (N - (n + 1)) + 1 by omega, meetGo, if_pos hf]
theorem meet_no {L : Nat} {cs : List (List Int)} {N n a : Nat} {fd : Bool} (h : n < N) (hf : formTrue (valuesN L n) cs = false) : meetGo L cs (N - n) n a fd = meetGo L cs (N - (n + 1)) (n + 1) a fd := by
  rw [show N - n = (N - (n + 1)) + 1 by omega, meetGo, if_neg (by rw [hf]; decide)]
theorem meetGo_spec (L : Nat) (cs : List (List Int)) : ∀ (m n a : Nat) (fd : Bool),
    ((meetGo L cs m n a fd).2 = true ↔ fd = true ∨ ∃ k, n ≤ k ∧ k < n + m ∧ formTrue (valuesN L k) cs = true) ∧
    ∀ j, (meetGo L cs m n a fd).1.testBit j = true ↔ a.testBit j = true ∧ ∀ k, n ≤ k → k < n + m → formTrue (valuesN L k) cs = true → k.testBit j = true := by
  intro m
  induction m with
  | zero =>
    intro n a fd
    refine ⟨⟨fun h => .inl h, fun h => ?_⟩, fun j => ⟨fun h => ⟨h, fun k h1 h2 => by omega⟩, fun h => h.1⟩⟩
    rcases h with h | ⟨k, h1, h2, _⟩
    · exact h
    · omega
  | succ m ih =>
    intro n a fd
    rw [meetGo]
    split
    · rename_i hf
      obtain ⟨i1, i2⟩ := ih (n + 1) (a &&& n) true
      refine ⟨⟨fun _ => .inr ⟨n, Nat.le_refl _, by omega, hf⟩, fun _ => i1.2 (.inl rfl)⟩, fun j => ?_⟩
      rw [i2 j, Nat.testBit_and, Bool.and_eq_true]
      constructor
      · rintro ⟨⟨h1, h2⟩, h3⟩
        refine ⟨h1, fun k k1 k2 k3 => ?_⟩
        by_cases hk : k = n
        · rw [hk]; exact h2
        · exact h3 k (by omega) (by omega) k3
      · rintro ⟨h1, h2⟩
        exact ⟨⟨h1, h2 n (Nat.le_refl _) (by omega) hf⟩, fun k k1 k2 k3 => h2 k (by omega) (by omega) k3⟩
    · rename_i hf
      obtain ⟨i1, i2⟩ := ih (n + 1) a fd
      refine ⟨?_, fun j => ?_⟩
      · rw [i1]
        constructor
        · rintro (h | ⟨k, k1, k2, k3⟩)
          · exact .inl h
          · exact .inr ⟨k, by omega, by omega, k3⟩
        · rintro (h | ⟨k, k1, k2, k3⟩)
          · exact .inl h
          · refine .inr ⟨k, ?_, by omega, k3⟩
            by_cases hk : k = n
            · rw [hk] at k3; exact absurd k3 hf
            · omega
      · rw [i2 j]
        constructor
        · rintro ⟨h1, h2⟩
          refine ⟨h1, fun k k1 k2 k3 => ?_⟩
          by_cases hk : k = n
          · rw [hk] at k3; exact absurd k3 hf
          · exact h2 k (by omega) (by omega) k3
        · rintro ⟨h1, h2⟩
          exact ⟨h1, fun k k1 k2 k3 => h2 k (by omega) (by omega) k3⟩
theorem meetF_found (L : Nat) (cs : List (List Int)) : (meetF L cs).2 = true ↔ ∃ k, k < 2 ^ L ∧ formTrue (valuesN L k) cs = true := by
  rw [meetF, (meetGo_spec L cs _ _ _ _).1]
  constructor
  · rintro (h | ⟨k, _, h2, h3⟩)
    · cases h
    · exact ⟨k, by omega, h3⟩
  · rintro ⟨k, h2, h3⟩; exact .inr ⟨k, Nat.zero_le _, by omega, h3⟩
theorem meetF_bit (L : Nat) (cs : List (List Int)) (j : Nat) (hj : j < L) : (meetF L cs).1.testBit j = true ↔ ∀ k, k < 2 ^ L → formTrue (valuesN L k) cs = true → k.testBit j = true := by
  rw [meetF, (meetGo_spec L cs _ _ _ _).2, Nat.testBit_two_pow_sub_one]
  constructor
  · rintro ⟨_, h⟩ k h1 h2; exact h k (Nat.zero_le _) (by omega) h2
  · intro h; exact ⟨by simpa using hj, fun k _ h1 h2 => h k (by omega) h2⟩
/-- what is true in bs is true in all models -/
def Under (L : Nat) (cs : List (List Int)) (bs : List Bool) : Prop := bs.length = L ∧ ∀ k, k < 2 ^ L → formTrue (valuesN L k) cs = true → ∀ i, i < L → bs.getD i false = true → (valuesN L k).getD i false = true
theorem form_all {bs : List Bool} {cs : List (List Int)} : formTrue bs cs = true ↔ ∀ c ∈ cs, clauseTrue bs c = true := by
  rw [formTrue, decide_eq_true_eq, heldN, List.countP_eq_length]
theorem lit_val {bs : List Bool} {x : Int} (hx : 0 < absI x) : litTrue bs x = true ↔ (bs.getD ((absI x).toNat - 1) false = decide (0 < x)) := by
  rw [litTrue, beq_iff_eq]
/-- a literal that is true in a model, of a clause that does not hold by bs, is plain -/
theorem lit_pos {L k : Nat} {cs : List (List Int)} {bs : List Bool} {c : List Int} {y : Int} (hU : Under L cs bs) (hk : k < 2 ^ L) (hm : formTrue (valuesN L k) cs = true) (hl : Lits L c) (hc : clauseTrue bs c = false) (hy : y ∈ c) (ht : litTrue (valuesN L k) y = true) : isPos y = true ∧ (valuesN L k).getD ((absI y).toNat - 1) false = true := by
  have hly := hl y hy
  have hbf : litTrue bs y = false := by
    cases h : litTrue bs y
    · rfl
    · have : clauseTrue bs c = true := by rw [clauseTrue, List.any_eq_true]; exact ⟨y, hy, h⟩
      rw [this] at hc; cases hc
  rw [lit_val hly.1] at ht
  by_cases h0 : 0 < y
  · refine ⟨by simpa [isPos] using h0, ?_⟩
    rw [ht]; simpa using h0
  · exfalso
    have hd : decide (0 < y) = false := by simpa using h0
    rw [hd] at ht
    have hb : bs.getD ((absI y).toNat - 1) false = true := by
      cases hb : bs.getD ((absI y).toNat - 1) false
      · have : litTrue bs y = true := (lit_val hly.1).2 (by rw [hb, hd])
        rw [this] at hbf; cases hbf
      · rfl
    have := hU.2 k hk hm ((absI y).toNat - 1) (by omega) hb
    rw [ht] at this; cases this
theorem under_none {L : Nat} {cs : List (List Int)} {bs : List Bool} {c : List Int} (hU : Under L cs bs) (hc : c ∈ cs) (hl : Lits L c) (hf : clauseTrue bs c = false) (hp : ∀ y ∈ c, isPos y = false) : (meetF L cs).2 = false := by
  cases h : (meetF L cs).2
  · rfl
  · obtain ⟨k, hk, hm⟩ := (meetF_found L cs).1 h
    have h1 := form_all.1 hm c hc
    rw [clauseTrue, List.any_eq_true] at h1
    obtain ⟨y, hy, ht⟩ := h1
    have := (lit_pos hU hk hm hl hf hy ht).1
    rw [hp y hy] at this; cases this
theorem pos_one {c : List Int} (h : upsOk c = true) {x y : Int} (hx : x ∈ c) (hy : y ∈ c) (px : isPos x = true) (py : isPos y = true) : x = y := by
  rw [upsOk, decide_eq_true_eq, List.countP_eq_length_filter] at h
  have h1 : x ∈ c.filter isPos := List.mem_filter.2 ⟨hx, px⟩
  have h2 : y ∈ c.filter isPos := List.mem_filter.2 ⟨hy, py⟩
  generalize c.filter isPos = l at h h1 h2
  match l with
  | [] => simp at h1
  | [a] => rw [List.mem_singleton] at h1 h2; rw [h1, h2]
  | a :: b :: r => simp at h
theorem under_set {L : Nat} {cs : List (List Int)} {bs : List Bool} {c : List Int} {x : Int} (hU : Under L cs bs) (hc : c ∈ cs) (hl : Lits L c) (ho : upsOk c = true) (hf : clauseTrue bs c = false) (hx : x ∈ c) (px : isPos x = true) : Under L cs (bs.set (x.toNat - 1) true) := by
  have hx0 : 0 < x := by simpa [isPos] using px
  have ax : absI x = x := by unfold absI; rw [if_neg (by omega)]
  refine ⟨by rw [List.length_set]; exact hU.1, fun k hk hm i hi ht => ?_⟩
  by_cases e : i = x.toNat - 1
  · have h1 := form_all.1 hm c hc
    rw [clauseTrue, List.any_eq_true] at h1
    obtain ⟨y, hy, hty⟩ := h1
    obtain ⟨py, hv⟩ := lit_pos hU hk hm hl hf hy hty
    have := pos_one ho hx hy px py
    rw [e]
    rw [← this, ax] at hv
    exact hv
  · refine hU.2 k hk hm i hi ?_
    simp only [List.getD] at ht ⊢
    rw [List.getElem?_set_ne (by omega)] at ht
    exact ht
theorem under_start (L : Nat) (cs : List (List Int)) : Under L cs (List.replicate L false) := by
  refine ⟨by simp, fun k _ _ i hi h => ?_⟩
  simp [List.getD, hi] at h
/-- where nothing turns any more it is the least model -/
theorem under_end {L : Nat} {cs : List (List Int)} {bs : List Bool} (hU : Under L cs bs) (hm : formTrue bs cs = true) : (meetF L cs).2 = true ∧ valuesN L (meetF L cs).1 = bs := by
  have hl := hU.1
  have hn : numGo 0 bs < 2 ^ L := by have := numGo_lt 0 bs; rw [hl] at this; omega
  have hv : valuesN L (numGo 0 bs) = bs := by rw [← hl]; exact valuesN_numGo bs
  refine ⟨(meetF_found L cs).2 ⟨_, hn, by rw [hv]; exact hm⟩, ?_⟩
  refine List.ext_getElem (by rw [valuesN_len, hl]) fun i h1 h2 => ?_
  rw [valuesN_len] at h1
  have e1 : ∀ n, (valuesN L n)[i]? = some (bitN n (L - 1 - i)) := fun n => by simp [valuesN, h1]
  have e2 : (valuesN L (meetF L cs).1)[i]'(by rw [valuesN_len]; exact h1) = bitN (meetF L cs).1 (L - 1 - i) := by simp [valuesN]
  have e3 : bs[i] = bitN (numGo 0 bs) (L - 1 - i) := by
    have h3 := e1 (numGo 0 bs)
    rw [hv, List.getElem?_eq_getElem h2] at h3
    injection h3
  rw [e2, e3, bitN_test, bitN_test, Bool.eq_iff_iff, meetF_bit L cs _ (by omega)]
  constructor
  · intro h; exact h _ hn (by rw [hv]; exact hm)
  · intro h k hk hkm
    have hb : bs.getD i false = true := by
      simp only [List.getD, List.getElem?_eq_getElem h2, Option.getD_some]
      rw [e3, bitN_test]; exact h
    have := hU.2 k hk hkm i h1 hb
    simp only [List.getD, e1, Option.getD_some] at this
    rw [← bitN_test]; exact this
/-! ### How many values are false -/
def falses (bs : List Bool) : Nat := bs.countP fun b => !b
theorem falses_set : ∀ (bs : List Bool) (i : Nat), i < bs.length → bs.getD i false = false → falses (bs.set i true) + 1 = falses bs := by
  intro bs
  induction bs with
  | nil => intro i h; simp at h
  | cons b r ih =>
    intro i h hb
    cases i with
    | zero =>
      have : b = false := by simpa [List.getD] using hb
      subst this
      simp [falses]
    | succ i =>
      have h1 := ih i (by simpa using h) (by simpa [List.getD] using hb)
      unfold falses at h1 ⊢
      rw [List.set_cons_succ, List.countP_cons, List.countP_cons]
      omega
theorem clause_pos_false {bs : List Bool} {c : List Int} {x : Int} (hf : clauseTrue bs c = false) (hx : x ∈ c) (px : isPos x = true) : bs.getD (x.toNat - 1) false = false := by
  have hx0 : 0 < x := by simpa [isPos] using px
  have ax : absI x = x := by unfold absI; rw [if_neg (by omega)]
  cases hb : bs.getD (x.toNat - 1) false
  · rfl
  · have : clauseTrue bs c = true := by
      rw [clauseTrue, List.any_eq_true]
      exact ⟨x, hx, (lit_val (by omega)).2 (by rw [ax, hb]; simpa using hx0)⟩
    rw [this] at hf; cases hf
/-- the first plain literal -/
def headAt : List Int → Nat
  | [] => 0
  | x :: r => if isPos x then 0 else headAt r + 1
theorem headAt_spec (c : List Int) : (headAt c = c.length ∧ ∀ y ∈ c, isPos y = false) ∨ ∃ h : headAt c < c.length, isPos c[headAt c] = true := by
  induction c with
  | nil => exact .inl ⟨rfl, by simp⟩
  | cons x r ih =>
    cases hx : isPos x
    · have e : headAt (x :: r) = headAt r + 1 := by rw [headAt, hx]; rfl
      rcases ih with ⟨h1, h2⟩ | ⟨h1, h2⟩
      · refine .inl ⟨by rw [e, h1]; rfl, fun y hy => ?_⟩
        rcases List.mem_cons.1 hy with rfl | hy
        · exact hx
        · exact h2 y hy
      · exact .inr ⟨by rw [e]; simpa using h1, by simp only [e, List.getElem_cons_succ]; exact h2⟩
    · have e : headAt (x :: r) = 0 := by rw [headAt, hx]; rfl
      exact .inr ⟨by rw [e]; simp, by simp only [e, List.getElem_cons_zero]; exact hx⟩
theorem headAt_drop {c : List Int} {k : Nat} (hk : k ≤ c.length) (h : ∀ j, j < k → isPos (c.getD j 0) = false) : headAt c = k + headAt (c.drop k) := by
  induction c generalizing k with
  | nil => simp at hk; subst hk; rfl
  | cons x r ih =>
    cases k with
    | zero => simp
    | succ k =>
      have h0 := h 0 (by omega)
      have e : headAt (x :: r) = headAt r + 1 := by
        rw [headAt]; simp [List.getD] at h0; rw [if_neg (by simp [h0])]
      rw [e, List.drop_succ_cons, ih (by simpa using hk) (fun j hj => by have := h (j + 1) (by omega); simpa [List.getD] using this)]
      omega
end Go.Proofs.Ytcpbgjnijhcpkaa
