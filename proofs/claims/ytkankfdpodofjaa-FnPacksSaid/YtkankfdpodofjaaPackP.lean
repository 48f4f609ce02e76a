/-
  FnPacks: the plain part: tables of gains, packs, ways, halves.
-/
import Derived.Test.YtkankfdpodofjaaPackI
import Derived.Test.YtkankfdpodofjaaTreeP
import Derived.Test.YtkankfdpodofjaaBit2
namespace Go.Proofs.Ytkankfdpodofjaa
open Go.RowKit
set_option linter.unusedVariables false
set_option maxRecDepth 100000

/-- the sum of what is taken of the first i -/
def pSum (zs : List Int) (p : Nat → Bool) : Nat → Int
  | 0 => 0
  | i + 1 => if p i then pSum zs p i + zs.getD i 0 else pSum zs p i
theorem pSum_congr {zs : List Int} {p q : Nat → Bool} : ∀ n, (∀ i, i < n → p i = q i) → pSum zs p n = pSum zs q n := by
  intro n
  induction n with
  | zero => intro _; rfl
  | succ n ih => intro h; rw [pSum, pSum, ih (fun i hi => h i (by omega)), h n (by omega)]
theorem pSum_rng {zs : List Int} {p : Nat → Bool} {M : Int} (h : ∀ i, 0 ≤ zs.getD i 0 ∧ zs.getD i 0 ≤ M) : ∀ n, 0 ≤ pSum zs p n ∧ pSum zs p n ≤ M * n := by
  intro n
  have h0 := h 0
  induction n with
  | zero => simp [pSum]
  | succ n ih =>
    have := h n
    rw [pSum, show M * ((n + 1 : Nat) : Int) = M * (n : Int) + M by rw [Int.natCast_add, Int.mul_add]; simp]
    split <;> omega
theorem pSum_nn {zs : List Int} (h : ∀ i, 0 ≤ zs.getD i 0) (p : Nat → Bool) : ∀ n, 0 ≤ pSum zs p n := by
  intro n
  induction n with
  | zero => simp [pSum]
  | succ n ih => rw [pSum]; have := h n; split <;> omega
theorem pSum_split (zs : List Int) (p : Nat → Bool) : ∀ n, pSum zs p n + pSum zs (fun i => !p i) n = pSum zs (fun _ => true) n := by
  intro n
  induction n with
  | zero => rfl
  | succ n ih =>
    rw [pSum, pSum, pSum, ← ih, if_pos rfl]
    cases p n <;> simp <;> omega
theorem dgt_add {i j m : Nat} (h : j < i) : dgt (2 ^ i + m) j = dgt m j := Nat.testBit_two_pow_add_gt h m
theorem dgt_no {i m : Nat} (h : m < 2 ^ i) : dgt m i = false := Nat.testBit_lt_two_pow h
theorem dgt_top {i m : Nat} (h : m < 2 ^ i) : dgt (2 ^ i + m) i = true := by
  have := Nat.testBit_two_pow_add_eq m i
  unfold dgt
  rw [this, Nat.testBit_lt_two_pow h]; rfl
theorem pSum_lo {zs : List Int} {i m : Nat} (h : m < 2 ^ i) : pSum zs (dgt m) (i + 1) = pSum zs (dgt m) i := by rw [pSum, dgt_no h]; rfl
theorem pSum_hi {zs : List Int} {i m : Nat} (h : m < 2 ^ i) : pSum zs (dgt (2 ^ i + m)) (i + 1) = pSum zs (dgt m) i + zs.getD i 0 := by
  rw [pSum, dgt_top h, if_pos rfl, pSum_congr i fun j hj => dgt_add hj]
theorem pSum_flip {zs : List Int} {n m : Nat} (h : m < 2 ^ n) : pSum zs (dgt m) n + pSum zs (dgt (2 ^ n - (m + 1))) n = pSum zs (fun _ => true) n := by
  rw [← pSum_split zs (dgt m) n]
  congr 1
  refine pSum_congr n fun i hi => ?_
  unfold dgt
  rw [Nat.testBit_two_pow_sub_succ h]
  simp [hi]
/-! ### The table of gains -/
section
variable (ss gs : List Int)
def tab : Nat → Nat → Int
  | 0, _ => 0
  | i + 1, r => if (ss.getD i 0).toNat ≤ r then max (tab i r) (tab i (r - (ss.getD i 0).toNat) + gs.getD i 0) else tab i r
def tabRow (R i : Nat) : List Int := (List.range (R + 1)).map (tab ss gs i)
end
theorem tabRow_len (ss gs : List Int) (R i : Nat) : (tabRow ss gs R i).length = R + 1 := by simp [tabRow]
theorem tabRow_at (ss gs : List Int) {R i r : Nat} (h : r ≤ R) : (tabRow ss gs R i).getD r 0 = tab ss gs i r := by
  simp [tabRow, List.getD, show r < R + 1 by omega]
theorem tab_le {ss gs : List Int} (hs : ∀ i, 0 ≤ ss.getD i 0) (p : Nat → Bool) : ∀ (i r : Nat), pSum ss p i ≤ (r : Int) → pSum gs p i ≤ tab ss gs i r := by
  intro i
  induction i with
  | zero => intro r _; simp [pSum, tab]
  | succ i ih =>
    intro r h
    rw [pSum] at h
    rw [pSum, tab]
    have h1 := hs i
    have h0 : 0 ≤ pSum ss p i := pSum_nn hs p i
    cases hp : p i
    · rw [hp] at h
      simp only [Bool.false_eq_true, if_false] at h ⊢
      have := ih r h
      split <;> omega
    · rw [hp, if_pos rfl] at h
      rw [if_pos rfl, if_pos (by omega)]
      have := ih (r - (ss.getD i 0).toNat) (by omega)
      omega
theorem tab_has {ss gs : List Int} (hs : ∀ i, 0 ≤ ss.getD i 0) : ∀ (i r : Nat), ∃ m, m < 2 ^ i ∧ pSum ss (dgt m) i ≤ (r : Int) ∧ pSum gs (dgt m) i = tab ss gs i r := by
  intro i
  induction i with
  | zero => intro r; exact ⟨0, by simp, by simp [pSum], by simp [pSum, tab]⟩
  | succ i ih =>
    intro r
    have h1 := hs i
    obtain ⟨m, m1, m2, m3⟩ := ih r
    have lo : m < 2 ^ (i + 1) ∧ pSum ss (dgt m) (i + 1) ≤ (r : Int) ∧ pSum gs (dgt m) (i + 1) = tab ss gs i r := ⟨by rw [Nat.pow_succ]; omega, by rw [pSum_lo m1]; exact m2, by rw [pSum_lo m1]; exact m3⟩
    rw [tab]
    by_cases hle : (ss.getD i 0).toNat ≤ r
    · rw [if_pos hle]
      by_cases hg : tab ss gs i (r - (ss.getD i 0).toNat) + gs.getD i 0 ≤ tab ss gs i r
      · rw [Int.max_eq_left hg]; exact ⟨m, lo⟩
      · rw [Int.max_eq_right (by omega)]
        obtain ⟨q, q1, q2, q3⟩ := ih (r - (ss.getD i 0).toNat)
        exact ⟨2 ^ i + q, by rw [Nat.pow_succ]; omega, by rw [pSum_hi q1]; omega, by rw [pSum_hi q1, q3]⟩
    · rw [if_neg hle]; exact ⟨m, lo⟩
theorem tab_mono {ss gs : List Int} : ∀ (i : Nat) {r r' : Nat}, r ≤ r' → tab ss gs i r ≤ tab ss gs i r' := by
  intro i
  induction i with
  | zero => intro r r' _; simp [tab]
  | succ i ih =>
    intro r r' h
    rw [tab, tab]
    have h1 := ih h
    have h2 := ih (show r - (ss.getD i 0).toNat ≤ r' - (ss.getD i 0).toNat by omega)
    split <;> split <;> omega
theorem tab_rng {ss gs : List Int} {M : Int} (hg : ∀ i, 0 ≤ gs.getD i 0 ∧ gs.getD i 0 ≤ M) : ∀ (i r : Nat), 0 ≤ tab ss gs i r ∧ tab ss gs i r ≤ M * i := by
  intro i
  have h0 := hg 0
  induction i with
  | zero => intro r; simp [tab]
  | succ i ih =>
    intro r
    have h1 := hg i
    have h2 := ih r
    have h3 := ih (r - (ss.getD i 0).toNat)
    rw [tab, show M * ((i + 1 : Nat) : Int) = M * (i : Int) + M by rw [Int.natCast_add, Int.mul_add]; simp]
    split <;> omega
/-! ### Sums of packs -/
def lSum (zs : List Int) : List Int → Int
  | [] => 0
  | x :: r => zs.getD x.toNat 0 + lSum zs r
theorem lSum_append (zs : List Int) (A B : List Int) : lSum zs (A ++ B) = lSum zs A + lSum zs B := by
  induction A with
  | nil => simp [lSum]
  | cons a r ih => rw [List.cons_append, lSum, lSum, ih]; omega
theorem lSum_perm (zs : List Int) {A B : List Int} (h : A.Perm B) : lSum zs A = lSum zs B := by
  induction h with
  | nil => rfl
  | cons x _ ih => rw [lSum, lSum, ih]
  | swap x y l => simp only [lSum]; omega
  | trans _ _ h1 h2 => exact h1.trans h2
theorem lSum_reverse (zs A : List Int) : lSum zs A.reverse = lSum zs A := lSum_perm zs (List.reverse_perm A)
/-- a list of some of n things, each once, in order -/
def PackL (n : Nat) (L : List Int) : Prop := (∀ x ∈ L, 0 ≤ x ∧ x < (n : Int)) ∧ L.Pairwise (· < ·)
/-! ### The way back -/
def backGo (ss gs : List Int) : Nat → Nat → List Int
  | 0, _ => []
  | i + 1, r => if tab ss gs i r < tab ss gs (i + 1) r then (i : Int) :: backGo ss gs i (r - (ss.getD i 0).toNat) else backGo ss gs i r
theorem tab_step {ss gs : List Int} {i r : Nat} (h : tab ss gs i r < tab ss gs (i + 1) r) : (ss.getD i 0).toNat ≤ r ∧ tab ss gs (i + 1) r = tab ss gs i (r - (ss.getD i 0).toNat) + gs.getD i 0 := by
  rw [tab] at h ⊢
  split at h
  · rename_i hs
    rw [if_pos hs]
    exact ⟨hs, by omega⟩
  · omega
theorem tab_up {ss gs : List Int} (i r : Nat) : tab ss gs i r ≤ tab ss gs (i + 1) r := by
  rw [tab]; split <;> omega
theorem back_ok {ss gs : List Int} (hs : ∀ i, 0 ≤ ss.getD i 0) : ∀ (i r : Nat), (∀ x ∈ backGo ss gs i r, 0 ≤ x ∧ x < (i : Int)) ∧ (backGo ss gs i r).Pairwise (fun x y => y < x) ∧ lSum ss (backGo ss gs i r) ≤ (r : Int) ∧ lSum gs (backGo ss gs i r) = tab ss gs i r ∧ (backGo ss gs i r).length ≤ i := by
  intro i
  induction i with
  | zero => intro r; simp [backGo, lSum, tab]
  | succ i ih =>
    intro r
    rw [backGo]
    have h1 := hs i
    split
    · rename_i hlt
      obtain ⟨t1, t2⟩ := tab_step hlt
      obtain ⟨a1, a2, a3, a4, a5⟩ := ih (r - (ss.getD i 0).toNat)
      refine ⟨fun x hx => ?_, List.pairwise_cons.2 ⟨fun y hy => (a1 y hy).2, a2⟩, ?_, ?_, by rw [List.length_cons]; omega⟩
      · rcases List.mem_cons.1 hx with rfl | hx
        · omega
        · have := a1 x hx; omega
      · rw [lSum, Int.toNat_natCast]; omega
      · rw [lSum, Int.toNat_natCast, a4, t2]; omega
    · rename_i hge
      obtain ⟨a1, a2, a3, a4, a5⟩ := ih r
      refine ⟨fun x hx => by have := a1 x hx; omega, a2, a3, ?_, by omega⟩
      have := tab_up (ss := ss) (gs := gs) i r
      rw [a4]; omega
theorem back_pack {ss gs : List Int} (hs : ∀ i, 0 ≤ ss.getD i 0) (n r : Nat) : PackL n (backGo ss gs n r).reverse ∧ lSum ss (backGo ss gs n r).reverse ≤ (r : Int) ∧ lSum gs (backGo ss gs n r).reverse = tab ss gs n r ∧ (backGo ss gs n r).reverse.length ≤ n := by
  obtain ⟨a1, a2, a3, a4, a5⟩ := back_ok (gs := gs) hs n r
  refine ⟨⟨fun x hx => a1 x (List.mem_reverse.1 hx), List.pairwise_reverse.2 a2⟩, ?_, ?_, by simpa using a5⟩
  · rw [lSum_reverse]; exact a3
  · rw [lSum_reverse]; exact a4
/-! ### The quick pack -/
theorem taken_sum (zs T : List Int) : ∀ n, lSum zs (takenTo T n) = pSum zs (fun i => hasI T (i : Int)) n := by
  intro n
  induction n with
  | zero => rfl
  | succ n ih =>
    rw [takenTo, pSum, ← ih]
    split
    · rw [lSum_append, lSum, lSum, Int.toNat_natCast]; omega
    · rfl
theorem packGo_sum (ss gs : List Int) : ∀ (S : List Int) (left : Int) (T : List Int) (s : Int), 0 ≤ left → lSum ss (packGo ss gs S left T s).1 ≤ lSum ss T + left ∧ (packGo ss gs S left T s).2 = s + lSum gs (packGo ss gs S left T s).1 - lSum gs T := by
  intro S
  induction S with
  | nil => intro left T s h; rw [packGo]; dsimp only; exact ⟨by omega, by omega⟩
  | cons i r ih =>
    intro left T s h
    rw [packGo]
    split
    · rename_i hle
      obtain ⟨a, b⟩ := ih (left - ss.getD i.toNat 0) (T ++ [i]) (s + gs.getD i.toNat 0) (by omega)
      rw [lSum_append, lSum, lSum] at a b
      exact ⟨by omega, by omega⟩
    · exact ih left T s h
theorem quick_ok {ss gs : List Int} {n R : Nat} (hl : ss.length = n) (hs : ∀ i, 0 ≤ ss.getD i 0) (hg : ∀ i, 0 ≤ gs.getD i 0) : PackL n (takenTo (packT ss gs R).1 n) ∧ lSum ss (takenTo (packT ss gs R).1 n) ≤ (R : Int) ∧ lSum gs (takenTo (packT ss gs R).1 n) = (packT ss gs R).2 ∧ (packT ss gs R).2 ≤ tab ss gs n R ∧ 0 ≤ (packT ss gs R).2 := by
  obtain ⟨a, b⟩ := packGo_sum ss gs (packOrder ss gs) R [] 0 (by omega)
  have hnd := packGo_nodup ss gs n (packOrder ss gs) R [] 0 (by
    rw [List.nil_append]
    exact (ordTo_nd _ _).nodup) (fun x hx => by
    rw [List.nil_append] at hx
    have := ordTo_idx (quoLt ss gs) ss.length x hx
    rw [hl] at this
    exact this)
  have hpk : packGo ss gs (packOrder ss gs) R [] 0 = packT ss gs R := rfl
  rw [hpk] at a b hnd
  have hsort := sortI_taken hnd.1 hnd.2
  have hperm : (takenTo (packT ss gs R).1 n).Perm (packT ss gs R).1 := by rw [← hsort]; exact List.mergeSort_perm _ _
  have e1 := lSum_perm ss hperm
  have e2 := lSum_perm gs hperm
  simp only [lSum] at a b
  have hle := tab_le hs (gs := gs) (fun i => hasI (packT ss gs R).1 (i : Int)) n R (by rw [← taken_sum, e1]; omega)
  have h0 : 0 ≤ pSum gs (fun i => hasI (packT ss gs R).1 (i : Int)) n := pSum_nn hg _ n
  rw [← taken_sum, e2] at hle h0
  refine ⟨⟨fun x hx => ((takenTo_mem _ _ _).1 hx).2, takenTo_sorted _ _⟩, by omega, by omega, by omega, by omega⟩
end Go.Proofs.Ytkankfdpodofjaa
