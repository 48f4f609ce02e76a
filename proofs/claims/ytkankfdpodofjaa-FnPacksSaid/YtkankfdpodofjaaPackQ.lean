/-
  FnPacks: the plain part: the bound by parts, ways that are counted, halves.
-/
import Derived.Test.YtkankfdpodofjaaPackP
import Derived.Test.YtkankfdpodofjaaDigI
namespace Go.Proofs.Ytkankfdpodofjaa
open Go.RowKit
set_option linter.unusedVariables false
set_option maxRecDepth 100000

/-! ### The bound by parts -/
def pbGo (ss gs : List Int) : List Int → Int → Int → Int
  | [], _, b => b
  | i :: r, left, b => if left < ss.getD i.toNat 0 then b + gs.getD i.toNat 0 * left / ss.getD i.toNat 0 else pbGo ss gs r (left - ss.getD i.toNat 0) (b + gs.getD i.toNat 0)
theorem pb_split (ss gs : List Int) : ∀ (O : List Int) (left b : Int), 0 ≤ left → pbGo ss gs O left b = b + lSum gs O ∨ ∃ A k r, O = A ++ k :: r ∧ lSum ss A ≤ left ∧ pbGo ss gs O left b = b + lSum gs A + gs.getD k.toNat 0 * (left - lSum ss A) / ss.getD k.toNat 0 := by
  intro O
  induction O with
  | nil => intro left b _; left; simp [pbGo, lSum]
  | cons i r ih =>
    intro left b hl
    rw [pbGo]
    split
    · right
      exact ⟨[], i, r, rfl, by simpa [lSum] using hl, by simp [lSum]⟩
    · rename_i hle
      rcases ih (left - ss.getD i.toNat 0) (b + gs.getD i.toNat 0) (by omega) with h | ⟨A, k, q, h1, h2, h3⟩
      · left; rw [h, lSum]; omega
      · right
        refine ⟨i :: A, k, q, by rw [h1]; rfl, by rw [lSum]; omega, ?_⟩
        rw [h3, lSum, lSum, show left - ss.getD i.toNat 0 - lSum ss A = left - (ss.getD i.toNat 0 + lSum ss A) by omega]
        omega
def oSum (zs : List Int) (p : Nat → Bool) : List Int → Int
  | [] => 0
  | x :: r => if p x.toNat then zs.getD x.toNat 0 + oSum zs p r else oSum zs p r
theorem oSum_append (zs : List Int) (p : Nat → Bool) (A B : List Int) : oSum zs p (A ++ B) = oSum zs p A + oSum zs p B := by
  induction A with
  | nil => simp [oSum]
  | cons a r ih => rw [List.cons_append, oSum, oSum, ih]; split <;> omega
theorem oSum_perm (zs : List Int) (p : Nat → Bool) {A B : List Int} (h : A.Perm B) : oSum zs p A = oSum zs p B := by
  induction h with
  | nil => rfl
  | cons x _ ih => rw [oSum, oSum, ih]
  | swap x y l => simp only [oSum]; split <;> split <;> omega
  | trans _ _ h1 h2 => exact h1.trans h2
theorem oSum_rng (zs : List Int) (p : Nat → Bool) : ∀ n, oSum zs p (rngI n) = pSum zs p n := by
  intro n
  induction n with
  | zero => rfl
  | succ n ih =>
    rw [rngI_succ, oSum_append, ih, pSum, oSum, oSum, Int.toNat_natCast]
    split <;> omega
theorem oSum_le {zs : List Int} (h : ∀ i, 0 ≤ zs.getD i 0) (p : Nat → Bool) : ∀ A, oSum zs p A ≤ lSum zs A := by
  intro A
  induction A with
  | nil => simp [oSum, lSum]
  | cons a r ih => rw [oSum, lSum]; have := h a.toNat; split <;> omega
theorem part_up {ss gs : List Int} (p : Nat → Bool) {sk gk : Int} : ∀ A : List Int, (∀ x ∈ A, gk * ss.getD x.toNat 0 ≤ sk * gs.getD x.toNat 0) → sk * oSum gs p A - gk * oSum ss p A ≤ sk * lSum gs A - gk * lSum ss A := by
  intro A
  induction A with
  | nil => intro _; simp [oSum, lSum]
  | cons a r ih =>
    intro h
    have h1 := ih fun x hx => h x (List.mem_cons_of_mem _ hx)
    have h2 := h a (by simp)
    rw [oSum, oSum, lSum, lSum, Int.mul_add sk, Int.mul_add gk]
    split
    · rw [Int.mul_add, Int.mul_add]; omega
    · omega
theorem part_down {ss gs : List Int} (p : Nat → Bool) {sk gk : Int} : ∀ A : List Int, (∀ x ∈ A, sk * gs.getD x.toNat 0 ≤ gk * ss.getD x.toNat 0) → sk * oSum gs p A - gk * oSum ss p A ≤ 0 := by
  intro A
  induction A with
  | nil => intro _; simp [oSum]
  | cons a r ih =>
    intro h
    have h1 := ih fun x hx => h x (List.mem_cons_of_mem _ hx)
    have h2 := h a (by simp)
    rw [oSum, oSum]
    split
    · rw [Int.mul_add, Int.mul_add]; omega
    · exact h1
/-- x stands no less well than y -/
def Quo (ss gs : List Int) (x y : Int) : Prop := gs.getD y.toNat 0 * ss.getD x.toNat 0 ≤ gs.getD x.toNat 0 * ss.getD y.toNat 0
theorem pb_le {ss gs : List Int} (hg : ∀ i, 0 ≤ gs.getD i 0) (p : Nat → Bool) (O : List Int) (left : Int) (hl : 0 ≤ left) (ho : O.Pairwise (Quo ss gs)) (h1 : ∀ x ∈ O, 1 ≤ ss.getD x.toNat 0) (hw : oSum ss p O ≤ left) : oSum gs p O ≤ pbGo ss gs O left 0 := by
  rcases pb_split ss gs O left 0 hl with h | ⟨A, k, r, rfl, h2, h3⟩
  · rw [h]; have := oSum_le hg p O; omega
  · rw [h3]
    have hk := h1 k (by simp)
    obtain ⟨a1, a2, a3⟩ := List.pairwise_append.1 ho
    rw [List.pairwise_cons] at a2
    rw [oSum_append] at hw ⊢
    have u1 := part_up (ss := ss) (gs := gs) p (sk := ss.getD k.toNat 0) (gk := gs.getD k.toNat 0) A fun x hx => by
      have := a3 x hx k (by simp)
      unfold Quo at this
      rw [Int.mul_comm (ss.getD k.toNat 0)]; exact this
    have u2 := part_down (ss := ss) (gs := gs) p (sk := ss.getD k.toNat 0) (gk := gs.getD k.toNat 0) (k :: r) fun x hx => by
      rcases List.mem_cons.1 hx with rfl | hx
      · rw [Int.mul_comm]; exact Int.le_refl _
      · have := a2.1 x hx
        unfold Quo at this
        rw [Int.mul_comm (ss.getD k.toNat 0)]; exact this
    obtain ⟨sk, hsk⟩ : ∃ z, z = ss.getD k.toNat 0 := ⟨_, rfl⟩
    obtain ⟨gk, hgk⟩ : ∃ z, z = gs.getD k.toNat 0 := ⟨_, rfl⟩
    have hg2 := hg k.toNat
    rw [← hsk] at u1 u2 hk ⊢
    rw [← hgk] at u1 u2 hg2 ⊢
    generalize oSum gs p A = G1 at u1 u2 hw ⊢
    generalize oSum gs p (k :: r) = G2 at u1 u2 hw ⊢
    generalize oSum ss p A = W1 at u1 u2 hw ⊢
    generalize oSum ss p (k :: r) = W2 at u1 u2 hw ⊢
    generalize lSum gs A = L at u1 u2 hw h2 ⊢
    generalize lSum ss A = M at u1 u2 hw h2 ⊢
    have hmul : gk * (W1 + W2) ≤ gk * left := Int.mul_le_mul_of_nonneg_left hw hg2
    have hgoal : (G1 + G2 - L) * sk ≤ gk * (left - M) := by
      rw [Int.mul_comm, Int.mul_sub, Int.mul_sub, Int.mul_add]
      rw [Int.mul_add] at hmul
      omega
    have := (Int.le_ediv_iff_mul_le (show 0 < sk by omega)).2 hgoal
    omega
/-! #### .. of things by their quotients -/
def quoKey (ss gs : List Int) (x : Int) : Int := - (gs.getD x.toNat 0 * (27720 / ss.getD x.toNat 0))
theorem quo_cross {a b s t : Int} (hs : 1 ≤ s ∧ s ≤ 12) (ht : 1 ≤ t ∧ t ≤ 12) : (b * s < a * t ↔ - (a * (27720 / s)) < - (b * (27720 / t))) := by
  have hs' : s = 1 ∨ s = 2 ∨ s = 3 ∨ s = 4 ∨ s = 5 ∨ s = 6 ∨ s = 7 ∨ s = 8 ∨ s = 9 ∨ s = 10 ∨ s = 11 ∨ s = 12 := by omega
  have ht' : t = 1 ∨ t = 2 ∨ t = 3 ∨ t = 4 ∨ t = 5 ∨ t = 6 ∨ t = 7 ∨ t = 8 ∨ t = 9 ∨ t = 10 ∨ t = 11 ∨ t = 12 := by omega
  rcases hs' with rfl | rfl | rfl | rfl | rfl | rfl | rfl | rfl | rfl | rfl | rfl | rfl <;> rcases ht' with rfl | rfl | rfl | rfl | rfl | rfl | rfl | rfl | rfl | rfl | rfl | rfl <;> omega
theorem order_facts {ss gs : List Int} {n : Nat} (hl : ss.length = n) (hs : ∀ i, i < n → 1 ≤ ss.getD i 0 ∧ ss.getD i 0 ≤ 12) : (packOrder ss gs).Pairwise (Quo ss gs) ∧ (∀ x ∈ packOrder ss gs, 0 ≤ x ∧ x < (n : Int)) ∧ (packOrder ss gs).Perm (rngI n) := by
  have he : packOrder ss gs = ordTo (fun x y => decide (quoKey ss gs x < quoKey ss gs y)) n := by
    unfold packOrder
    rw [hl]
    refine ordTo_congr (n := n) (fun x y x1 x2 y1 y2 => ?_) n (Nat.le_refl _)
    unfold quoLt quoKey
    have := quo_cross (a := gs.getD x.toNat 0) (b := gs.getD y.toNat 0) (hs x.toNat (by omega)) (hs y.toNat (by omega))
    rw [Bool.eq_iff_iff, decide_eq_true_eq, decide_eq_true_eq]
    exact this
  obtain ⟨o1, o2⟩ := ordTo_lex (quoKey ss gs) (fun x y => decide (quoKey ss gs x < quoKey ss gs y)) (fun _ _ => rfl) n
  rw [← he] at o1 o2
  refine ⟨?_, fun x hx => (o2 x).1 hx, ?_⟩
  · refine List.Pairwise.imp_of_mem ?_ o1
    intro x y hx hy hxy
    have hx' := (o2 x).1 hx
    have hy' := (o2 y).1 hy
    have := quo_cross (a := gs.getD y.toNat 0) (b := gs.getD x.toNat 0) (hs y.toNat (by omega)) (hs x.toNat (by omega))
    unfold LexLt quoKey at hxy
    unfold Quo
    omega
  · refine (List.perm_ext_iff_of_nodup (ordTo_nd _ _).nodup ?_).2 fun x => ?_
    · have : (rngI n).Pairwise (· < ·) := by
        rw [rngI, List.pairwise_map]
        exact List.Pairwise.imp (fun h => by omega) List.pairwise_lt_range
      exact List.Pairwise.imp (fun h => by omega) this
    · rw [show ordTo (quoLt ss gs) ss.length = packOrder ss gs from rfl, o2]
      simp only [rngI, List.mem_map, List.mem_range]
      constructor
      · intro h; exact ⟨x.toNat, by omega, by omega⟩
      · rintro ⟨j, j1, rfl⟩; omega
theorem bound_ok {ss gs : List Int} {n R : Nat} (hl : ss.length = n) (hs : ∀ i, i < n → 1 ≤ ss.getD i 0 ∧ ss.getD i 0 ≤ 12) (hs0 : ∀ i, 0 ≤ ss.getD i 0) (hg : ∀ i, 0 ≤ gs.getD i 0) : tab ss gs n R ≤ pbGo ss gs (packOrder ss gs) R 0 := by
  obtain ⟨m, m1, m2, m3⟩ := tab_has (gs := gs) hs0 n R
  obtain ⟨o1, o2, o3⟩ := order_facts (gs := gs) hl hs
  rw [← m3, ← oSum_rng, ← oSum_perm gs _ o3]
  refine pb_le hg _ _ _ (by omega) o1 (fun x hx => (hs x.toNat (by have := o2 x hx; omega)).1) ?_
  rw [oSum_perm ss _ o3, oSum_rng]
  exact m2
/-! ### Counting -/
def cntOf (f : Nat → Bool) : Nat → Int
  | 0 => 0
  | k + 1 => if f k then cntOf f k + 1 else cntOf f k
theorem cnt_congr {f g : Nat → Bool} : ∀ k, (∀ m, m < k → f m = g m) → cntOf f k = cntOf g k := by
  intro k
  induction k with
  | zero => intro _; rfl
  | succ k ih => intro h; rw [cntOf, cntOf, ih (fun m hm => h m (by omega)), h k (by omega)]
theorem cnt_add (f : Nat → Bool) (a : Nat) : ∀ b, cntOf f (a + b) = cntOf f a + cntOf (fun m => f (a + m)) b := by
  intro b
  induction b with
  | zero => simp [cntOf]
  | succ b ih =>
    rw [← Nat.add_assoc, cntOf, cntOf, ih]
    split <;> omega
theorem cnt_none (k : Nat) : cntOf (fun _ => false) k = 0 := by
  induction k with
  | zero => rfl
  | succ k ih => rw [cntOf, ih]; rfl
theorem cnt_rng (f : Nat → Bool) (k : Nat) : 0 ≤ cntOf f k ∧ cntOf f k ≤ k := by
  induction k with
  | zero => simp [cntOf]
  | succ k ih => rw [cntOf]; split <;> omega
def wayTo (ss : List Int) : Nat → Nat → Int
  | 0, r => if r = 0 then 1 else 0
  | i + 1, r => if (ss.getD i 0).toNat ≤ r then wayTo ss i r + wayTo ss i (r - (ss.getD i 0).toNat) else wayTo ss i r
theorem way_cnt {ss : List Int} (hs : ∀ i, 0 ≤ ss.getD i 0) : ∀ i r, wayTo ss i r = cntOf (fun m => decide (pSum ss (dgt m) i = (r : Int))) (2 ^ i) := by
  intro i
  induction i with
  | zero =>
    intro r
    rw [wayTo, Nat.pow_zero, cntOf, cntOf, pSum]
    by_cases h : r = 0
    · subst h; simp
    · rw [if_neg h, if_neg (by simp; omega)]
  | succ i ih =>
    intro r
    have h1 := hs i
    rw [show 2 ^ (i + 1) = 2 ^ i + 2 ^ i by rw [Nat.pow_succ]; omega, cnt_add, wayTo]
    have e1 : cntOf (fun m => decide (pSum ss (dgt m) (i + 1) = (r : Int))) (2 ^ i) = wayTo ss i r := by
      rw [ih]
      exact cnt_congr _ fun m hm => by rw [pSum_lo hm]
    rw [e1]
    split
    · rename_i hle
      congr 1
      rw [ih]
      refine cnt_congr _ fun m hm => ?_
      rw [pSum_hi hm, Bool.eq_iff_iff, decide_eq_true_eq, decide_eq_true_eq]
      omega
    · rename_i hgt
      have e2 : cntOf (fun m => decide (pSum ss (dgt (2 ^ i + m)) (i + 1) = (r : Int))) (2 ^ i) = 0 := by
        rw [← cnt_none (2 ^ i)]
        refine cnt_congr _ fun m hm => ?_
        have := pSum_nn hs (dgt m) i
        rw [pSum_hi hm, Bool.eq_false_iff, Ne, decide_eq_true_eq]
        omega
      rw [e2]; omega
theorem way_rng (ss : List Int) (hs : ∀ i, 0 ≤ ss.getD i 0) (i r : Nat) : 0 ≤ wayTo ss i r ∧ wayTo ss i r ≤ ((2 ^ i : Nat) : Int) := by
  rw [way_cnt hs]; exact cnt_rng _ _
/-! ### The best of all masks, and the nearest half -/
def bestTo (ss gs : List Int) (n : Nat) (R : Int) : Nat → Int
  | 0 => 0
  | k + 1 => if pSum ss (dgt k) n ≤ R then max (bestTo ss gs n R k) (pSum gs (dgt k) n) else bestTo ss gs n R k
theorem best_ge {ss gs : List Int} {n : Nat} {R : Int} : ∀ K m, m < K → pSum ss (dgt m) n ≤ R → pSum gs (dgt m) n ≤ bestTo ss gs n R K := by
  intro K
  induction K with
  | zero => intro m hm; omega
  | succ K ih =>
    intro m hm hR
    rw [bestTo]
    by_cases e : m = K
    · subst e; rw [if_pos hR]; omega
    · have := ih m (by omega) hR
      split <;> omega
theorem best_has {ss gs : List Int} {n : Nat} {R : Int} : ∀ K, bestTo ss gs n R K = 0 ∨ ∃ m, m < K ∧ pSum ss (dgt m) n ≤ R ∧ bestTo ss gs n R K = pSum gs (dgt m) n := by
  intro K
  induction K with
  | zero => left; rfl
  | succ K ih =>
    rw [bestTo]
    have hold : bestTo ss gs n R K = 0 ∨ ∃ m, m < K + 1 ∧ pSum ss (dgt m) n ≤ R ∧ bestTo ss gs n R K = pSum gs (dgt m) n := by
      rcases ih with h | ⟨m, a, b, c⟩
      · exact .inl h
      · exact .inr ⟨m, by omega, b, c⟩
    split
    · rename_i h
      by_cases hg : pSum gs (dgt K) n ≤ bestTo ss gs n R K
      · rw [Int.max_eq_left hg]; exact hold
      · rw [Int.max_eq_right (by omega)]; exact .inr ⟨K, by omega, h, rfl⟩
    · exact hold
theorem best_tab {ss gs : List Int} (hs : ∀ i, 0 ≤ ss.getD i 0) (hg : ∀ i, 0 ≤ gs.getD i 0) (n R : Nat) : bestTo ss gs n R (2 ^ n) = tab ss gs n R := by
  apply Int.le_antisymm
  · rcases best_has (ss := ss) (gs := gs) (n := n) (R := R) (2 ^ n) with h | ⟨m, a, b, c⟩
    · rw [h]
      obtain ⟨m, m1, m2, m3⟩ := tab_has (gs := gs) hs n R
      rw [← m3]; exact pSum_nn hg _ _
    · rw [c]; exact tab_le hs _ n R b
  · obtain ⟨m, m1, m2, m3⟩ := tab_has (gs := gs) hs n R
    rw [← m3]; exact best_ge _ m m1 m2
def farOf (tot s : Int) : Int := max (tot - 2 * s) (2 * s - tot)
def nearTo (ss : List Int) (n : Nat) (tot : Int) : Nat → Int
  | 0 => tot
  | k + 1 => min (nearTo ss n tot k) (farOf tot (pSum ss (dgt k) n))
theorem near_le {ss : List Int} {n : Nat} {tot : Int} : ∀ K m, m < K → nearTo ss n tot K ≤ farOf tot (pSum ss (dgt m) n) := by
  intro K
  induction K with
  | zero => intro m hm; omega
  | succ K ih =>
    intro m hm
    rw [nearTo]
    by_cases e : m = K
    · subst e; omega
    · have := ih m (by omega); omega
theorem near_has {ss : List Int} {n : Nat} {tot : Int} : ∀ K, nearTo ss n tot K = tot ∨ ∃ m, m < K ∧ nearTo ss n tot K = farOf tot (pSum ss (dgt m) n) := by
  intro K
  induction K with
  | zero => left; rfl
  | succ K ih =>
    rw [nearTo]
    by_cases h : nearTo ss n tot K ≤ farOf tot (pSum ss (dgt K) n)
    · rw [Int.min_eq_left h]
      rcases ih with h | ⟨m, a, b⟩
      · exact .inl h
      · exact .inr ⟨m, by omega, b⟩
    · rw [Int.min_eq_right (by omega)]
      exact .inr ⟨K, by omega, rfl⟩
/-- what the program's halves are: a set of least distance among those without the first thing -/
structure HalfS (ss : List Int) (n : Nat) (tot : Int) (b : Nat) (gap : Int) : Prop where
  lt : b < 2 ^ n
  eq : gap = farOf tot (pSum ss (dgt b) n)
  le : ∀ m, m < 2 ^ n → m % 2 = 0 → gap ≤ farOf tot (pSum ss (dgt m) n)
theorem half_near {ss : List Int} {n : Nat} {tot gap : Int} {b : Nat} (hn : 1 ≤ n) (hs : ∀ i, 0 ≤ ss.getD i 0) (ht : tot = pSum ss (fun _ => true) n) (h : HalfS ss n tot b gap) : nearTo ss n tot (2 ^ n) = gap := by
  have h0 : 0 ≤ tot := by rw [ht]; exact pSum_nn hs _ _
  have hp : 2 ^ n = 2 * 2 ^ (n - 1) := by
    rw [show n = (n - 1) + 1 by omega, Nat.pow_succ]; simp; omega
  have hpos : 0 < 2 ^ (n - 1) := Nat.pow_pos (by decide)
  have hz : ∀ k, pSum ss (dgt 0) k = 0 := by
    intro k
    induction k with
    | zero => rfl
    | succ k ih => rw [pSum, ih]; simp [dgt]
  have hall : ∀ m, m < 2 ^ n → gap ≤ farOf tot (pSum ss (dgt m) n) := by
    intro m hm
    by_cases e : m % 2 = 0
    · exact h.le m hm e
    · have h1 := h.le (2 ^ n - (m + 1)) (by omega) (by omega)
      have h2 := pSum_flip (zs := ss) hm
      rw [← ht] at h2
      unfold farOf at h1 ⊢
      omega
  apply Int.le_antisymm
  · rw [h.eq]; exact near_le _ b h.lt
  · rcases near_has (ss := ss) (n := n) (tot := tot) (2 ^ n) with e | ⟨m, a, e⟩
    · rw [e]
      have := hall 0 (by omega)
      rw [hz] at this
      unfold farOf at this
      omega
    · rw [e]; exact hall m a
theorem dig_sum (zs : List Int) (m : Nat) : ∀ n, lSum zs (digI n m) = pSum zs (dgt m) n := by
  intro n
  induction n with
  | zero => rfl
  | succ n ih =>
    rw [digI_succ, pSum, ← ih]
    split
    · rw [lSum_append, lSum, lSum, Int.toNat_natCast]; omega
    · rfl
theorem dig_pack (m : Nat) : ∀ n, PackL n (digI n m) := by
  intro n
  induction n with
  | zero => exact ⟨by simp [digI, dig], by simp [digI, dig]⟩
  | succ n ih =>
    rw [digI_succ]
    split
    · refine ⟨fun x hx => ?_, List.pairwise_append.2 ⟨ih.2, by simp, fun a ha b hb => ?_⟩⟩
      · rcases List.mem_append.1 hx with hx | hx
        · have := ih.1 x hx; omega
        · rw [List.mem_singleton] at hx; subst hx; omega
      · rw [List.mem_singleton] at hb; subst hb
        exact (ih.1 a ha).2
    · exact ⟨fun x hx => by have := ih.1 x hx; omega, ih.2⟩
end Go.Proofs.Ytkankfdpodofjaa
