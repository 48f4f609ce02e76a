/-
  Merging two parts of a list that are in order, in place: the plain part; no statement of the program is proved here.
-/
import Derived.Test.YtkankfdpodofjaaTreeP
namespace Go.Proofs.Ytkankfdpodofjaa
open Go.RowKit
set_option linter.unusedVariables false
set_option maxRecDepth 100000

abbrev at0 (A : List Int) (q : Nat) : Int := A.getD q 0
def InjN (A : List Int) (N : Nat) : Prop := ∀ p q, p < N → q < N → at0 A p = at0 A q → p = q
def SortR (key : Int → Int) (R : List Int) (a b : Nat) : Prop := ∀ p q, a ≤ p → p < q → q < b → LexLt key (at0 R p) (at0 R q)
def Cross (R : List Int) (a m b : Nat) : Prop := ∀ p q, a ≤ p → p < m → m ≤ q → q < b → at0 R p < at0 R q
/-- R is A but for the places from a to b, where it holds what A holds there -/
structure Seg (N : Nat) (A R : List Int) (a b : Nat) : Prop where
  out : ∀ q, q < N → ¬ (a ≤ q ∧ q < b) → at0 R q = at0 A q
  src : ∀ q, a ≤ q → q < b → ∃ p, a ≤ p ∧ p < b ∧ at0 R q = at0 A p
  inj : InjN A N → InjN R N
section
variable {N a b : Nat} {A R T : List Int}
theorem Seg.refl (N : Nat) (A : List Int) (a b : Nat) : Seg N A A a b := ⟨fun _ _ _ => rfl, fun q h1 h2 => ⟨q, h1, h2, rfl⟩, fun h => h⟩
theorem Seg.trans (h : Seg N A R a b) (g : Seg N R T a b) : Seg N A T a b := by
  refine ⟨fun q hq hn => (g.out q hq hn).trans (h.out q hq hn), fun q h1 h2 => ?_, fun hi => g.inj (h.inj hi)⟩
  obtain ⟨p, p1, p2, p3⟩ := g.src q h1 h2
  obtain ⟨r, r1, r2, r3⟩ := h.src p p1 p2
  exact ⟨r, r1, r2, p3.trans r3⟩
theorem Seg.widen {c d : Nat} (h : Seg N A R a b) (h1 : c ≤ a) (h2 : b ≤ d) (hd : d ≤ N) : Seg N A R c d := by
  refine ⟨fun q hq hn => h.out q hq (by omega), fun q q1 q2 => ?_, h.inj⟩
  by_cases hq : a ≤ q ∧ q < b
  · obtain ⟨p, p1, p2, p3⟩ := h.src q hq.1 hq.2
    exact ⟨p, by omega, by omega, p3⟩
  · exact ⟨q, q1, q2, h.out q (by omega) hq⟩
theorem seg_of (f : Nat → Nat) (hR : ∀ q, q < N → at0 R q = at0 A (f q)) (hb : b ≤ N) (hf : ∀ q, a ≤ q → q < b → a ≤ f q ∧ f q < b) (hfo : ∀ q, ¬ (a ≤ q ∧ q < b) → f q = q) (hi : ∀ p q, a ≤ p → p < b → a ≤ q → q < b → f p = f q → p = q) : Seg N A R a b := by
  refine ⟨fun q hq hn => by rw [hR q hq, hfo q hn], fun q h1 h2 => ⟨f q, (hf q h1 h2).1, (hf q h1 h2).2, hR q (by omega)⟩, fun hA p q hp hq e => ?_⟩
  rw [hR p hp, hR q hq] at e
  have hfl : ∀ q, q < N → f q < N := fun q hq => by
    by_cases hn : a ≤ q ∧ q < b
    · have := (hf q hn.1 hn.2).2; omega
    · rw [hfo q hn]; exact hq
  have e2 := hA _ _ (hfl p hp) (hfl q hq) e
  by_cases hp' : a ≤ p ∧ p < b
  · by_cases hq' : a ≤ q ∧ q < b
    · exact hi p q hp'.1 hp'.2 hq'.1 hq'.2 e2
    · rw [hfo q hq'] at e2
      have := hf p hp'.1 hp'.2
      omega
  · rw [hfo p hp'] at e2
    by_cases hq' : a ≤ q ∧ q < b
    · have := hf q hq'.1 hq'.2; omega
    · rw [hfo q hq'] at e2; exact e2
theorem Seg.sub {key : Int → Int} {c d : Nat} (h : Seg N A R c d) (hs : SortR key A a b) (hab : b ≤ c ∨ d ≤ a) (hb : b ≤ N) : SortR key R a b := by
  intro p q p1 p2 p3
  rw [h.out p (by omega) (by omega), h.out q (by omega) (by omega)]
  exact hs p q p1 p2 p3
end
/-- the first of two parts is one element: it goes to place i - 1 -/
theorem one_left {key : Int → Int} {N a b i : Nat} {A R : List Int} (hb : b ≤ N) (hai : a + 1 ≤ i) (hib : i ≤ b) (hs : SortR key A (a + 1) b) (hc : Cross A a (a + 1) b)
    (h1 : ∀ h, a + 1 ≤ h → h < i → key (at0 A h) < key (at0 A a)) (h2 : ∀ h, i ≤ h → h < b → ¬ key (at0 A h) < key (at0 A a))
    (hR : ∀ q, q < N → at0 R q = at0 A (if a ≤ q ∧ q + 1 < i then q + 1 else if q + 1 = i then a else q)) : Seg N A R a b ∧ SortR key R a b := by
  refine ⟨seg_of _ hR hb (fun q q1 q2 => by
    repeat' split
    all_goals omega) (fun q hq => by rw [if_neg (by omega), if_neg (by omega)]) (fun p q p1 p2 q1 q2 e => by revert e; split <;> split <;> (try split) <;> (try split) <;> omega), fun p q p1 p2 p3 => ?_⟩
  rw [hR p (by omega), hR q (by omega)]
  by_cases c1 : q + 1 < i
  · rw [if_pos (by omega), if_pos (by omega)]; exact hs _ _ (by omega) (by omega) (by omega)
  · by_cases c2 : q + 1 = i
    · rw [if_pos (show a ≤ p ∧ p + 1 < i by omega), if_neg (by omega), if_pos c2]; exact .inl (h1 _ (by omega) (by omega))
    · rw [if_neg (show ¬ (a ≤ q ∧ q + 1 < i) by omega), if_neg c2]
      by_cases c3 : p + 1 < i
      · rw [if_pos (by omega)]; exact hs _ _ (by omega) (by omega) p3
      · rw [if_neg (by omega)]
        by_cases c4 : p + 1 = i
        · rw [if_pos c4]
          have g1 := h2 q (by omega) p3
          have g2 := hc a q (Nat.le_refl _) (Nat.lt_succ_self _) (by omega) p3
          unfold LexLt; omega
        · rw [if_neg c4]; exact hs _ _ (by omega) p2 p3
/-- the second of two parts is one element: it goes to place i -/
theorem one_right {key : Int → Int} {N a m i : Nat} {A R : List Int} (hb : m + 1 ≤ N) (hai : a ≤ i) (hib : i ≤ m) (hs : SortR key A a m) (hc : Cross A a m (m + 1))
    (h1 : ∀ h, a ≤ h → h < i → ¬ key (at0 A m) < key (at0 A h)) (h2 : ∀ h, i ≤ h → h < m → key (at0 A m) < key (at0 A h))
    (hR : ∀ q, q < N → at0 R q = at0 A (if i < q ∧ q ≤ m then q - 1 else if q = i then m else q)) : Seg N A R a (m + 1) ∧ SortR key R a (m + 1) := by
  refine ⟨seg_of _ hR hb (fun q q1 q2 => by
    repeat' split
    all_goals omega) (fun q hq => by rw [if_neg (by omega), if_neg (by omega)]) (fun p q p1 p2 q1 q2 e => by revert e; split <;> split <;> (try split) <;> (try split) <;> omega), fun p q p1 p2 p3 => ?_⟩
  rw [hR p (by omega), hR q (by omega)]
  by_cases c1 : q < i
  · rw [if_neg (by omega), if_neg (by omega), if_neg (by omega), if_neg (by omega)]; exact hs _ _ p1 p2 (by omega)
  · by_cases c2 : q = i
    · rw [if_neg (show ¬ (i < p ∧ p ≤ m) by omega), if_neg (by omega), if_neg (by omega), if_pos c2]
      have g1 := h1 p p1 (by omega)
      have g2 := hc p m p1 (by omega) (Nat.le_refl _) (Nat.lt_succ_self _)
      unfold LexLt; omega
    · rw [if_pos (show i < q ∧ q ≤ m by omega)]
      by_cases c3 : p < i
      · rw [if_neg (by omega), if_neg (by omega)]; exact hs _ _ p1 (by omega) (by omega)
      · by_cases c4 : p = i
        · rw [if_neg (by omega), if_pos c4]; exact .inl (h2 _ (by omega) (by omega))
        · rw [if_pos (by omega)]; exact hs _ _ (by omega) (by omega) (by omega)
/-! ### A rotation -/
def rotF (a m b q : Nat) : Nat := if a ≤ q ∧ q < a + (b - m) then q + (m - a) else if a + (b - m) ≤ q ∧ q < b then q - (b - m) else q
def swpF (a b n q : Nat) : Nat := if a ≤ q ∧ q < a + n then q + (b - a) else if b ≤ q ∧ q < b + n then q - (b - a) else q
theorem rot_left {m i j q : Nat} (hij : j < i) (him : i ≤ m) : swpF (m - i) m j (rotF (m - (i - j)) m (m + j) q) = rotF (m - i) m (m + j) q := by
  unfold swpF rotF
  repeat' split
  all_goals omega
theorem rot_right {m i j q : Nat} (hij : i < j) (him : i ≤ m) : swpF (m - i) (m + j - i) i (rotF (m - i) m (m + (j - i)) q) = rotF (m - i) m (m + j) q := by
  unfold swpF rotF
  repeat' split
  all_goals omega
theorem rot_same {m i q : Nat} (him : i ≤ m) : swpF (m - i) m i q = rotF (m - i) m (m + i) q := by
  unfold swpF rotF
  repeat' split
  all_goals omega
theorem rot_seg {N a m b : Nat} {A R : List Int} (ham : a ≤ m) (hmb : m ≤ b) (hb : b ≤ N) (hR : ∀ q, q < N → at0 R q = at0 A (rotF a m b q)) : Seg N A R a b := by
  refine seg_of _ hR hb (fun q q1 q2 => ?_) (fun q hq => ?_) (fun p q p1 p2 q1 q2 e => ?_)
  · unfold rotF; repeat' split
    all_goals omega
  · unfold rotF; repeat' split
    all_goals omega
  · revert e; unfold rotF; repeat' split
    all_goals omega
/-- where the search for the middle has come to -/
structure SymCut (key : Int → Int) (A : List Int) (a m b s : Nat) : Prop where
  lo : a ≤ s
  hi : s ≤ m
  e0 : m ≤ (a + b) / 2 + m - s
  e1 : (a + b) / 2 + m - s ≤ b
  l : ∀ c v, a ≤ c → c < s → (a + b) / 2 + m - s ≤ v → v < b → ¬ key (at0 A v) < key (at0 A c)
  r : ∀ u d, m ≤ u → u < (a + b) / 2 + m - s → s ≤ d → d < m → key (at0 A u) < key (at0 A d)
/-- the search's span: whatever lies ahead of it, and behind it -/
structure SymInv (key : Int → Int) (A : List Int) (a m b s r : Nat) : Prop where
  sr : s ≤ r
  lo : a ≤ s ∧ (a + b) / 2 + m ≤ b + s
  hi : r ≤ m ∧ r ≤ (a + b) / 2
  l : ∀ c v, a ≤ c → c < s → (a + b) / 2 + m - s ≤ v → v < b → ¬ key (at0 A v) < key (at0 A c)
  r : ∀ u d, m ≤ u → u < (a + b) / 2 + m - r → r ≤ d → d < m → key (at0 A u) < key (at0 A d)
theorem SymInv.start {key : Int → Int} {A : List Int} {a m b : Nat} (h1 : a < m) (h2 : m < b) : SymInv key A a m b (if (a + b) / 2 < m then (a + b) / 2 + m - b else a) (if (a + b) / 2 < m then (a + b) / 2 else m) := by
  by_cases h : (a + b) / 2 < m
  · rw [if_pos h, if_pos h]
    refine ⟨by omega, ⟨by omega, by omega⟩, ⟨by omega, Nat.le_refl _⟩, fun c v _ _ h3 h4 => by omega, fun u d h3 h4 _ _ => by omega⟩
  · rw [if_neg h, if_neg h]
    refine ⟨by omega, ⟨Nat.le_refl _, by omega⟩, ⟨Nat.le_refl _, by omega⟩, fun c v h3 h4 _ _ => by omega, fun u d _ _ h3 h4 => by omega⟩
theorem sort_key {key : Int → Int} {A : List Int} {a b : Nat} (h : SortR key A a b) {p q : Nat} (p1 : a ≤ p) (p2 : p ≤ q) (p3 : q < b) : key (at0 A p) ≤ key (at0 A q) := by
  by_cases e : p = q
  · rw [e]; exact Int.le_refl _
  · have := h p q p1 (by omega) p3
    unfold LexLt at this; omega
theorem SymInv.up {key : Int → Int} {A : List Int} {a m b s r c : Nat} (h : SymInv key A a m b s r) (hmb : m < b) (hl : SortR key A a m) (hr : SortR key A m b) (h1 : s ≤ c) (h2 : c < r) (hc : ¬ key (at0 A ((a + b) / 2 + m - 1 - c)) < key (at0 A c)) : SymInv key A a m b (c + 1) r := by
  obtain ⟨i1, i2, i3, i4, i5⟩ := h
  refine ⟨by omega, ⟨by omega, by omega⟩, i3, fun d v d1 d2 v1 v2 => ?_, i5⟩
  have g1 := sort_key hl (p := d) (q := c) d1 (by omega) (by omega)
  have g2 := sort_key hr (p := (a + b) / 2 + m - 1 - c) (q := v) (by omega) (by omega) v2
  omega
theorem SymInv.down {key : Int → Int} {A : List Int} {a m b s r c : Nat} (h : SymInv key A a m b s r) (hmb : m < b) (hl : SortR key A a m) (hr : SortR key A m b) (h1 : s ≤ c) (h2 : c < r) (hc : key (at0 A ((a + b) / 2 + m - 1 - c)) < key (at0 A c)) : SymInv key A a m b s c := by
  obtain ⟨i1, i2, i3, i4, i5⟩ := h
  refine ⟨h1, i2, ⟨by omega, by omega⟩, i4, fun u d u1 u2 d1 d2 => ?_⟩
  have g1 := sort_key hl (p := c) (q := d) (by omega) d1 d2
  have g2 := sort_key hr (p := u) (q := (a + b) / 2 + m - 1 - c) u1 (by omega) (by omega)
  omega
theorem SymInv.cut {key : Int → Int} {A : List Int} {a m b s : Nat} (h : SymInv key A a m b s s) : SymCut key A a m b s := by
  obtain ⟨i1, i2, i3, i4, i5⟩ := h
  exact ⟨i2.1, i3.1, by omega, by omega, i4, i5⟩
/-- behind the rotation: what must still be merged, left and right -/
structure SymMid (key : Int → Int) (N : Nat) (A R : List Int) (a m b s : Nat) : Prop where
  seg : Seg N A R a b
  s1 : SortR key R a s
  s2 : SortR key R s ((a + b) / 2)
  s3 : SortR key R ((a + b) / 2) ((a + b) / 2 + m - s)
  s4 : SortR key R ((a + b) / 2 + m - s) b
  c1 : Cross R a s ((a + b) / 2)
  c2 : Cross R ((a + b) / 2) ((a + b) / 2 + m - s) b
  mid : ∀ p q, a ≤ p → p < (a + b) / 2 → (a + b) / 2 ≤ q → q < b → LexLt key (at0 R p) (at0 R q)
theorem SymCut.mid {key : Int → Int} {N : Nat} {A R : List Int} {a m b s : Nat} (h : SymCut key A a m b s) (ham : a < m) (hmb : m < b) (hb : b ≤ N) (hl : SortR key A a m) (hr : SortR key A m b) (hc : Cross A a m b)
    (hR : ∀ q, q < N → at0 R q = at0 A (rotF s m ((a + b) / 2 + m - s) q)) : SymMid key N A R a m b s := by
  obtain ⟨lo, hi, e0, e1, L, RR⟩ := h
  obtain ⟨M, hM⟩ : ∃ M, M = (a + b) / 2 := ⟨_, rfl⟩
  have hM1 : a ≤ M := by omega
  have hM2 : M ≤ b := by omega
  have hsM : s ≤ M := by omega
  rw [← hM] at e0 e1 L RR hR
  have r1 : ∀ q, a ≤ q → q < s → at0 R q = at0 A q := fun q q1 q2 => by
    rw [hR q (by omega)]; unfold rotF; rw [if_neg (by omega), if_neg (by omega)]
  have r2 : ∀ q, s ≤ q → q < M → at0 R q = at0 A (q + (m - s)) := fun q q1 q2 => by
    rw [hR q (by omega)]; unfold rotF; rw [if_pos (by omega)]
  have r3 : ∀ q, M ≤ q → q < M + m - s → at0 R q = at0 A (q - (M - s)) := fun q q1 q2 => by
    rw [hR q (by omega)]; unfold rotF; rw [if_neg (by omega), if_pos (by omega)]
    congr 1; omega
  have r4 : ∀ q, M + m - s ≤ q → q < b → at0 R q = at0 A q := fun q q1 q2 => by
    rw [hR q (by omega)]; unfold rotF; rw [if_neg (by omega), if_neg (by omega)]
  refine ⟨(rot_seg hi e0 (by omega) hR).widen lo e1 hb, ?_, ?_, ?_, ?_, ?_, ?_, ?_⟩
  all_goals (try rw [← hM])
  all_goals clear hM
  · intro p q p1 p2 p3
    rw [r1 p p1 (by omega), r1 q (by omega) p3]; exact hl _ _ p1 p2 (by omega)
  · intro p q p1 p2 p3
    rw [r2 p p1 (by omega), r2 q (by omega) p3]; exact hr _ _ (by omega) (by omega) (by omega)
  · intro p q p1 p2 p3
    rw [r3 p p1 (by omega), r3 q (by omega) p3]; exact hl _ _ (by omega) (by omega) (by omega)
  · intro p q p1 p2 p3
    rw [r4 p p1 (by omega), r4 q (by omega) p3]; exact hr _ _ (by omega) p2 p3
  · intro p q p1 p2 p3 p4
    rw [r1 p p1 p2, r2 q p3 p4]; exact hc _ _ p1 (by omega) (by omega) (by omega)
  · intro p q p1 p2 p3 p4
    rw [r3 p p1 p2, r4 q p3 p4]; exact hc _ _ (by omega) (by omega) (by omega) p4
  · intro p q p1 p2 q1 q2
    by_cases hp : p < s
    · rw [r1 p p1 hp]
      by_cases hq : q < M + m - s
      · rw [r3 q q1 hq]; exact hl _ _ p1 (by omega) (by omega)
      · rw [r4 q (by omega) q2]
        have g1 := L p q p1 hp (by omega) q2
        have g2 := hc p q p1 (by omega) (by omega) q2
        unfold LexLt; omega
    · rw [r2 p (by omega) p2]
      by_cases hq : q < M + m - s
      · rw [r3 q q1 hq]
        exact .inl (RR _ _ (by omega) (by omega) (by omega) (by omega))
      · rw [r4 q (by omega) q2]; exact hr _ _ (by omega) (by omega) q2
/-- two parts in order, none of the first behind one of the second -/
theorem sort_join {key : Int → Int} {R : List Int} {a m b : Nat} (h1 : SortR key R a m) (h2 : SortR key R m b) (h3 : ∀ p q, a ≤ p → p < m → m ≤ q → q < b → LexLt key (at0 R p) (at0 R q)) : SortR key R a b := by
  intro p q p1 p2 p3
  by_cases hq : q < m
  · exact h1 p q p1 p2 hq
  · by_cases hp : p < m
    · exact h3 p q p1 hp (by omega) p3
    · exact h2 p q (by omega) p2 p3
theorem mid_left {key : Int → Int} {N : Nat} {R T : List Int} {a M b : Nat} (hM : M ≤ N) (hb : b ≤ N) (g : Seg N R T a M) (h : ∀ p q, a ≤ p → p < M → M ≤ q → q < b → LexLt key (at0 R p) (at0 R q)) : ∀ p q, a ≤ p → p < M → M ≤ q → q < b → LexLt key (at0 T p) (at0 T q) := by
  intro p q p1 p2 q1 q2
  obtain ⟨p', a1, a2, a3⟩ := g.src p p1 p2
  rw [a3, g.out q (by omega) (by omega)]
  exact h p' q a1 a2 q1 q2
theorem mid_right {key : Int → Int} {N : Nat} {R T : List Int} {a M b : Nat} (hM : M ≤ N) (hb : b ≤ N) (g : Seg N R T M b) (h : ∀ p q, a ≤ p → p < M → M ≤ q → q < b → LexLt key (at0 R p) (at0 R q)) : ∀ p q, a ≤ p → p < M → M ≤ q → q < b → LexLt key (at0 T p) (at0 T q) := by
  intro p q p1 p2 q1 q2
  obtain ⟨q', a1, a2, a3⟩ := g.src q q1 q2
  rw [a3, g.out p (by omega) (by omega)]
  exact h p q' p1 p2 a1 a2
theorem cross_out {N : Nat} {R T : List Int} {a m b c d : Nat} (g : Seg N R T c d) (h : Cross R a m b) (hab : b ≤ c ∨ d ≤ a) (hb : b ≤ N) : Cross T a m b := by
  intro p q p1 p2 q1 q2
  rw [g.out p (by omega) (by omega), g.out q (by omega) (by omega)]
  exact h p q p1 p2 q1 q2
end Go.Proofs.Ytkankfdpodofjaa
