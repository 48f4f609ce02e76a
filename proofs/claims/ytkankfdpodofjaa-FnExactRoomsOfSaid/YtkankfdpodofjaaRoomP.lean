/-
  RoomsOf: the plain part.
-/
import Derived.Test.YtkankfdpodofjaaOrd64
import Derived.Test.YtkankfdpodofjaaSpanA
namespace Go.Proofs.Ytkankfdpodofjaa
open Go.RowKit
set_option linter.unusedVariables false
set_option maxRecDepth 100000

/-- the first room that is free from f on -/
def rkF (f : Int) : List Int → Nat
  | [] => 0
  | e :: r => if f < e then rkF f r + 1 else 0
theorem rkF_le (f : Int) : ∀ E : List Int, rkF f E ≤ E.length := by
  intro E
  induction E with
  | nil => simp [rkF]
  | cons e r ih => rw [rkF]; split <;> simp <;> omega
theorem rkF_lt (f : Int) : ∀ (E : List Int) (r : Nat), r < rkF f E → f < E.getD r 0 := by
  intro E
  induction E with
  | nil => intro r h; simp [rkF] at h
  | cons e t ih =>
    intro r h
    rw [rkF] at h
    split at h
    · rename_i hfe
      cases r with
      | zero => simpa [List.getD] using hfe
      | succ r => have := ih r (by omega); simpa [List.getD] using this
    · omega
theorem rkF_at (f : Int) : ∀ (E : List Int), rkF f E < E.length → ¬ f < E.getD (rkF f E) 0 := by
  intro E
  induction E with
  | nil => intro h; simp at h
  | cons e t ih =>
    intro h
    rw [rkF] at h ⊢
    split
    · rename_i hfe
      rw [if_pos hfe] at h
      have := ih (by simpa using h)
      simpa [List.getD] using this
    · rename_i hfe
      simpa [List.getD] using hfe
def putE (E : List Int) (k : Nat) (t : Int) : List Int := if k = E.length then E ++ [t] else E.set k t
section
variable (F T O : List Int)
def ixO (t : Nat) : Nat := (O.getD t 0).toNat
def roE : Nat → List Int
  | 0 => []
  | t + 1 => putE (roE t) (rkF (F.getD (ixO O t) 0) (roE t)) (T.getD (ixO O t) 0)
def roOut (z : Int) (n : Nat) : Nat → List Int
  | 0 => List.replicate n z
  | t + 1 => (roOut z n t).set (ixO O t) ((rkF (F.getD (ixO O t) 0) (roE F T O t) : Nat) : Int)
theorem roOut_len (z : Int) (n : Nat) : ∀ t, (roOut F T O z n t).length = n := by
  intro t
  induction t with
  | zero => simp [roOut]
  | succ t ih => rw [roOut, List.length_set, ih]
theorem roE_len : ∀ t, (roE F T O t).length ≤ t := by
  intro t
  induction t with
  | zero => simp [roE]
  | succ t ih =>
    rw [roE, putE]
    split <;> simp <;> omega
theorem roE_lenS (t : Nat) : (roE F T O (t + 1)).length = max (roE F T O t).length (rkF (F.getD (ixO O t) 0) (roE F T O t) + 1) := by
  have h1 := rkF_le (F.getD (ixO O t) 0) (roE F T O t)
  rw [roE, putE]
  generalize rkF (F.getD (ixO O t) 0) (roE F T O t) = k at *
  split
  · rw [List.length_append, List.length_singleton]; omega
  · rw [List.length_set]; omega
end
theorem roOut_rng {F T O : List Int} {n : Nat} {z : Int} (hz : -1 ≤ z) (hz2 : z ≤ 0) : ∀ t, ∀ y ∈ roOut F T O z n t, -1 ≤ y ∧ y ≤ (t : Int) := by
  intro t
  induction t with
  | zero => intro y hy; rw [roOut] at hy; have := List.eq_of_mem_replicate hy; omega
  | succ t ih =>
    intro y hy
    rw [roOut] at hy
    rcases List.mem_or_eq_of_mem_set hy with hy | rfl
    · have := ih y hy; omega
    · have h1 := rkF_le (F.getD (ixO O t) 0) (roE F T O t)
      have h2 := roE_len F T O t
      omega
theorem set_at (zs : List Int) (p q : Nat) (x : Int) (hq : p < zs.length) : (zs.set p x).getD q 0 = if q = p then x else zs.getD q 0 := at0_set zs p q x hq
theorem roE_rng {F T O : List Int} {n : Nat} (hT : ∀ j, j < n → 0 ≤ T.getD j 0 ∧ T.getD j 0 ≤ 100000) (hO : ∀ t, t < n → ixO O t < n) : ∀ t, t ≤ n → ∀ e ∈ roE F T O t, 0 ≤ e ∧ e ≤ 100000 := by
  intro t
  induction t with
  | zero => intro _ e he; simp [roE] at he
  | succ t ih =>
    intro ht e he
    have hi := hT _ (hO t (by omega))
    rw [roE, putE] at he
    split at he
    · rcases List.mem_append.1 he with he | he
      · exact ih (by omega) e he
      · rw [List.mem_singleton] at he; subst he; exact hi
    · rcases List.mem_or_eq_of_mem_set he with he | rfl
      · exact ih (by omega) e he
      · exact hi
/-- what is known when t spans lie in rooms -/
structure RoInv (F T O : List Int) (n t : Nat) : Prop where
  i1 : ∀ j, j < n → (roOut F T O (-1) n t).getD j 0 = -1 ∨ ∃ r, r < (roE F T O t).length ∧ (roOut F T O (-1) n t).getD j 0 = (r : Int) ∧ T.getD j 0 ≤ (roE F T O t).getD r 0 ∧ ∃ s, s < t ∧ ixO O s = j
  i2 : ∀ r, r < (roE F T O t).length → ∃ j, j < n ∧ (roOut F T O (-1) n t).getD j 0 = (r : Int) ∧ T.getD j 0 = (roE F T O t).getD r 0
structure RoHyp (F T O : List Int) (n : Nat) : Prop where
  lt : ∀ t, t < n → ixO O t < n
  inj : ∀ s t, s < n → t < n → ixO O s = ixO O t → s = t
  up : ∀ s t, s < t → t < n → F.getD (ixO O s) 0 ≤ F.getD (ixO O t) 0
  pos : ∀ j, j < n → F.getD j 0 < T.getD j 0
theorem roInv {F T O : List Int} {n : Nat} (h : RoHyp F T O n) : ∀ t, t ≤ n → RoInv F T O n t := by
  intro t
  induction t with
  | zero =>
    intro _
    refine ⟨fun j hj => .inl ?_, fun r hr => by simp [roE] at hr⟩
    simp [roOut, List.getD, hj]
  | succ t ih =>
    intro ht
    obtain ⟨i1, i2⟩ := ih (by omega)
    obtain ⟨i, hi⟩ : ∃ i, i = ixO O t := ⟨_, rfl⟩
    obtain ⟨E, hE⟩ : ∃ E, E = roE F T O t := ⟨_, rfl⟩
    obtain ⟨k, hk⟩ : ∃ k, k = rkF (F.getD i 0) E := ⟨_, rfl⟩
    have hin : i < n := by rw [hi]; exact h.lt t (by omega)
    have hkl : k ≤ E.length := by rw [hk]; exact rkF_le _ _
    have hO : roOut F T O (-1) n (t + 1) = (roOut F T O (-1) n t).set i (k : Int) := by rw [roOut, ← hi, ← hE, ← hk]
    have hE2 : roE F T O (t + 1) = putE E k (T.getD i 0) := by rw [roE, ← hi, ← hE, ← hk]
    have hol := roOut_len F T O (-1) n t
    have hg : ∀ j, (roOut F T O (-1) n (t + 1)).getD j 0 = if j = i then (k : Int) else (roOut F T O (-1) n t).getD j 0 := fun j => by rw [hO, set_at _ _ _ _ (by omega)]
    have hfresh : (roOut F T O (-1) n t).getD i 0 = -1 := by
      rcases i1 i hin with e | ⟨r, _, _, _, s, s1, s2⟩
      · exact e
      · have := h.inj s t (by omega) (by omega) (by rw [s2, hi])
        omega
    rw [← hE] at i1 i2
    have hpos := h.pos i hin
    have hEk : ∀ r, (roE F T O (t + 1)).getD r 0 = if r = k then T.getD i 0 else E.getD r 0 := fun r => by
      rw [hE2, putE]
      by_cases hke : k = E.length
      · rw [if_pos hke]
        by_cases hr : r = k
        · rw [if_pos hr, hr, hke]; simp [List.getD]
        · rw [if_neg hr]
          simp only [List.getD]
          by_cases hrl : r < E.length
          · rw [List.getElem?_append_left hrl]
          · rw [List.getElem?_append_right (by omega), List.getElem?_eq_none (by simp; omega), List.getElem?_eq_none (by omega)]
      · rw [if_neg hke, set_at _ _ _ _ (by omega)]
    have hEl : (roE F T O (t + 1)).length = max E.length (k + 1) := by
      rw [hE2, putE]
      split <;> simp <;> omega
    have hfree : k < E.length → E.getD k 0 ≤ F.getD i 0 := fun hlt => by
      have := rkF_at (F.getD i 0) E (by rw [← hk]; exact hlt)
      rw [← hk] at this
      omega
    refine ⟨fun j hj => ?_, fun r hr => ?_⟩
    · rw [hg]
      by_cases hji : j = i
      · rw [if_pos hji]
        refine .inr ⟨k, by omega, rfl, ?_, t, Nat.lt_succ_self _, by rw [hji, hi]⟩
        rw [hEk, if_pos rfl, hji]; exact Int.le_refl _
      · rw [if_neg hji]
        rcases i1 j hj with e | ⟨r, r1, r2, r3, s, s1, s2⟩
        · exact .inl e
        · refine .inr ⟨r, by omega, r2, ?_, s, by omega, s2⟩
          rw [hEk]
          by_cases hrk : r = k
          · rw [if_pos hrk]
            have := hfree (by omega)
            rw [← hrk] at this
            omega
          · rw [if_neg hrk]; exact r3
    · by_cases hrk : r = k
      · refine ⟨i, hin, by rw [hg, if_pos rfl, hrk], by rw [hEk, if_pos hrk]⟩
      · obtain ⟨j, j1, j2, j3⟩ := i2 r (by omega)
        have hji : j ≠ i := fun e => by rw [e, hfresh] at j2; omega
        exact ⟨j, j1, by rw [hg, if_neg hji]; exact j2, by rw [hEk, if_neg hrk]; exact j3⟩
/-- a room has a span that meets the one at hand just if its last end lies behind that one's begin -/
theorem room_meet {F T O : List Int} {n t : Nat} (h : RoHyp F T O n) (ht : t < n) (r : Nat) :
    (∃ j, j < n ∧ (roOut F T O (-1) n t).getD j 0 = (r : Int) ∧ F.getD j 0 < T.getD (ixO O t) 0 ∧ F.getD (ixO O t) 0 < T.getD j 0) ↔ r < (roE F T O t).length ∧ F.getD (ixO O t) 0 < (roE F T O t).getD r 0 := by
  obtain ⟨i1, i2⟩ := roInv h t (by omega)
  have hpos := h.pos _ (h.lt t ht)
  constructor
  · rintro ⟨j, j1, j2, j3, j4⟩
    rcases i1 j j1 with e | ⟨r', r1, r2, r3, _⟩
    · rw [e] at j2; omega
    · have : r' = r := by rw [r2] at j2; omega
      subst this
      exact ⟨r1, by omega⟩
  · rintro ⟨r1, r2⟩
    obtain ⟨j, j1, j2, j3⟩ := i2 r r1
    refine ⟨j, j1, j2, ?_, by omega⟩
    rcases i1 j j1 with e | ⟨_, _, _, _, s, s1, s2⟩
    · rw [e] at j2; omega
    · have := h.up s t s1 ht
      rw [s2] at this
      omega
theorem roOut_same {F T O : List Int} {n : Nat} (h : RoHyp F T O n) : ∀ t, t ≤ n → ∀ s, s < t → (roOut F T O 0 n t).getD (ixO O s) 0 = (roOut F T O (-1) n t).getD (ixO O s) 0 := by
  intro t
  induction t with
  | zero => intro _ s hs; omega
  | succ t ih =>
    intro ht s hs
    have hin := h.lt t (by omega)
    rw [roOut, roOut, set_at _ _ _ _ (by rw [roOut_len]; exact hin), set_at _ _ _ _ (by rw [roOut_len]; exact hin)]
    by_cases e : ixO O s = ixO O t
    · rw [if_pos e, if_pos e]
    · rw [if_neg e, if_neg e]
      exact ih (by omega) s (by
        have : s ≠ t := fun h => e (by rw [h])
        omega)
theorem roOut_all {F T O : List Int} {n : Nat} (h : RoHyp F T O n) (hall : ∀ j, j < n → ∃ s, s < n ∧ ixO O s = j) : roOut F T O 0 n n = roOut F T O (-1) n n := by
  refine List.ext_getElem (by rw [roOut_len, roOut_len]) fun j h1 h2 => ?_
  obtain ⟨s, s1, s2⟩ := hall j (by rw [roOut_len] at h1; exact h1)
  have := roOut_same h n (Nat.le_refl _) s s1
  rw [s2] at this
  simpa [List.getD, h1, h2] using this
/-! ### Of spans -/
def froms (ss : List SpanD) : List Int := ss.map SpanD.x0
def tos (ss : List SpanD) : List Int := ss.map SpanD.x1
def ordS (ss : List SpanD) : List Int := ordTo (keyLt (froms ss)) ss.length
def roomsOf (ss : List SpanD) : List Int × Int × Bool :=
  if areSpans ss = true then (roOut (froms ss) (tos ss) (ordS ss) 0 ss.length ss.length, (((roE (froms ss) (tos ss) (ordS ss) ss.length).length : Nat) : Int), true) else ([], 0, false)
theorem froms_at (ss : List SpanD) {i : Nat} (h : i < ss.length) : (froms ss).getD i 0 = ss[i].x0 := by simp [froms, List.getD, h]
theorem tos_at (ss : List SpanD) {i : Nat} (h : i < ss.length) : (tos ss).getD i 0 = ss[i].x1 := by simp [tos, List.getD, h]
theorem areSpans_out {ss : List SpanD} (h : areSpans ss = true) : 1 ≤ ss.length ∧ ss.length ≤ 64 ∧ ∀ s ∈ ss, okSpan s = true := by
  unfold areSpans at h
  rw [Bool.and_eq_true, List.all_eq_true, inB_iff] at h
  exact ⟨by omega, by omega, h.2⟩
theorem ordS_facts (ss : List SpanD) : (ordS ss).length = ss.length ∧ (∀ t, t < ss.length → ixO (ordS ss) t < ss.length ∧ (ordS ss).getD t 0 = ((ixO (ordS ss) t : Nat) : Int)) ∧ (∀ s t, s < ss.length → t < ss.length → ixO (ordS ss) s = ixO (ordS ss) t → s = t) ∧ (∀ s t, s < t → t < ss.length → (froms ss).getD (ixO (ordS ss) s) 0 ≤ (froms ss).getD (ixO (ordS ss) t) 0) ∧ ∀ j, j < ss.length → ∃ s, s < ss.length ∧ ixO (ordS ss) s = j := by
  have hl : (ordS ss).length = ss.length := ordTo_len _ _
  obtain ⟨o1, o2⟩ := ordTo_lex (fun x => (froms ss).getD x.toNat 0) (keyLt (froms ss)) (fun x y => rfl) ss.length
  have hg : ∀ t (h : t < ss.length), (ordS ss).getD t 0 = (ordS ss)[t]'(by omega) := fun t h => by simp [List.getD, show t < (ordS ss).length by omega]
  have hr : ∀ t, t < ss.length → 0 ≤ (ordS ss).getD t 0 ∧ (ordS ss).getD t 0 < (ss.length : Int) := fun t h => by
    rw [hg t h]; exact (o2 _).1 (List.getElem_mem _)
  have hx : ∀ t, t < ss.length → (ordS ss).getD t 0 = ((ixO (ordS ss) t : Nat) : Int) := fun t h => by have := hr t h; unfold ixO; omega
  have hp := List.pairwise_iff_getElem.1 o1
  refine ⟨hl, fun t h => ⟨by have := hr t h; have := hx t h; omega, hx t h⟩, fun s t hs ht e => ?_, fun s t hst ht => ?_, fun j hj => ?_⟩
  · have e2 : (ordS ss)[s]'(by omega) = (ordS ss)[t]'(by omega) := by rw [← hg s hs, ← hg t ht, hx s hs, hx t ht, e]
    rcases Nat.lt_trichotomy s t with g | g | g
    · exact absurd (e2 ▸ hp s t (by rw [← hl] at hs; exact hs) (by rw [← hl] at ht; exact ht) g) (fun h => lex_ne (hp s t (by rw [← hl] at hs; exact hs) (by rw [← hl] at ht; exact ht) g) e2)
    · exact g
    · exact absurd e2.symm (lex_ne (hp t s (by rw [← hl] at ht; exact ht) (by rw [← hl] at hs; exact hs) g))
  · have hs : s < ss.length := by omega
    have := hp s t (by rw [← hl] at hs; exact hs) (by rw [← hl] at ht; exact ht) hst
    have e1 : (ordS ss)[s]'(by omega) = ((ixO (ordS ss) s : Nat) : Int) := by rw [← hg s hs, hx s hs]
    have e2 : (ordS ss)[t]'(by omega) = ((ixO (ordS ss) t : Nat) : Int) := by rw [← hg t ht, hx t ht]
    have h3 : LexLt (fun x : Int => (froms ss).getD x.toNat 0) ((ixO (ordS ss) s : Nat) : Int) ((ixO (ordS ss) t : Nat) : Int) := by rw [← e1, ← e2]; exact this
    unfold LexLt at h3
    simp only [Int.toNat_natCast] at h3
    omega
  · have hm : (j : Int) ∈ ordS ss := (o2 _).2 ⟨by omega, by omega⟩
    obtain ⟨s, s1, s2⟩ := List.mem_iff_getElem.1 hm
    have hs : s < ss.length := by omega
    refine ⟨s, hs, ?_⟩
    have := hx s hs
    rw [hg s hs, s2] at this
    omega
theorem spans_hyp {ss : List SpanD} (h : areSpans ss = true) : RoHyp (froms ss) (tos ss) (ordS ss) ss.length := by
  obtain ⟨a1, a2, a3, a4, _⟩ := ordS_facts ss
  refine ⟨fun t ht => (a2 t ht).1, a3, a4, fun j hj => ?_⟩
  rw [froms_at ss hj, tos_at ss hj]
  exact (okSpan_bounds ((areSpans_out h).2.2 _ (List.getElem_mem hj))).2.2.1
end Go.Proofs.Ytkankfdpodofjaa
