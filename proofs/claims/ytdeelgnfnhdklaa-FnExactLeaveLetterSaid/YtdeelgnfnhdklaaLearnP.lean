/-
  LearnFrom: plain laws.
-/
import Derived.Test.YtdeelgnfnhdklaaJoin
import Derived.Test.YtdeelgnfnhdklaaProof
namespace Go.Proofs.Ytdeelgnfnhdklaa
open Go.RowKit
set_option linter.unusedVariables false

theorem giveRest_nil_mem {kn c : List Int} (h : giveRest kn c = []) {l : Int} (hl : l ∈ c) : -l ∈ kn := by
  rw [giveRest, List.filter_eq_nil_iff] at h
  have h1 := h l hl
  rw [← hasI_iff]
  simpa using h1
theorem giveRest_one_mem {kn c : List Int} {y : Int} (h : giveRest kn c = [y]) {l : Int} (hl : l ∈ c) (hn : l ≠ y) : -l ∈ kn := by
  rw [← hasI_iff]
  refine Classical.byContradiction fun hh => hn ?_
  have h1 : l ∈ giveRest kn c := by
    rw [giveRest, List.mem_filter]
    exact ⟨hl, by simpa using hh⟩
  rw [h] at h1
  simpa using h1
/-- the reasons of what is known -/
structure UnitsWhy (cs : List (List Int)) (U : UnitD) : Prop where
  why : ∀ k, k < U.known.length → 0 ≤ U.why.getD k 0 → ∀ l ∈ cs.getD (U.why.getD k 0).toNat [], l ≠ U.known.getD k 0 → -l ∈ U.known
  wrong : 0 ≤ U.wrong → ∀ l ∈ cs.getD U.wrong.toNat [], -l ∈ U.known
theorem getD_app {α : Type} (a b : List α) (k : Nat) (d : α) (h : k < a.length) : (a ++ b).getD k d = a.getD k d := by
  simp only [List.getD, List.getElem?_append_left h]
theorem getD_app_last {α : Type} (a : List α) (x d : α) : (a ++ [x]).getD a.length d = x := by simp [List.getD]
theorem unitsGo_why {L : Int} {cs : List (List Int)} (hcl : ∀ c ∈ cs, ∀ x ∈ c, isLit L x = true) : ∀ (n : Nat) (kn by_ : List Int), by_.length = kn.length →
    (∀ k, k < kn.length → 0 ≤ by_.getD k 0 → ∀ l ∈ cs.getD (by_.getD k 0).toNat [], l ≠ kn.getD k 0 → -l ∈ kn) → UnitsWhy cs (unitsGo cs n kn by_) := by
  intro n
  induction n with
  | zero => intro kn by_ h1 h2; exact ⟨h2, fun h => absurd h (show ¬ (0 : Int) ≤ -1 by decide)⟩
  | succ n ih =>
    intro kn by_ h1 h2
    obtain ⟨s1, s2⟩ := scan_spec kn cs cs.length 0 (-1) 0 (by omega) (.inl (by omega))
    rw [unitsGo]
    split
    · rename_i h0
      refine ⟨h2, fun _ l hl => ?_⟩
      rcases s1 with s1 | ⟨j, hj, s1, s3, s4⟩
      · rw [s1] at h0; omega
      · have hl' : l ∈ cs.getD (scanU kn cs cs.length 0 (-1) 0).1.toNat [] := hl
        rw [s1, Int.toNat_natCast, getD_get hj] at hl'
        exact giveRest_nil_mem s4 hl'
    · split
      · exact ⟨h2, fun h => absurd h (show ¬ (0 : Int) ≤ -1 by decide)⟩
      · rename_i h4
        rcases s2 with ⟨s2, _⟩ | ⟨j, e, hj, hd, hr⟩
        · exact absurd s2 h4
        · refine ih _ _ (by simp [h1]) fun k hk hw l hl hne => ?_
          rw [List.length_append] at hk
          by_cases hkl : k < kn.length
          · rw [getD_app _ _ _ _ (by omega)] at hw hl
            rw [getD_app _ _ _ _ hkl] at hne
            exact List.mem_append.2 (.inl (h2 k hkl hw l hl hne))
          · have hk2 : k = kn.length := by simp at hk; omega
            rw [hk2, getD_app_last] at hne
            rw [hk2, ← h1, getD_app_last, e, Int.toNat_natCast, getD_get hj] at hl
            exact List.mem_append.2 (.inl (giveRest_one_mem hr hl hne))
theorem replicate_neg (n k : Nat) (h : k < n) : (List.replicate n (-1 : Int)).getD k 0 = -1 := by
  rw [List.getD_eq_getElem?_getD, List.getElem?_replicate, if_pos h]; rfl
theorem unitsF_why {L : Int} {cs : List (List Int)} {g : List Int} (hcl : ∀ c ∈ cs, ∀ x ∈ c, isLit L x = true) : UnitsWhy cs (unitsF cs g) :=
  unitsGo_why hcl _ _ _ (by simp) fun k hk hw => by rw [replicate_neg _ _ hk] at hw; omega

/-! ### Where an element lies first -/
def posI : List Int → Int → Nat
  | [], _ => 0
  | y :: r, x => if y = x then 0 else posI r x + 1
theorem posI_spec {L : List Int} {x : Int} (h : x ∈ L) : posI L x < L.length ∧ L.getD (posI L x) 0 = x ∧ ∀ j, j < posI L x → L.getD j 0 ≠ x := by
  induction L with
  | nil => simp at h
  | cons y r ih =>
    rw [posI]
    split
    · rename_i e; subst e
      exact ⟨by simp, by simp [List.getD], fun j hj => by omega⟩
    · rename_i hne
      have h' : x ∈ r := by
        rcases List.mem_cons.1 h with e | h'
        · exact absurd e.symm hne
        · exact h'
      obtain ⟨h1, h2, h3⟩ := ih h'
      refine ⟨by simp; omega, by simpa [List.getD] using h2, fun j hj => ?_⟩
      cases j with
      | zero => simpa [List.getD] using hne
      | succ j => simpa [List.getD] using h3 j (by omega)
theorem Cons.getD_ne {L : Int} {kn : List Int} (h : Cons L kn) {i j : Nat} (hi : i < kn.length) (hj : j < kn.length) (hne : i ≠ j) : absI (kn.getD i 0) ≠ absI (kn.getD j 0) := by
  have e : ∀ k (hk : k < kn.length), kn.getD k 0 = kn[k] := fun k hk => by simp [List.getD, hk]
  rw [e i hi, e j hj]
  rcases Nat.lt_or_gt_of_ne hne with h1 | h1
  · exact List.pairwise_iff_getElem.1 h.2 i j hi hj h1
  · exact Ne.symm (List.pairwise_iff_getElem.1 h.2 j i hj hi h1)

/-! ### The literals that are looked at -/
def hasL (lk : List Int) (a : Int) : Bool := lk.any fun y => absI y == a
def learnAdd (x : Int) : List Int → List Int → List Int
  | lk, [] => lk
  | lk, l :: r => learnAdd x (if (l == -x) || hasI lk l then lk else lk ++ [l]) r
def learnGo (cs : List (List Int)) (U : UnitD) : Nat → Nat → List Int → List Int → List Int
  | 0, _, _, out => out
  | n + 1, i, lk, out =>
    if i < lk.length then
      if U.why.getD (posI U.known (-(lk.getD i 0))) 0 < 0 then learnGo cs U n (i + 1) lk (out ++ [lk.getD i 0])
      else learnGo cs U n (i + 1) (learnAdd (lk.getD i 0) lk (cs.getD (U.why.getD (posI U.known (-(lk.getD i 0))) 0).toNat [])) out
    else out
def learnOut (cs : List (List Int)) (U : UnitD) : List Int := learnGo cs U 11 0 (cs.getD U.wrong.toNat []) []
def learnF (f : FormD) (g : List Int) : List Int × Bool :=
  if validForm f && litsGo f.letters [] g then
    if (unitsF f.clauses g).wrong < 0 then ([], false) else (srtL (learnOut f.clauses (unitsF f.clauses g)), true)
  else ([], false)
structure LkOk (L : Int) (kn lk : List Int) : Prop where
  opp : ∀ l ∈ lk, -l ∈ kn
  cons : Cons L lk
theorem known_letter {L : Int} {kn : List Int} (h : Cons L kn) {x y : Int} (hx : -x ∈ kn) (hy : -y ∈ kn) (e : absI x = absI y) : x = y := by
  rcases (absI_eq x y).1 e with e | e
  · exact e
  · subst e
    exact absurd (show False from h.not_both hy hx) id
section
variable {L : Int} {kn lk : List Int}
theorem LkOk.snoc (hk : Cons L kn) (h : LkOk L kn lk) {l : Int} (hl : -l ∈ kn) (hn : hasI lk l = false) : LkOk L kn (lk ++ [l]) := by
  refine ⟨fun y hy => ?_, h.cons.snoc ?_ ((hasI_false _ _).1 hn) fun hm => ?_⟩
  · rcases List.mem_append.1 hy with hy | hy
    · exact h.opp y hy
    · rw [List.mem_singleton] at hy; rw [hy]; exact hl
  · have h1 := isLit_neg (hk.1 _ hl); rwa [Int.neg_neg] at h1
  · have h1 := h.opp _ hm
    exact hk.not_both hl h1
theorem LkOk.seen (hk : Cons L kn) (h : LkOk L kn lk) {l : Int} (hl : -l ∈ kn) : hasL lk (absI l) = hasI lk l := by
  have h1 : hasL lk (absI l) = true ↔ hasI lk l = true := by
    rw [hasI_iff, hasL, List.any_eq_true]
    constructor
    · rintro ⟨y, hy, e⟩
      have e' : absI y = absI l := by simpa using e
      rw [known_letter hk hl (h.opp y hy) e'.symm]; exact hy
    · intro hm; exact ⟨l, hm, by simp⟩
  cases h2 : hasI lk l
  · cases h3 : hasL lk (absI l)
    · rfl
    · rw [h1.1 h3] at h2; cases h2
  · exact h1.2 h2
end
/-- the clause that is looked through may be put behind -/
def OppOk (kn : List Int) (x : Int) (c : List Int) : Prop := ∀ l ∈ c, l ≠ -x → -l ∈ kn
theorem learnAdd_ok {L : Int} {kn : List Int} (hk : Cons L kn) {x : Int} (c : List Int) : ∀ lk, LkOk L kn lk → OppOk kn x c → LkOk L kn (learnAdd x lk c) := by
  induction c with
  | nil => intro lk h _; exact h
  | cons l r ih =>
    intro lk h ho
    rw [learnAdd]
    refine ih _ ?_ fun y hy => ho y (List.mem_cons_of_mem _ hy)
    split
    · exact h
    · rename_i hn
      have hn' : ((l == -x) || hasI lk l) = false := by simpa using hn
      rw [Bool.or_eq_false_iff] at hn'
      exact h.snoc hk (ho l (by simp) (by simpa using hn'.1)) hn'.2
theorem learnAdd_pre (x : Int) (c : List Int) : ∀ lk, ∃ t, learnAdd x lk c = lk ++ t := by
  induction c with
  | nil => intro lk; exact ⟨[], by simp [learnAdd]⟩
  | cons l r ih =>
    intro lk
    rw [learnAdd]
    obtain ⟨t, ht⟩ := ih (if (l == -x) || hasI lk l then lk else lk ++ [l])
    rw [ht]
    split
    · exact ⟨t, rfl⟩
    · exact ⟨l :: t, by simp⟩
/-- how it stands at a round -/
structure LearnInv (L : Int) (kn lk : List Int) (i : Nat) (out : List Int) : Prop where
  ok : LkOk L kn lk
  le : i ≤ lk.length
  sub : out.Sublist (lk.take i)
section
variable {L : Int} {kn lk out : List Int} {i : Nat}
theorem LearnInv.dist (h : LearnInv L kn lk i out) : Cons L out := ⟨fun x hx => h.ok.cons.1 x (List.mem_of_mem_take (h.sub.subset hx)), (h.ok.cons.2.sublist (List.take_sublist _ _)).sublist h.sub⟩
theorem LearnInv.take (h : LearnInv L kn lk i out) (hi : i < lk.length) : LearnInv L kn lk (i + 1) (out ++ [lk.getD i 0]) := by
  refine ⟨h.ok, hi, ?_⟩
  have e : lk.getD i 0 = lk[i] := by simp [List.getD, hi]
  rw [e, List.take_succ_eq_append_getElem hi]
  exact List.Sublist.append h.sub (List.Sublist.refl _)
theorem LearnInv.add (hk : Cons L kn) (h : LearnInv L kn lk i out) (hi : i < lk.length) {x : Int} {c : List Int} (ho : OppOk kn x c) : LearnInv L kn (learnAdd x lk c) (i + 1) out := by
  obtain ⟨t, ht⟩ := learnAdd_pre x c lk
  refine ⟨learnAdd_ok hk c lk h.ok ho, by rw [ht, List.length_append]; omega, ?_⟩
  rw [ht, List.take_append_of_le_length hi]
  rw [List.take_succ_eq_append_getElem hi]
  exact h.sub.trans (List.sublist_append_left _ _)
theorem LearnInv.fresh (h : LearnInv L kn lk i out) (hi : i < lk.length) : ∀ y ∈ out, absI y ≠ absI (lk.getD i 0) := by
  intro y hy
  obtain ⟨k, hk, e⟩ := List.mem_iff_getElem.1 (h.sub.subset hy)
  rw [List.length_take] at hk
  have e2 : y = lk.getD k 0 := by rw [← e, List.getElem_take]; simp [List.getD, show k < lk.length by omega]
  rw [e2]
  exact h.ok.cons.getD_ne (by omega) hi (by omega)
end
theorem learn_take {cs : List (List Int)} {U : UnitD} {i : Nat} {lk out : List Int} (h11 : lk.length ≤ 10) (hi : i < lk.length) (hw : U.why.getD (posI U.known (-(lk.getD i 0))) 0 < 0) :
    learnGo cs U (11 - i) i lk out = learnGo cs U (11 - (i + 1)) (i + 1) lk (out ++ [lk.getD i 0]) := by
  rw [show 11 - i = (11 - (i + 1)) + 1 by omega, learnGo, if_pos hi, if_pos hw]
theorem learn_add {cs : List (List Int)} {U : UnitD} {i : Nat} {lk out : List Int} (h11 : lk.length ≤ 10) (hi : i < lk.length) (hw : ¬ U.why.getD (posI U.known (-(lk.getD i 0))) 0 < 0) :
    learnGo cs U (11 - i) i lk out = learnGo cs U (11 - (i + 1)) (i + 1) (learnAdd (lk.getD i 0) lk (cs.getD (U.why.getD (posI U.known (-(lk.getD i 0))) 0).toNat [])) out := by
  rw [show 11 - i = (11 - (i + 1)) + 1 by omega, learnGo, if_pos hi, if_neg hw]
theorem learn_end {cs : List (List Int)} {U : UnitD} {n i : Nat} {lk out : List Int} (hi : ¬ i < lk.length) : learnGo cs U n i lk out = out := by
  cases n with
  | zero => rfl
  | succ n => rw [learnGo, if_neg hi]
theorem srtL_put {out : List Int} {x : Int} (hr : Dist out) (hf : ∀ y ∈ out, absI y ≠ absI x) : joinN (srtL out) x = (srtL (out ++ [x]), true) := by
  rw [joinN_no fun y hy => hf y ((srtL_mem out y).1 hy), srtL_snoc]
/-- the clause of a known literal that was not given -/
theorem why_clause {L : Int} {cs : List (List Int)} {g : List Int} {U : UnitD} (hu : UnitsOk L cs g U) (hy : UnitsWhy cs U) {x : Int} (hx : -x ∈ U.known) (h0 : ¬ U.why.getD (posI U.known (-x)) 0 < 0) :
    ∃ j, ∃ h : j < cs.length, U.why.getD (posI U.known (-x)) 0 = (j : Int) ∧ OppOk U.known x cs[j] := by
  obtain ⟨p1, p2, p3⟩ := posI_spec hx
  have hlt : posI U.known (-x) < U.why.length := by rw [hu.len]; exact p1
  have hm : U.why.getD (posI U.known (-x)) 0 ∈ U.why := by simp [List.getD, hlt]
  have hr := hu.why _ hm
  obtain ⟨j, hj⟩ := Int.eq_ofNat_of_zero_le (show 0 ≤ U.why.getD (posI U.known (-x)) 0 by omega)
  have hjl : j < cs.length := by omega
  refine ⟨j, hjl, hj, fun l hl hne => ?_⟩
  refine hy.why _ p1 (by omega) l ?_ (by rw [p2]; exact hne)
  rw [hj, Int.toNat_natCast, getD_get hjl]; exact hl
end Go.Proofs.Ytdeelgnfnhdklaa
