/-
  What two clauses tell without a letter: plain laws.
-/
import Derived.Test.YtcpbgjnijhcpkaaByLetter
import Derived.Test.YtcpbgjnijhcpkaaProof
namespace Go.Proofs.Ytcpbgjnijhcpkaa
open Go.RowKit
set_option linter.unusedVariables false
set_option maxRecDepth 100000

def joinAt (x : Int) : List Int → Nat
  | [] => 0
  | c :: r => if absI c < absI x then joinAt x r + 1 else 0
def joinN (S : List Int) (x : Int) : List Int × Bool :=
  if joinAt x S < S.length ∧ absI (S.getD (joinAt x S) 0) = absI x then (S, S.getD (joinAt x S) 0 == x) else (S.take (joinAt x S) ++ [x] ++ S.drop (joinAt x S), true)
theorem joinAt_le (x : Int) (S : List Int) : joinAt x S ≤ S.length := by
  induction S with
  | nil => exact Nat.le_refl _
  | cons c r ih => rw [joinAt]; split <;> simp; omega
theorem joinAt_eq {x : Int} {S : List Int} {k : Nat} (hk : k ≤ S.length) (h1 : ∀ j, j < k → absI (S.getD j 0) < absI x) (h2 : k < S.length → ¬ absI (S.getD k 0) < absI x) : joinAt x S = k := by
  induction S generalizing k with
  | nil => simp at hk; subst hk; rfl
  | cons c r ih =>
    rw [joinAt]
    cases k with
    | zero => have := h2 (by simp); rw [if_neg (by simpa [List.getD] using this)]
    | succ k =>
      have h0 := h1 0 (by omega)
      rw [if_pos (by simpa [List.getD] using h0), ih (by simpa using hk) (fun j hj => by have := h1 (j + 1) (by omega); simpa [List.getD] using this) (fun hl => by have := h2 (by simpa using hl); simpa [List.getD] using this)]
theorem joinN_put (x : Int) (S : List Int) : S.take (joinAt x S) ++ [x] ++ S.drop (joinAt x S) = insL x S := by
  induction S with
  | nil => rfl
  | cons c r ih =>
    rw [joinAt, insL]; split
    · rw [List.take_succ_cons, List.drop_succ_cons, ← ih]; rfl
    · rfl
theorem joinN_no {x : Int} {S : List Int} (h : ∀ y ∈ S, absI y ≠ absI x) : joinN S x = (insL x S, true) := by
  rw [joinN, if_neg (fun h' => h _ (getD_mem h'.1) h'.2), joinN_put]
theorem joinN_yes {x y : Int} {S : List Int} (hr : Ris S) (hy : y ∈ S) (hxy : absI y = absI x) : joinN S x = (S, y == x) := by
  obtain ⟨k, hk, rfl⟩ := List.mem_iff_getElem.1 hy
  have hg : ∀ j (hj : j < S.length), S.getD j 0 = S[j] := fun j hj => by simp [List.getD, hj]
  have e : joinAt x S = k := by
    refine joinAt_eq (by omega) (fun j hj => ?_) (fun _ => ?_)
    · rw [hg j (by omega), ← hxy]
      exact (List.pairwise_iff_getElem.1 hr) j k (by omega) hk hj
    · rw [hg k hk, hxy]; omega
  rw [joinN, e, hg k hk, if_pos ⟨hk, hxy⟩]
theorem joinN_mem {x : Int} {S : List Int} {y : Int} (h : y ∈ (joinN S x).1) : y = x ∨ y ∈ S := by
  unfold joinN at h
  split at h
  · exact .inr h
  · rw [joinN_put] at h; exact (insL_mem x S y).1 h
theorem joinN_len (x : Int) (S : List Int) : (joinN S x).1.length ≤ S.length + 1 := by
  unfold joinN
  split
  · simp
  · rw [joinN_put, insL_len]; exact Nat.le_refl _
def joinAll (l : Int) : List Int → List Int → List Int × Bool
  | S, [] => (S, true)
  | S, x :: r => if absI x = l then joinAll l S r else if (joinN S x).2 then joinAll l (joinN S x).1 r else ([], false)
def dedupGo (l : Int) : List Int → List Int → List Int
  | S, [] => S
  | S, x :: r => if absI x ≠ l ∧ hasI S x = false then dedupGo l (S ++ [x]) r else dedupGo l S r
def clash (a b : List Int) (l : Int) : Bool := (hasI a l && hasI b (-l)) || (hasI a (-l) && hasI b l)
def outOfL (l : Int) (a : List Int) : List Int := a.filter fun x => decide (absI x ≠ l)
theorem dedup_append (l : Int) (S xs ys : List Int) : dedupGo l S (xs ++ ys) = dedupGo l (dedupGo l S xs) ys := by
  induction xs generalizing S with
  | nil => rfl
  | cons x r ih => rw [List.cons_append, dedupGo, dedupGo]; split <;> exact ih _
theorem dist_ne {x : Int} {r : List Int} (h : Dist (x :: r)) : Dist r ∧ ∀ y ∈ r, absI x ≠ absI y := by
  unfold Dist at h; rw [List.pairwise_cons] at h; exact ⟨h.2, h.1⟩
theorem dedup_filter (l : Int) (xs S : List Int) (hd : Dist xs) : dedupGo l S xs = S ++ xs.filter fun x => decide (absI x ≠ l) && !hasI S x := by
  induction xs generalizing S with
  | nil => rw [dedupGo, List.filter_nil, List.append_nil]
  | cons x r ih =>
    obtain ⟨h1, h2⟩ := dist_ne hd
    rw [dedupGo, List.filter_cons]
    by_cases hx : absI x ≠ l ∧ hasI S x = false
    · have hc : (decide (absI x ≠ l) && !hasI S x) = true := by rw [hx.2]; simp [hx.1]
      rw [if_pos hx, if_pos hc, ih _ h1, List.append_assoc]
      congr 1
      rw [List.singleton_append]
      congr 1
      refine List.filter_congr fun y hy => ?_
      have hne : x ≠ y := fun e => h2 y hy (by rw [e])
      congr 2
      rw [Bool.eq_iff_iff, hasI_iff, hasI_iff]
      simp only [List.mem_append, List.mem_singleton]
      constructor
      · rintro (h | h)
        · exact h
        · exact absurd h.symm hne
      · exact .inl
    · have hc : (decide (absI x ≠ l) && !hasI S x) = false := by
        rw [Bool.and_eq_false_iff]
        by_cases h3 : absI x ≠ l
        · right
          cases hh : hasI S x
          · exact absurd ⟨h3, hh⟩ hx
          · rfl
        · left; simpa using h3
      rw [if_neg hx, if_neg (by rw [hc]; decide), ih _ h1]
def Conf (l : Int) (S b : List Int) : Prop := ∃ x ∈ b, absI x ≠ l ∧ -x ∈ S
theorem absI_same {x y : Int} (h : absI y = absI x) : y = x ∨ y = -x := (absI_eq y x).1 h
theorem joinAll_no (l : Int) (b S : List Int) (hr : Ris S) (hd : Dist b) (hn : ¬ Conf l S b) : joinAll l S b = ((b.filter fun x => decide (absI x ≠ l) && !hasI S x).foldl (fun S x => insL x S) S, true) := by
  induction b generalizing S with
  | nil => rfl
  | cons x r ih =>
    obtain ⟨h1, h2⟩ := dist_ne hd
    have hn' : ¬ Conf l S r := fun ⟨y, hy, h⟩ => hn ⟨y, by simp [hy], h⟩
    rw [joinAll, List.filter_cons]
    by_cases hx : absI x = l
    · rw [if_pos hx, if_neg (by simp [hx]), ih S hr h1 hn']
    · rw [if_neg hx]
      by_cases hm : x ∈ S
      · have hh : hasI S x = true := (hasI_iff S x).2 hm
        rw [joinN_yes hr hm rfl, if_pos (by simp), if_neg (by rw [hh]; simp), ih S hr h1 hn']
      · have hh : hasI S x = false := (hasI_false S x).2 hm
        have hnl : ∀ y ∈ S, absI y ≠ absI x := fun y hy e => by
          rcases absI_same e with rfl | rfl
          · exact hm hy
          · exact hn ⟨x, by simp, hx, hy⟩
        have hc : (decide (absI x ≠ l) && !hasI S x) = true := by rw [hh]; simp [hx]
        rw [joinN_no hnl, if_pos rfl, if_pos hc, List.foldl_cons, ih _ (insL_ris hr hnl) h1]
        · congr 2
          refine List.filter_congr fun y hy => ?_
          have hne : y ≠ x := fun e => h2 y hy (by rw [e])
          congr 2
          rw [Bool.eq_iff_iff, hasI_iff, hasI_iff, insL_mem]
          constructor
          · rintro (h | h)
            · exact absurd h hne
            · exact h
          · exact .inr
        · rintro ⟨y, hy, hyl, hyS⟩
          rcases (insL_mem x S (-y)).1 hyS with e | h
          · exact h2 y hy (by rw [← e, absI_neg])
          · exact hn' ⟨y, hy, hyl, h⟩
theorem joinAll_yes (l : Int) (b S : List Int) (hr : Ris S) (hd : Dist b) (hz : ∀ x ∈ b, x ≠ 0) (hc : Conf l S b) : joinAll l S b = ([], false) := by
  induction b generalizing S with
  | nil => obtain ⟨x, hx, _⟩ := hc; simp at hx
  | cons x r ih =>
    obtain ⟨h1, h2⟩ := dist_ne hd
    have hz' : ∀ y ∈ r, y ≠ 0 := fun y hy => hz y (by simp [hy])
    rw [joinAll]
    by_cases hx : absI x = l
    · rw [if_pos hx]
      refine ih S hr h1 hz' ?_
      obtain ⟨y, hy, hyl, hyS⟩ := hc
      rcases List.mem_cons.1 hy with rfl | hy
      · exact absurd hx hyl
      · exact ⟨y, hy, hyl, hyS⟩
    · rw [if_neg hx]
      by_cases hm : -x ∈ S
      · have h0 := hz x (by simp)
        have hb : (-x == x) = false := beq_eq_false_iff_ne.2 (by omega)
        rw [joinN_yes hr hm (absI_neg x), hb]; rfl
      · obtain ⟨y, hy, hyl, hyS⟩ := hc
        have hyr : y ∈ r := by
          rcases List.mem_cons.1 hy with rfl | hy
          · exact absurd hyS hm
          · exact hy
        by_cases hmx : x ∈ S
        · rw [joinN_yes hr hmx rfl, if_pos (by simp)]
          exact ih S hr h1 hz' ⟨y, hyr, hyl, hyS⟩
        · have hnl : ∀ y ∈ S, absI y ≠ absI x := fun z hzS e => by
            rcases absI_same e with e | e
            · exact hmx (by rw [← e]; exact hzS)
            · exact hm (by rw [← e]; exact hzS)
          rw [joinN_no hnl, if_pos rfl]
          exact ih _ (insL_ris hr hnl) h1 hz' ⟨y, hyr, hyl, (insL_mem _ _ _).2 (.inr hyS)⟩
/-- the program's resolvent, before it is tested -/
def resD (l : Int) (a b : List Int) : List Int := dedupGo l [] (a ++ b)
theorem resD_eq {l : Int} {a b : List Int} (ha : Dist a) (hb : Dist b) : resD l a b = outOfL l a ++ b.filter fun x => decide (absI x ≠ l) && !hasI (outOfL l a) x := by
  rw [resD, dedup_append, dedup_filter l a [] ha, List.nil_append]
  have : (a.filter fun x => decide (absI x ≠ l) && !hasI [] x) = outOfL l a := List.filter_congr fun x _ => by simp [hasI]
  rw [this, dedup_filter l b _ hb]
theorem clause_ris {L : Int} {c : List Int} (h : isClause L c = true) : Ris c := by
  rw [isClause, Bool.and_eq_true, rises_iff] at h
  exact h.2.2.1
theorem clause_of_ris {L : Int} {c : List Int} (hL : inB 1 10 L = true) (h1 : ∀ x ∈ c, isLit L x = true) (h2 : Ris c) : isClause L c = true := by
  rw [isClause, hL, Bool.true_and, rises_iff]
  exact ⟨h1, h2, fun x hx => (absI_le (h1 x hx)).1⟩
theorem clause_in {L : Int} {c : List Int} (h : isClause L c = true) : inB 1 10 L = true := by
  rw [isClause, Bool.and_eq_true] at h; exact h.1
theorem resD_mem {l : Int} {a b : List Int} (ha : Dist a) (hb : Dist b) {x : Int} (h : x ∈ resD l a b) : x ∈ a ∨ x ∈ b := by
  rw [resD_eq ha hb, List.mem_append, outOfL, List.mem_filter, List.mem_filter] at h
  rcases h with h | h
  · exact .inl h.1
  · exact .inr h.1
/-- both ways tell the same -/
theorem resolve_eq {L l : Int} {a b : List Int} (ha : isClause L a = true) (hb : isClause L b = true) :
    joinAll l (outOfL l a) b = if isClause L (insUp ltL (resD l a b).length (resD l a b)) then (insUp ltL (resD l a b).length (resD l a b), true) else ([], false) := by
  have hra := clause_ris ha
  have hrb := clause_ris hb
  have hda := hra.dist
  have hdb := hrb.dist
  have hro : Ris (outOfL l a) := List.Pairwise.sublist List.filter_sublist hra
  have hza : ∀ x ∈ a, isLit L x = true := clause_lits ha
  have hzb : ∀ x ∈ b, isLit L x = true := clause_lits hb
  have hz0 : ∀ x ∈ b, x ≠ 0 := fun x hx => (isLit_iff.1 (hzb x hx)).1
  by_cases hc : Conf l (outOfL l a) b
  · rw [joinAll_yes l b _ hro hdb hz0 hc, if_neg]
    intro hcl
    have h1 : Dist (insUp ltL (resD l a b).length (resD l a b)) := (clause_ris hcl).dist
    have h2 : Dist (resD l a b) := (insUp_perm ltL _ _ (Nat.le_refl _)).pairwise h1 (fun {x y} h => Ne.symm h)
    obtain ⟨x, hx, hxl, hxS⟩ := hc
    rw [resD_eq hda hdb] at h2
    unfold Dist at h2
    rw [List.pairwise_append] at h2
    have hn : hasI (outOfL l a) x = false := by
      rw [hasI_false]
      intro hm
      have := pairwise_mem (fun _ _ h => Ne.symm h) hro.dist x hm (-x) hxS (by have := hz0 x hx; omega)
      exact this (absI_neg x).symm
    exact h2.2.2 (-x) hxS x (by rw [List.mem_filter]; exact ⟨hx, by rw [hn]; simp [hxl]⟩) (absI_neg x)
  · have hD : Dist (resD l a b) := by
      rw [resD_eq hda hdb]
      unfold Dist
      rw [List.pairwise_append]
      refine ⟨hro.dist, List.Pairwise.sublist List.filter_sublist hdb, fun x hx y hy e => ?_⟩
      rw [List.mem_filter, Bool.and_eq_true, decide_eq_true_eq, Bool.not_eq_true', hasI_false] at hy
      rcases absI_same e with rfl | rfl
      · exact hy.2.2 hx
      · exact hc ⟨y, hy.1, hy.2.1, hx⟩
    rw [joinAll_no l b _ hro hdb hc, insUp_all_srt hD]
    have hs : (b.filter fun x => decide (absI x ≠ l) && !hasI (outOfL l a) x).foldl (fun S x => insL x S) (outOfL l a) = srtL (resD l a b) := by
      rw [resD_eq hda hdb, srtL, List.foldl_append]
      congr 1
      exact (srtL_id hro).symm
    rw [hs, if_pos]
    refine clause_of_ris (clause_in ha) (fun x hx => ?_) (srtL_ris hD)
    rcases resD_mem hda hdb ((srtL_mem _ _).1 hx) with h | h
    · exact hza x h
    · exact hzb x h
theorem resD_len {L l : Int} {a b : List Int} (ha : isClause L a = true) (hb : isClause L b = true) : (resD l a b).length ≤ (outOfL l a).length + (outOfL l b).length := by
  rw [resD_eq (clause_ris ha).dist (clause_ris hb).dist, List.length_append]
  have : (b.filter fun x => decide (absI x ≠ l) && !hasI (outOfL l a) x).length ≤ (outOfL l b).length := by
    rw [← List.countP_eq_length_filter]
    have e : (outOfL l b).length = b.countP fun x => decide (absI x ≠ l) := by rw [outOfL, List.countP_eq_length_filter]
    rw [e]
    exact List.countP_mono_left fun x _ h => by rw [Bool.and_eq_true] at h; exact h.1
  omega
theorem outOfL_len {L l : Int} {a : List Int} (ha : isClause L a = true) (h : ∃ x ∈ a, absI x = l) : (outOfL l a).length ≤ 9 := by
  have h1 : a.length ≤ 10 := (cons_clause ha).len (inB_true (clause_in ha)).2
  obtain ⟨x, hx, hxl⟩ := h
  have h2 : (outOfL l a).length < a.length := by
    rw [outOfL, List.length_filter_lt_length_iff_exists]
    exact ⟨x, hx, by simp [hxl]⟩
  omega
theorem clash_len {L l : Int} {a b : List Int} (hl : 1 ≤ l) (ha : isClause L a = true) (hb : isClause L b = true) (h : clash a b l = true) : (resD l a b).length ≤ 18 := by
  have e1 : absI l = l := by unfold absI; rw [if_neg (by omega)]
  have h1 := resD_len (l := l) ha hb
  rw [clash, Bool.or_eq_true, Bool.and_eq_true, Bool.and_eq_true] at h
  rcases h with ⟨h2, h3⟩ | ⟨h2, h3⟩
  · have h4 := outOfL_len (l := l) ha ⟨l, (hasI_iff _ _).1 h2, e1⟩
    have h5 := outOfL_len (l := l) hb ⟨-l, (hasI_iff _ _).1 h3, by rw [absI_neg, e1]⟩
    omega
  · have h4 := outOfL_len (l := l) ha ⟨-l, (hasI_iff _ _).1 h2, by rw [absI_neg, e1]⟩
    have h5 := outOfL_len (l := l) hb ⟨l, (hasI_iff _ _).1 h3, e1⟩
    omega
end Go.Proofs.Ytcpbgjnijhcpkaa
