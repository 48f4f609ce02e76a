/-
  Known literals by unit clauses: plain laws.
-/
import Derived.Test.YtcpbgjnijhcpkaaGive
import Derived.Test.YtcpbgjnijhcpkaaOwn2
namespace Go.Proofs.Ytcpbgjnijhcpkaa
open Go.RowKit
set_option linter.unusedVariables false
set_option maxRecDepth 100000

/-! ### Lists of literals of different letters -/
def Cons (L : Int) (kn : List Int) : Prop := (∀ x ∈ kn, isLit L x = true) ∧ kn.Pairwise (fun x y => absI x ≠ absI y)
theorem cons_of_lits {L : Int} {zs : List Int} (h : litsGo L [] zs = true) : Cons L zs := ⟨((lits_iff L [] zs).1 h).1, ((lits_iff L [] zs).1 h).2.1⟩
theorem pairwise_mem {R : Int → Int → Prop} (hs : ∀ x y, R x y → R y x) {l : List Int} (h : l.Pairwise R) : ∀ a ∈ l, ∀ b ∈ l, a ≠ b → R a b := by
  induction l with
  | nil => intro a ha; simp at ha
  | cons c r ih =>
    rw [List.pairwise_cons] at h
    intro a ha b hb hn
    rcases List.mem_cons.1 ha with ea | ha <;> rcases List.mem_cons.1 hb with eb | hb
    · exact absurd (ea.trans eb.symm) hn
    · rw [ea]; exact h.1 b hb
    · rw [eb]; exact hs _ _ (h.1 a ha)
    · exact ih h.2 a ha b hb hn
theorem Cons.not_both {L : Int} {kn : List Int} (h : Cons L kn) {x : Int} (h1 : x ∈ kn) (h2 : -x ∈ kn) : False := by
  have hx := (isLit_iff.1 (h.1 x h1)).1
  exact pairwise_mem (fun _ _ h => Ne.symm h) h.2 x h1 (-x) h2 (by omega) ((absI_eq _ _).2 (.inr (by omega)))
theorem Cons.snoc {L : Int} {kn : List Int} (h : Cons L kn) {x : Int} (hx : isLit L x = true) (h1 : x ∉ kn) (h2 : -x ∉ kn) : Cons L (kn ++ [x]) := by
  refine ⟨fun y hy => ?_, ?_⟩
  · rcases List.mem_append.1 hy with hy | hy
    · exact h.1 y hy
    · rw [List.mem_singleton] at hy; subst hy; exact hx
  · rw [List.pairwise_append]
    refine ⟨h.2, by simp, fun a ha b hb e => ?_⟩
    rw [List.mem_singleton] at hb
    subst hb
    rcases (absI_eq a b).1 e with rfl | rfl
    · exact h1 ha
    · exact h2 ha
theorem nodup_le (n : Nat) : ∀ (l : List Nat), l.Nodup → (∀ x ∈ l, 1 ≤ x ∧ x ≤ n) → l.length ≤ n := by
  induction n with
  | zero =>
    intro l _ hb
    cases l with
    | nil => exact Nat.le_refl _
    | cons a r => have := hb a (by simp); omega
  | succ n ih =>
    intro l hn hb
    have h1 := ih (l.erase (n + 1)) (hn.erase _) (fun x hx => by
      have h2 := (hn.mem_erase_iff).1 hx
      have h3 := hb x h2.2
      omega)
    have h2 := List.length_erase (a := n + 1) (l := l)
    split at h2 <;> omega
theorem Cons.len {L : Int} {kn : List Int} (h : Cons L kn) (hL : L ≤ 10) : kn.length ≤ 10 := by
  have h1 := nodup_le 10 (kn.map fun x => (absI x).toNat) (by
    rw [List.Nodup, List.pairwise_map]
    refine h.2.imp_of_mem fun {a b} ha hb hab e => hab ?_
    have h1 := absI_le (h.1 a ha)
    have h2 := absI_le (h.1 b hb)
    omega) (fun y hy => by
      obtain ⟨x, hx, rfl⟩ := List.mem_map.1 hy
      have := absI_le (h.1 x hx)
      omega)
  simpa using h1
theorem Cons.rng {L : Int} {kn : List Int} (h : Cons L kn) (hL : L ≤ 10) {x : Int} (hx : x ∈ kn) : x ≠ 0 ∧ -10 ≤ x ∧ x ≤ 10 := by
  have := isLit_iff.1 (h.1 x hx); omega
theorem Cons.take {L : Int} {kn : List Int} (h : Cons L kn) (k : Nat) : Cons L (kn.take k) := ⟨fun x hx => h.1 x (List.mem_of_mem_take hx), h.2.sublist (List.take_sublist _ _)⟩
theorem Cons.nil (L : Int) : Cons L [] := ⟨by simp, by simp⟩

/-! ### What is open in a clause -/
def lastOf (l : List Int) : Int := l.getLastD 0
theorem lastOf_snoc (l : List Int) (x : Int) : lastOf (l ++ [x]) = x := by simp [lastOf, List.getLastD_eq_getLast?]
theorem lastOf_mem {l : List Int} (h : l ≠ []) : lastOf l ∈ l := by
  rw [lastOf, List.getLastD_eq_getLast?, List.getLast?_eq_some_getLast h]
  exact List.getLast_mem h
def knownN (kn : List Int) (x : Int) : Int := if hasI kn x then 1 else if hasI kn (-x) then -1 else 0
def lookN (kn c : List Int) : Int × Int := if giveDone kn c then (-1, 0) else (((giveRest kn c).length : Int), lastOf (giveRest kn c))
theorem giveDone_at {kn c : List Int} {k : Nat} (h : k < c.length) (hx : hasI kn c[k] = true) : giveDone kn c = true := by
  rw [giveDone, List.any_eq_true]; exact ⟨c[k], List.getElem_mem h, hx⟩

/-! ### One look at all clauses -/
def scanU (kn : List Int) (cs : List (List Int)) : Nat → Nat → Int → Int → Int × Int × Int
  | 0, _, u, l => (-1, u, l)
  | n + 1, i, u, l =>
    if giveDone kn (cs.getD i []) then scanU kn cs n (i + 1) u l
    else if (giveRest kn (cs.getD i [])).length = 0 then ((i : Int), u, l)
    else if (giveRest kn (cs.getD i [])).length = 1 ∧ u < 0 then scanU kn cs n (i + 1) i (lastOf (giveRest kn (cs.getD i [])))
    else scanU kn cs n (i + 1) u l
theorem getD_get {cs : List (List Int)} {i : Nat} (h : i < cs.length) : cs.getD i [] = cs[i] := by simp [List.getD, h]
theorem scan_done {kn : List Int} {cs : List (List Int)} {i : Nat} {u l : Int} (h : i < cs.length) (hd : giveDone kn cs[i] = true) :
    scanU kn cs (cs.length - i) i u l = scanU kn cs (cs.length - (i + 1)) (i + 1) u l := by
  rw [show cs.length - i = (cs.length - (i + 1)) + 1 by omega, scanU, getD_get h, if_pos hd]
theorem scan_wrong {kn : List Int} {cs : List (List Int)} {i : Nat} {u l : Int} (h : i < cs.length) (hd : giveDone kn cs[i] = false) (h0 : (giveRest kn cs[i]).length = 0) :
    scanU kn cs (cs.length - i) i u l = ((i : Int), u, l) := by
  rw [show cs.length - i = (cs.length - (i + 1)) + 1 by omega, scanU, getD_get h, if_neg (by rw [hd]; decide), if_pos h0]
theorem scan_unit {kn : List Int} {cs : List (List Int)} {i : Nat} {u l : Int} (h : i < cs.length) (hd : giveDone kn cs[i] = false) (h1 : (giveRest kn cs[i]).length = 1) (hu : u < 0) :
    scanU kn cs (cs.length - i) i u l = scanU kn cs (cs.length - (i + 1)) (i + 1) i (lastOf (giveRest kn cs[i])) := by
  rw [show cs.length - i = (cs.length - (i + 1)) + 1 by omega, scanU, getD_get h, if_neg (by rw [hd]; decide), if_neg (by omega), if_pos ⟨h1, hu⟩]
theorem scan_other {kn : List Int} {cs : List (List Int)} {i : Nat} {u l : Int} (h : i < cs.length) (hd : giveDone kn cs[i] = false) (h0 : (giveRest kn cs[i]).length ≠ 0) (h1 : ¬ ((giveRest kn cs[i]).length = 1 ∧ u < 0)) :
    scanU kn cs (cs.length - i) i u l = scanU kn cs (cs.length - (i + 1)) (i + 1) u l := by
  rw [show cs.length - i = (cs.length - (i + 1)) + 1 by omega, scanU, getD_get h, if_neg (by rw [hd]; decide), if_neg h0, if_neg h1]
theorem scan_end (kn : List Int) (cs : List (List Int)) (u l : Int) : scanU kn cs (cs.length - cs.length) cs.length u l = (-1, u, l) := by rw [Nat.sub_self, scanU]
/-- clause j tells the literal l -/
def Tells (kn : List Int) (cs : List (List Int)) (j : Nat) (l : Int) : Prop := ∃ h : j < cs.length, giveDone kn cs[j] = false ∧ giveRest kn cs[j] = [l]
theorem scan_spec (kn : List Int) (cs : List (List Int)) : ∀ (n i : Nat) (u l : Int), i + n = cs.length → (u < 0 ∨ ∃ j : Nat, u = (j : Int) ∧ Tells kn cs j l) →
    ((scanU kn cs n i u l).1 = -1 ∨ ∃ (j : Nat) (h : j < cs.length), (scanU kn cs n i u l).1 = (j : Int) ∧ giveDone kn cs[j] = false ∧ giveRest kn cs[j] = []) ∧
    (((scanU kn cs n i u l).2.1 < 0 ∧ (scanU kn cs n i u l).2 = (u, l)) ∨ ∃ j : Nat, (scanU kn cs n i u l).2.1 = (j : Int) ∧ Tells kn cs j (scanU kn cs n i u l).2.2) := by
  intro n
  induction n with
  | zero =>
    intro i u l _ hu
    refine ⟨.inl rfl, ?_⟩
    rcases hu with hu | ⟨j, e, h⟩
    · exact .inl ⟨hu, rfl⟩
    · exact .inr ⟨j, e, h⟩
  | succ n ih =>
    intro i u l hi hu
    have hl : i < cs.length := by omega
    rw [scanU, getD_get hl]
    split
    · exact ih _ _ _ (by omega) hu
    · rename_i hd
      have hd' : giveDone kn cs[i] = false := by simpa using hd
      split
      · rename_i h0
        refine ⟨.inr ⟨i, hl, rfl, hd', List.eq_nil_of_length_eq_zero h0⟩, ?_⟩
        rcases hu with hu | ⟨j, e, h⟩
        · exact .inl ⟨hu, rfl⟩
        · exact .inr ⟨j, e, h⟩
      · split
        · rename_i h1
          have hT : Tells kn cs i (lastOf (giveRest kn cs[i])) := by
            refine ⟨hl, hd', ?_⟩
            obtain ⟨y, hy⟩ := List.length_eq_one_iff.1 h1.1
            rw [hy]; rfl
          obtain ⟨r1, r2⟩ := ih (i + 1) i (lastOf (giveRest kn cs[i])) (by omega) (.inr ⟨i, rfl, hT⟩)
          refine ⟨r1, ?_⟩
          rcases r2 with ⟨r2, r3⟩ | r2
          · rw [r3] at r2; simp at r2; omega
          · exact .inr r2
        · exact ih _ _ _ (by omega) hu
theorem Tells.lit {L : Int} {kn : List Int} {cs : List (List Int)} {j : Nat} {l : Int} (h : Tells kn cs j l) (hcl : ∀ c ∈ cs, ∀ x ∈ c, isLit L x = true) : isLit L l = true ∧ l ∉ kn ∧ -l ∉ kn ∧ l ∈ cs[j]'h.1 := by
  obtain ⟨hj, hd, hr⟩ := h
  have hm : l ∈ giveRest kn cs[j] := by rw [hr]; simp
  rw [giveRest, List.mem_filter] at hm
  refine ⟨hcl _ (List.getElem_mem hj) l hm.1, fun hk => ?_, fun hk => ?_, hm.1⟩
  · have : giveDone kn cs[j] = true := by rw [giveDone, List.any_eq_true]; exact ⟨l, hm.1, (hasI_iff _ _).2 hk⟩
    rw [this] at hd; cases hd
  · have h2 := (hasI_iff kn (-l)).2 hk
    have h3 := hm.2
    rw [h2] at h3; cases h3

/-! ### All known literals -/
structure UnitD where
  known : List Int
  why : List Int
  wrong : Int
def unitsGo (cs : List (List Int)) : Nat → List Int → List Int → UnitD
  | 0, kn, by_ => ⟨kn, by_, -1⟩
  | n + 1, kn, by_ =>
    if 0 ≤ (scanU kn cs cs.length 0 (-1) 0).1 then ⟨kn, by_, (scanU kn cs cs.length 0 (-1) 0).1⟩
    else if (scanU kn cs cs.length 0 (-1) 0).2.1 < 0 then ⟨kn, by_, -1⟩
    else unitsGo cs n (kn ++ [(scanU kn cs cs.length 0 (-1) 0).2.2]) (by_ ++ [(scanU kn cs cs.length 0 (-1) 0).2.1])
def unitsF (cs : List (List Int)) (g : List Int) : UnitD := unitsGo cs (11 - g.length) g (List.replicate g.length (-1))
theorem units_wrong {cs : List (List Int)} {kn by_ : List Int} {i u l : Int} (hk : kn.length ≤ 10) (h : scanU kn cs cs.length 0 (-1) 0 = (i, u, l)) (h0 : 0 ≤ i) : unitsGo cs (11 - kn.length) kn by_ = ⟨kn, by_, i⟩ := by
  rw [show 11 - kn.length = (10 - kn.length) + 1 by omega, unitsGo, h, if_pos h0]
theorem units_end {cs : List (List Int)} {kn by_ : List Int} {u l : Int} (hk : kn.length ≤ 10) (h : scanU kn cs cs.length 0 (-1) 0 = (-1, u, l)) (h0 : u < 0) : unitsGo cs (11 - kn.length) kn by_ = ⟨kn, by_, -1⟩ := by
  rw [show 11 - kn.length = (10 - kn.length) + 1 by omega, unitsGo, h, if_neg (show ¬ (0 : Int) ≤ -1 by decide), if_pos h0]
theorem units_more {cs : List (List Int)} {kn by_ : List Int} {u l : Int} (hk : kn.length ≤ 10) (h : scanU kn cs cs.length 0 (-1) 0 = (-1, u, l)) (h0 : ¬ u < 0) : unitsGo cs (11 - kn.length) kn by_ = unitsGo cs (11 - (kn ++ [l]).length) (kn ++ [l]) (by_ ++ [u]) := by
  rw [show 11 - kn.length = (10 - kn.length) + 1 by omega, unitsGo, h, if_neg (show ¬ (0 : Int) ≤ -1 by decide), if_neg h0, List.length_append]
  rw [show 11 - (kn.length + [l].length) = 10 - kn.length by simp]
/-- what comes of units: each known literal that was not given has its clause -/
structure UnitsOk (L : Int) (cs : List (List Int)) (g : List Int) (U : UnitD) : Prop where
  cons : Cons L U.known
  len : U.why.length = U.known.length
  why : ∀ b ∈ U.why, -1 ≤ b ∧ b < (cs.length : Int)
  wrong : U.wrong = -1 ∨ ∃ (j : Nat) (h : j < cs.length), U.wrong = (j : Int) ∧ giveDone U.known cs[j] = false ∧ giveRest U.known cs[j] = []
theorem unitsGo_ok {L : Int} {cs : List (List Int)} {g : List Int} (hL : L ≤ 10) (hcl : ∀ c ∈ cs, ∀ x ∈ c, isLit L x = true) : ∀ (n : Nat) (kn by_ : List Int), Cons L kn → by_.length = kn.length → (∀ b ∈ by_, -1 ≤ b ∧ b < (cs.length : Int)) → UnitsOk L cs g (unitsGo cs n kn by_) := by
  intro n
  induction n with
  | zero => intro kn by_ h1 h2 h3; exact ⟨h1, h2, h3, .inl rfl⟩
  | succ n ih =>
    intro kn by_ h1 h2 h3
    obtain ⟨s1, s2⟩ := scan_spec kn cs cs.length 0 (-1) 0 (by omega) (.inl (by omega))
    rw [unitsGo]
    split
    · rename_i h0
      refine ⟨h1, h2, h3, ?_⟩
      rcases s1 with s1 | ⟨j, hj, s1, s3, s4⟩
      · rw [s1] at h0; omega
      · exact .inr ⟨j, hj, s1, s3, s4⟩
    · split
      · exact ⟨h1, h2, h3, .inl rfl⟩
      · rename_i h4
        rcases s2 with ⟨s2, _⟩ | ⟨j, e, hT⟩
        · exact absurd s2 h4
        · obtain ⟨t1, t2, t3, _⟩ := hT.lit hcl
          refine ih _ _ (h1.snoc t1 t2 t3) (by simp [h2]) fun b hb => ?_
          rcases List.mem_append.1 hb with hb | hb
          · exact h3 b hb
          · rw [List.mem_singleton] at hb
            subst hb
            have := hT.1
            rw [e]; omega
theorem unitsF_ok {L : Int} {cs : List (List Int)} {g : List Int} (hL : L ≤ 10) (hcl : ∀ c ∈ cs, ∀ x ∈ c, isLit L x = true) (hg : Cons L g) : UnitsOk L cs g (unitsF cs g) :=
  unitsGo_ok hL hcl _ _ _ hg (by simp) fun b hb => by rw [List.mem_replicate] at hb; omega
theorem clause_lits {L : Int} {c : List Int} (h : isClause L c = true) : ∀ x ∈ c, isLit L x = true := by
  rw [clause_law, Bool.and_eq_true, Bool.and_eq_true] at h
  exact litsGo_all h.1.2
end Go.Proofs.Ytcpbgjnijhcpkaa
