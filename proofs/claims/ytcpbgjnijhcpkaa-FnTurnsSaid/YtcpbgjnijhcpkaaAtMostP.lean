/-
  AtMostForm: plain laws.
-/
import Derived.Test.YtcpbgjnijhcpkaaOpp
import Derived.Test.YtcpbgjnijhcpkaaGiveF
import Derived.Test.YtcpbgjnijhcpkaaKeepB
namespace Go.Proofs.Ytcpbgjnijhcpkaa
open Go.RowKit
set_option linter.unusedVariables false
set_option maxRecDepth 100000

/-- all sets of c letters from a on, where s letters are left -/
def setsGo : Nat → Nat → Nat → List (List Int)
  | 0, _, _ => [[]]
  | _ + 1, 0, _ => []
  | c + 1, s + 1, a => (setsGo c s (a + 1)).map (fun r => (a : Int) :: r) ++ setsGo (c + 1) s (a + 1)
/-- the reference's way: it stops where there are too many -/
def chooseGo : Nat → Nat → Nat → List Int → List (List Int) → List (List Int)
  | 0, _, _, now, out => out ++ [now]
  | _ + 1, 0, _, _, out => out
  | c + 1, s + 1, a, now, out => if out.length ≤ 48 then chooseGo (c + 1) s (a + 1) now (chooseGo c s (a + 1) (now ++ [-(a : Int)]) out) else out
def behind (now : List Int) (F : List (List Int)) : List (List Int) := F.map fun r => now ++ negs r
def atMostF (L m : Int) : FormD × Bool := if inB 1 10 L && inB 0 L m then checkedF ⟨L, (setsGo (m + 1).toNat L.toNat 1).map negs⟩ else (⟨0, []⟩, false)
theorem atMost_no {L m : Int} (h : (inB 1 10 L && inB 0 L m) = false) : atMostF L m = (⟨0, []⟩, false) := by rw [atMostF, h]; rfl
theorem atMost_yes {L m : Int} (h : (inB 1 10 L && inB 0 L m) = true) : atMostF L m = checkedF ⟨L, (setsGo (m + 1).toNat L.toNat 1).map negs⟩ := by rw [atMostF, h]; rfl
theorem setsGo_few : ∀ (s c a : Nat), s < c → setsGo c s a = [] := by
  intro s
  induction s with
  | zero =>
    intro c a h
    cases c with
    | zero => omega
    | succ c => rw [setsGo]
  | succ s ih =>
    intro c a h
    cases c with
    | zero => omega
    | succ c => rw [setsGo, ih c _ (by omega), ih (c + 1) _ (by omega)]; rfl
theorem setsGo_len : ∀ (s c a : Nat), (setsGo c s a).length ≤ 2 ^ s := by
  intro s
  induction s with
  | zero => intro c a; cases c <;> simp [setsGo]
  | succ s ih =>
    intro c a
    cases c with
    | zero => rw [setsGo]; simp; exact Nat.one_le_two_pow
    | succ c =>
      rw [setsGo, List.length_append, List.length_map, Nat.pow_succ]
      have := ih c (a + 1)
      have := ih (c + 1) (a + 1)
      omega
theorem setsGo_row : ∀ (s c a : Nat), ∀ r ∈ setsGo c s a, r.length = c ∧ ∀ x ∈ r, (a : Int) ≤ x ∧ x < ((a + s : Nat) : Int) := by
  intro s
  induction s with
  | zero =>
    intro c a r hr
    cases c with
    | zero => rw [setsGo, List.mem_singleton] at hr; subst hr; exact ⟨rfl, by simp⟩
    | succ c => rw [setsGo] at hr; simp at hr
  | succ s ih =>
    intro c a r hr
    cases c with
    | zero => rw [setsGo, List.mem_singleton] at hr; subst hr; exact ⟨rfl, by simp⟩
    | succ c =>
      rw [setsGo, List.mem_append, List.mem_map] at hr
      rcases hr with ⟨q, hq, rfl⟩ | hr
      · obtain ⟨h1, h2⟩ := ih c (a + 1) q hq
        refine ⟨by rw [List.length_cons, h1], fun x hx => ?_⟩
        rcases List.mem_cons.1 hx with rfl | hx
        · omega
        · have := h2 x hx; omega
      · obtain ⟨h1, h2⟩ := ih (c + 1) (a + 1) r hr
        exact ⟨h1, fun x hx => by have := h2 x hx; omega⟩
theorem negs_cons (x : Int) (r : List Int) : negs (x :: r) = -x :: negs r := rfl
theorem behind_cons (now : List Int) (a : Nat) (F : List (List Int)) : behind now (F.map fun r => (a : Int) :: r) = behind (now ++ [-(a : Int)]) F := by
  unfold behind
  rw [List.map_map]
  refine List.map_congr_left fun r _ => ?_
  show now ++ negs ((a : Int) :: r) = _
  rw [negs_cons]; simp
theorem choose_stop {c s a : Nat} {now : List Int} {out : List (List Int)} (h : 48 < out.length) : chooseGo (c + 1) s a now out = out := by
  cases s with
  | zero => rfl
  | succ s => rw [chooseGo, if_neg (by omega)]
theorem choose_take : ∀ (s c a : Nat) (now : List Int) (out : List (List Int)), ∃ k, chooseGo c s a now out = out ++ (behind now (setsGo c s a)).take k ∧ ((behind now (setsGo c s a)).length ≤ k ∨ 48 < (chooseGo c s a now out).length) ∧ (out.length ≤ 48 → (chooseGo c s a now out).length ≤ 49) := by
  intro s
  induction s with
  | zero =>
    intro c a now out
    cases c with
    | zero => exact ⟨1, by simp [chooseGo, setsGo, behind, negs], .inl (by simp [setsGo, behind]), fun h => by simp [chooseGo]; omega⟩
    | succ c => exact ⟨0, by simp [chooseGo], .inl (by simp [setsGo, behind]), fun h => by rw [chooseGo]; omega⟩
  | succ s ih =>
    intro c a now out
    cases c with
    | zero => exact ⟨1, by simp [chooseGo, setsGo, behind, negs], .inl (by simp [setsGo, behind]), fun h => by simp [chooseGo]; omega⟩
    | succ c =>
      by_cases h48 : out.length ≤ 48
      · rw [chooseGo, if_pos h48]
        obtain ⟨k1, e1, d1, b1⟩ := ih c (a + 1) (now ++ [-(a : Int)]) out
        have hF : behind now (setsGo (c + 1) (s + 1) a) = behind (now ++ [-(a : Int)]) (setsGo c s (a + 1)) ++ behind now (setsGo (c + 1) s (a + 1)) := by
          rw [setsGo, ← behind_cons, behind, List.map_append]; rfl
        have hb := b1 h48
        by_cases hs : 48 < (chooseGo c s (a + 1) (now ++ [-(a : Int)]) out).length
        · rw [choose_stop hs]
          refine ⟨min k1 (behind (now ++ [-(a : Int)]) (setsGo c s (a + 1))).length, ?_, .inr hs, fun _ => hb⟩
          rw [hF, List.take_append_of_le_length (Nat.min_le_right _ _), e1]
          congr 1
          by_cases hk : k1 ≤ (behind (now ++ [-(a : Int)]) (setsGo c s (a + 1))).length
          · rw [Nat.min_eq_left hk]
          · rw [Nat.min_eq_right (by omega), List.take_of_length_le (by omega), List.take_length]
        · obtain ⟨k2, e2, d2, b2⟩ := ih (c + 1) (a + 1) now (chooseGo c s (a + 1) (now ++ [-(a : Int)]) out)
          have hk1 : (behind (now ++ [-(a : Int)]) (setsGo c s (a + 1))).length ≤ k1 := by
            rcases d1 with d1 | d1
            · exact d1
            · exact absurd d1 hs
          refine ⟨(behind (now ++ [-(a : Int)]) (setsGo c s (a + 1))).length + k2, ?_, ?_, fun _ => b2 (by omega)⟩
          · rw [e2, hF, e1, List.take_of_length_le hk1, List.append_assoc, List.take_length_add_append]
          · rcases d2 with d2 | d2
            · left; rw [hF, List.length_append]; omega
            · exact .inr d2
      · rw [choose_stop (by omega)]
        exact ⟨0, by simp, .inr (by omega), fun h => absurd h h48⟩
/-- the form of the reference and that of the program are the same, or both are too long -/
theorem choose_checked {L : Int} {c s : Nat} : checkedF ⟨L, chooseGo c s 1 [] []⟩ = checkedF ⟨L, (setsGo c s 1).map negs⟩ := by
  obtain ⟨k, e, d, _⟩ := choose_take s c 1 [] []
  have hb : behind [] (setsGo c s 1) = (setsGo c s 1).map negs := List.map_congr_left fun r _ => rfl
  rw [hb, List.nil_append] at e
  rw [hb] at d
  rcases d with d | d
  · rw [e, List.take_of_length_le d]
  · have hlen : 48 < ((setsGo c s 1).map negs).length := by
      rw [e, List.length_take] at d; omega
    have h1 : ∀ F : List (List Int), 48 < F.length → checkedF ⟨L, F⟩ = (⟨0, []⟩, false) := fun F hF => by
      have : validForm ⟨L, F⟩ = false := by rw [validForm, decide_eq_false (show ¬ F.length ≤ 48 by omega), Bool.and_false, Bool.false_and]
      rw [checkedF, this]; rfl
    rw [h1 _ d, h1 _ hlen]
/-- rows are short -/
def Short (l : List (List Int)) : Prop := ∀ c ∈ l, c.length ≤ 20
theorem choose_short (s c a : Nat) (now : List Int) (out : List (List Int)) (hn : now.length + c ≤ 20) (ho : Short out) : Short (chooseGo c s a now out) := by
  obtain ⟨k, e, _, _⟩ := choose_take s c a now out
  rw [e]
  intro r hr
  rcases List.mem_append.1 hr with hr | hr
  · exact ho r hr
  · have h1 := List.mem_of_mem_take hr
    rw [behind, List.mem_map] at h1
    obtain ⟨q, hq, rfl⟩ := h1
    have h2 := (setsGo_row s c a q hq).1
    rw [List.length_append, negs_len]; omega
theorem short_sum {l : List (List Int)} (h : Short l) : (l.map List.length).sum ≤ 20 * l.length := by
  induction l with
  | nil => simp
  | cons a r ih =>
    have h1 := h a (by simp)
    have h2 := ih fun c hc => h c (by simp [hc])
    rw [List.map_cons, List.sum_cons, List.length_cons, Nat.mul_succ]
    omega
theorem choose_step {L c x : Nat} {d : List Int} {Q : List (List Int)} (hx : x ≤ L) (hq : Q.length ≤ 48) : chooseGo (c + 1) (L + 1 - (x + 1)) (x + 1) d (chooseGo c (L + 1 - (x + 1)) (x + 1) (d ++ [-(x : Int)]) Q) = chooseGo (c + 1) (L + 1 - x) x d Q := by
  rw [show L + 1 - x = (L + 1 - (x + 1)) + 1 by omega, chooseGo, if_pos hq]
theorem choose_end {L c x : Nat} {d : List Int} {Q : List (List Int)} (hx : ¬ x ≤ L) : chooseGo (c + 1) (L + 1 - x) x d Q = Q := by rw [show L + 1 - x = 0 by omega, chooseGo]
theorem choose_len {s c a : Nat} {now : List Int} {out : List (List Int)} (h : out.length ≤ 48) : (chooseGo c s a now out).length ≤ 49 := by
  obtain ⟨_, _, _, hb⟩ := choose_take s c a now out
  exact hb h
theorem sets_step {L c x : Nat} (hx : x ≤ L) : setsGo (c + 1) (L + 1 - x) x = (setsGo c (L + 1 - (x + 1)) (x + 1)).map (fun r => (x : Int) :: r) ++ setsGo (c + 1) (L + 1 - (x + 1)) (x + 1) := by
  rw [show L + 1 - x = (L + 1 - (x + 1)) + 1 by omega, setsGo]
def putAll (x : Int) (R : List (List Int)) (j : Nat) : List (List Int) := (R.take j).map fun r => x :: r
theorem putAll_succ {x : Int} {R : List (List Int)} {j : Nat} (h : j < R.length) : putAll x R (j + 1) = putAll x R j ++ [x :: R[j]] := by rw [putAll, List.take_succ_eq_append_getElem h, List.map_append]; rfl
theorem putAll_all (x : Int) (R : List (List Int)) : putAll x R R.length = R.map fun r => x :: r := by rw [putAll, List.take_length]
theorem putAll_len (x : Int) (R : List (List Int)) (j : Nat) : (putAll x R j).length ≤ R.length := by rw [putAll, List.length_map, List.length_take]; omega
/-- two lists of rows, one behind the other, under a name that is not opened -/
def both (a b : List (List Int)) : List (List Int) := a ++ b
theorem oneOwn (w : World) (x : Int) (hx : I64 x) : OwnI (w.alloc (.cells #[.int .i64 x] 2)) w.heap.size (w.heap.size + 1) (.slice (some ⟨w.heap.size, 0, none⟩) 1 1) [x] :=
  ⟨⟨World.ownsRow_lit w #[.int .i64 x] 1 (Nat.le_refl _) (by simp [maxLen]) (by simp), fun k e => by simp [Value.ownBlock] at e; omega, by simp⟩, by simpa using hx, by simp⟩
theorem oneNil (w : World) : OwnII (w.alloc (.cells #[.slice none 0 0] 34)) w.heap.size (w.heap.size + 1) (.slice (some ⟨w.heap.size, 0, none⟩) 1 1) [[]] :=
  ⟨⟨[.slice none 0 0], rfl, ⟨World.ownsRow_lit w #[.slice none 0 0] 1 (Nat.le_refl _) (by simp [maxLen]) (by simp), fun k e => by simp [Value.ownBlock] at e; omega, by simp⟩, fun i h => by
      have : i = 0 := by simp at h; omega
      subst this
      exact OwnI.nil _ _ _ (by simp), fun i j h1 h2 => by simp at h2; omega, fun i h p hp => by
      have : i = 0 := by simp at h; omega
      subst this
      simp [Value.ownBlock, List.getD] at hp⟩, by simp⟩
theorem emptyRowsA (w : World) : OwnII (w.alloc (.cells #[] 34)) w.heap.size (w.heap.size + 1) (.slice (some ⟨w.heap.size, 0, none⟩) 0 0) [] :=
  ⟨⟨[], rfl, ⟨World.ownsRow_lit w #[] 0 (Nat.le_refl _) (by simp [maxLen]) (by simp), fun k e => by simp [Value.ownBlock] at e; omega, by simp⟩, fun i h => by simp at h, fun i j _ h => by simp at h, fun i h => by simp at h⟩, by simp⟩
end Go.Proofs.Ytcpbgjnijhcpkaa
