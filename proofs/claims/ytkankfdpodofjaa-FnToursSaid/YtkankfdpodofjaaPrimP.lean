/-
  The tree that grows by its next least edge is a least one, and bounds are none greater than any tour: the plain part; no statement of the program is proved here.
-/
import Derived.Test.YtkankfdpodofjaaTreeP
import Derived.Test.YtkankfdpodofjaaMoveP
namespace Go.Proofs.Ytkankfdpodofjaa
open Go.RowKit
set_option linter.unusedVariables false
set_option maxRecDepth 100000

/-! ### The next edge is the least that leads out -/
theorem rowGo_min (W : Int → Int → Int) (S : List Int) (i : Int) (hi0 : 0 ≤ i) : ∀ (m : Nat) (k : Int) (c : Int × Int),
    (0 ≤ c.1 → 0 ≤ (rowGo W S i m k c).1 ∧ W (rowGo W S i m k c).1 (rowGo W S i m k c).2 ≤ W c.1 c.2) ∧ ∀ j, k ≤ j → j < k + m → j ∉ S → 0 ≤ (rowGo W S i m k c).1 ∧ W (rowGo W S i m k c).1 (rowGo W S i m k c).2 ≤ W i j := by
  intro m
  induction m with
  | zero => intro k c; exact ⟨fun h => ⟨h, Int.le_refl _⟩, fun j h1 h2 _ => by omega⟩
  | succ m ih =>
    intro k c
    rw [rowGo]
    by_cases hc : hasI S k = false ∧ (c.1 < 0 ∨ W i k < W c.1 c.2)
    · rw [if_pos hc]
      obtain ⟨i1, i2⟩ := ih (k + 1) (i, k)
      have i1 := i1 hi0
      refine ⟨fun h => ⟨i1.1, ?_⟩, fun j h1 h2 h3 => ?_⟩
      · have := i1.2
        rcases hc.2 with h' | h'
        · omega
        · simp only at this; omega
      · by_cases hj : j = k
        · subst hj; exact i1
        · exact i2 j (by omega) (by omega) h3
    · rw [if_neg hc]
      obtain ⟨i1, i2⟩ := ih (k + 1) c
      refine ⟨i1, fun j h1 h2 h3 => ?_⟩
      by_cases hj : j = k
      · subst hj
        have h4 := (hasI_false S j).2 h3
        have h5 : ¬ c.1 < 0 := fun h => hc ⟨h4, .inl h⟩
        have h6 : ¬ W i j < W c.1 c.2 := fun h => hc ⟨h4, .inr h⟩
        have := i1 (by omega)
        exact ⟨this.1, by omega⟩
      · exact i2 j (by omega) (by omega) h3
theorem pairGo_min (W : Int → Int → Int) (S : List Int) (f : Int) (n : Nat) (hf : 0 ≤ f) : ∀ (m : Nat) (i : Int) (c : Int × Int), f ≤ i →
    (0 ≤ c.1 → 0 ≤ (pairGo W S f n m i c).1 ∧ W (pairGo W S f n m i c).1 (pairGo W S f n m i c).2 ≤ W c.1 c.2) ∧ ∀ x, i ≤ x → x < i + m → x ∈ S → ∀ j, f ≤ j → j < f + n → j ∉ S → 0 ≤ (pairGo W S f n m i c).1 ∧ W (pairGo W S f n m i c).1 (pairGo W S f n m i c).2 ≤ W x j := by
  intro m
  induction m with
  | zero => intro i c _; exact ⟨fun h => ⟨h, Int.le_refl _⟩, fun x h1 h2 => by omega⟩
  | succ m ih =>
    intro i c hi
    rw [pairGo]
    by_cases hc : hasI S i = true
    · rw [if_pos hc]
      obtain ⟨r1, r2⟩ := rowGo_min W S i (by omega) n f c
      obtain ⟨i1, i2⟩ := ih (i + 1) (rowGo W S i n f c) (by omega)
      refine ⟨fun h => ?_, fun x h1 h2 h3 j j1 j2 j3 => ?_⟩
      · have a := r1 h
        have b := i1 a.1
        exact ⟨b.1, by omega⟩
      · by_cases hx : x = i
        · subst hx
          have a := r2 j j1 j2 j3
          have b := i1 a.1
          exact ⟨b.1, by omega⟩
        · exact i2 x (by omega) (by omega) h3 j j1 j2 j3
    · rw [if_neg hc]
      obtain ⟨i1, i2⟩ := ih (i + 1) c (by omega)
      refine ⟨i1, fun x h1 h2 h3 j j1 j2 j3 => ?_⟩
      by_cases hx : x = i
      · subst hx; exact absurd ((hasI_iff S x).2 h3) hc
      · exact i2 x (by omega) (by omega) h3 j j1 j2 j3
theorem pick_min (W : Int → Int → Int) (S : List Int) (f : Int) (n : Nat) (hf : 0 ≤ f) {x j : Int} (h1 : f ≤ x) (h2 : x < f + n) (h3 : x ∈ S) (j1 : f ≤ j) (j2 : j < f + n) (j3 : j ∉ S) :
    W (pick W S f n).1 (pick W S f n).2 ≤ W x j := ((pairGo_min W S f n hf n f (-1, -1) (Int.le_refl _)).2 x h1 h2 h3 j j1 j2 j3).2
/-! ### Edges that join -/
inductive Rch (F : List (Int × Int)) (S : Int → Prop) : Int → Prop
  | base {v : Int} (h : S v) : Rch F S v
  | step {u v : Int} (h : Rch F S u) (e : (u, v) ∈ F ∨ (v, u) ∈ F) : Rch F S v
inductive Pth (F : List (Int × Int)) (S : Int → Prop) (t : Int) : Int → Prop
  | base (h : ¬ S t) : Pth F S t t
  | step {u v : Int} (h : Pth F S t u) (e : (u, v) ∈ F ∨ (v, u) ∈ F) (hv : ¬ S v) : Pth F S t v
theorem Pth.out {F : List (Int × Int)} {S : Int → Prop} {t v : Int} (h : Pth F S t v) : ¬ S v := by
  cases h with
  | base h => exact h
  | step _ _ hv => exact hv
theorem Pth.start {F : List (Int × Int)} {S : Int → Prop} {t v : Int} (h : Pth F S t v) : ¬ S t := by
  induction h with
  | base h => exact h
  | step _ _ _ ih => exact ih
theorem Rch.cross {F : List (Int × Int)} {S : Int → Prop} {v : Int} (h : Rch F S v) : ¬ S v → ∃ s t, S s ∧ ((s, t) ∈ F ∨ (t, s) ∈ F) ∧ Pth F S t v := by
  induction h with
  | base h => intro hn; exact absurd h hn
  | @step u v h e ih =>
    intro hn
    by_cases hu : S u
    · exact ⟨u, v, hu, e, .base hn⟩
    · obtain ⟨s, t, h1, h2, h3⟩ := ih hu
      exact ⟨s, t, h1, h2, .step h3 e hn⟩
theorem Rch.mono {F G : List (Int × Int)} {S T : Int → Prop} {v : Int} (h : Rch F S v) (hF : ∀ e ∈ F, e ∈ G) (hS : ∀ x, S x → T x) : Rch G T v := by
  induction h with
  | base h => exact .base (hS _ h)
  | step _ e ih => exact .step ih (e.imp (hF _) (hF _))
theorem Rch.trans {F : List (Int × Int)} {S : Int → Prop} {u v : Int} (hu : Rch F S u) (h : Rch F (fun x => x = u) v) : Rch F S v := by
  induction h with
  | base h => rw [h]; exact hu
  | step _ e ih => exact .step ih e
/-- without an edge that leads out, with the city that was joined -/
theorem Rch.less {F : List (Int × Int)} {S : Int → Prop} {b s t : Int} (e : Int × Int) (he : e = (s, t) ∨ e = (t, s)) (hs : S s) (hp : Pth F S t b) {v : Int} (h : Rch F S v) : Rch (F.erase e) (fun x => S x ∨ x = b) v := by
  have hne : ∀ x y : Int, ¬ S x → ¬ S y → (x, y) ∈ F → (x, y) ∈ F.erase e := by
    intro x y hx hy hm
    refine (List.mem_erase_of_ne ?_).2 hm
    rintro rfl
    rcases he with he | he
    · injection he with h1 h2; subst h1; exact hx hs
    · injection he with h1 h2; subst h2; exact hy hs
  have back : ∀ {x : Int}, Pth F S t x → Rch (F.erase e) (fun x => S x ∨ x = b) x → Rch (F.erase e) (fun x => S x ∨ x = b) t := by
    intro x hx
    induction hx with
    | base _ => exact fun h => h
    | @step u v h g hv ih =>
      intro hr
      refine ih (.step hr ?_)
      rcases g with g | g
      · exact .inr (hne _ _ h.out hv g)
      · exact .inl (hne _ _ hv h.out g)
  have ht := back hp (.base (.inr rfl))
  induction h with
  | base h => exact .base (.inl h)
  | @step u v h g ih =>
    have key : ∀ d : Int × Int, d ∈ F → d = (u, v) ∨ d = (v, u) → Rch (F.erase e) (fun x => S x ∨ x = b) v := by
      intro d hd hdu
      by_cases hde : d = e
      · have hv : v = s ∨ v = t := by
          subst hde
          rcases hdu with h1 | h1 <;> rcases he with h2 | h2 <;> (rw [h1] at h2; injection h2 with a c; simp [a, c])
        rcases hv with rfl | rfl
        · exact .base (.inl hs)
        · exact ht
      · have := (List.mem_erase_of_ne hde).2 hd
        rcases hdu with rfl | rfl
        · exact .step ih (.inl this)
        · exact .step ih (.inr this)
    rcases g with g | g
    · exact key _ g (.inl rfl)
    · exact key _ g (.inr rfl)
def wsum (W : Int → Int → Int) : List (Int × Int) → Int
  | [] => 0
  | e :: r => W e.1 e.2 + wsum W r
theorem wsum_erase (W : Int → Int → Int) {F : List (Int × Int)} {e : Int × Int} (h : e ∈ F) : wsum W F = W e.1 e.2 + wsum W (F.erase e) := by
  induction F with
  | nil => cases h
  | cons d r ih =>
    rw [List.erase_cons]
    by_cases hd : d = e
    · subst hd; simp [wsum]
    · have hm : e ∈ r := by
        rcases List.mem_cons.1 h with h | h
        · exact absurd h.symm hd
        · exact h
      rw [if_neg (by simpa using hd), wsum, wsum, ih hm]; omega
/-- the tree's sum is none greater than that of other edges that join all -/
theorem treeGo_le (W : Int → Int → Int) (f : Int) (n : Nat) (hf : 0 ≤ f) (hsym : ∀ a b, f ≤ a → a < f + n → f ≤ b → b < f + n → W a b = W b a) : ∀ (m : Nat) (S E : List Int) (t : Int) (F : List (Int × Int)), m + S.length = n → (∃ j, f ≤ j ∧ j < f + n ∧ j ∈ S) →
    F.length = m → (∀ e ∈ F, (f ≤ e.1 ∧ e.1 < f + n) ∧ (f ≤ e.2 ∧ e.2 < f + n)) → (∀ v, f ≤ v → v < f + n → Rch F (· ∈ S) v) → (treeGo W f n m S E t).2 ≤ t + wsum W F := by
  intro m
  induction m with
  | zero =>
    intro S E t F _ _ hF _ _
    have : F = [] := List.eq_nil_of_length_eq_zero hF
    subst this
    simp [treeGo, wsum]
  | succ m ih =>
    intro S E t F hm hin hF hr hc
    obtain ⟨p1, p2, p3, p4, p5, p6⟩ := pick_ok W S f n hf hin (by omega)
    obtain ⟨s, y, hs, he, hp⟩ := (hc _ p5 p6).cross p4
    rw [treeGo]
    obtain ⟨e, heF, hes⟩ : ∃ e, e ∈ F ∧ (e = (s, y) ∨ e = (y, s)) := by
      rcases he with he | he
      · exact ⟨_, he, .inl rfl⟩
      · exact ⟨_, he, .inr rfl⟩
    have hre := hr e heF
    have hry : (f ≤ s ∧ s < f + n) ∧ (f ≤ y ∧ y < f + n) := by
      rcases hes with rfl | rfl
      · exact hre
      · exact ⟨hre.2, hre.1⟩
    have hmin := pick_min W S f n hf hry.1.1 hry.1.2 hs hry.2.1 hry.2.2 hp.start
    have hw : W e.1 e.2 = W s y := by
      rcases hes with rfl | rfl
      · rfl
      · exact (hsym _ _ hry.1.1 hry.1.2 hry.2.1 hry.2.2).symm
    have hsum := wsum_erase W heF
    obtain ⟨j, j1, j2, j3⟩ := hin
    have := ih (S ++ [(pick W S f n).2]) (E ++ [(pick W S f n).1, (pick W S f n).2]) (t + W (pick W S f n).1 (pick W S f n).2) (F.erase e) (by simp; omega) ⟨j, j1, j2, by simp [j3]⟩ (by rw [List.length_erase_of_mem heF]; omega)
      (fun d hd => hr d (List.mem_of_mem_erase hd)) (fun v v1 v2 => ((hc v v1 v2).less e hes hs hp).mono (fun _ h => h) (fun x hx => by
        rcases hx with hx | rfl
        · exact List.mem_append_left _ hx
        · exact List.mem_append_right _ (List.mem_singleton.2 rfl)))
    omega
/-! ### The edges of a path -/
def pathE : List Int → List (Int × Int)
  | x :: y :: r => (x, y) :: pathE (y :: r)
  | _ => []
theorem pathE_len : ∀ (T : List Int), (pathE T).length = T.length - 1
  | [] => rfl
  | [_] => rfl
  | x :: y :: r => by rw [pathE, List.length_cons, pathE_len (y :: r)]; simp
theorem pathE_mem : ∀ (T : List Int) (e : Int × Int), e ∈ pathE T → e.1 ∈ T ∧ e.2 ∈ T
  | [], _, h => by cases h
  | [_], _, h => by cases h
  | x :: y :: r, e, h => by
    rw [pathE] at h
    rcases List.mem_cons.1 h with rfl | h
    · simp
    · have := pathE_mem (y :: r) e h
      exact ⟨List.mem_cons_of_mem _ this.1, List.mem_cons_of_mem _ this.2⟩
theorem pathE_conn : ∀ (T : List Int) (u v : Int), u ∈ T → v ∈ T → Rch (pathE T) (fun x => x = u) v
  | [], _, _, h, _ => by cases h
  | [x], u, v, hu, hv => by
    rw [List.mem_singleton] at hu hv
    subst hu hv
    exact .base rfl
  | x :: y :: r, u, v, hu, hv => by
    have up : ∀ e ∈ pathE (y :: r), e ∈ pathE (x :: y :: r) := fun e he => by rw [pathE]; exact List.mem_cons_of_mem _ he
    have hxy : (x, y) ∈ pathE (x :: y :: r) := by rw [pathE]; exact List.mem_cons_self ..
    rcases List.mem_cons.1 hu with hu' | hu'
    · rcases List.mem_cons.1 hv with hv' | hv'
      · exact .base (by rw [hu', hv'])
      · refine Rch.trans (u := y) ?_ ((pathE_conn (y :: r) y v (List.mem_cons_self ..) hv').mono up (fun _ h => h))
        exact .step (u := x) (.base hu'.symm) (.inl hxy)
    · rcases List.mem_cons.1 hv with hv' | hv'
      · rw [hv']
        exact .step (u := y) ((pathE_conn (y :: r) u y hu' (List.mem_cons_self ..)).mono up (fun _ h => h)) (.inr hxy)
      · exact (pathE_conn (y :: r) u v hu' hv').mono up (fun _ h => h)
/-- the tree is none longer than any path through all cities -/
theorem treeOf_path {W : Int → Int → Int} {f : Int} {n : Nat} (hn : 1 ≤ n) (hf : 0 ≤ f) (hsym : ∀ a b, f ≤ a → a < f + n → f ≤ b → b < f + n → W a b = W b a) {T : List Int} (hl : T.length = n) (hr : ∀ x ∈ T, f ≤ x ∧ x < f + n) (hall : ∀ v, f ≤ v → v < f + n → v ∈ T) :
    (treeOf W f n).2 ≤ wsum W (pathE T) := by
  have := treeGo_le W f n hf hsym (n - 1) [f] [] 0 (pathE T) (by simp; omega) ⟨f, by omega, by omega, by simp⟩ (by rw [pathE_len, hl]) (fun e he => by
    have := pathE_mem T e he
    exact ⟨hr _ this.1, hr _ this.2⟩) (fun v h1 h2 => (pathE_conn T f v (hall f (by omega) (by omega)) (hall v h1 h2)).mono (fun _ h => h) (fun x hx => by rw [hx]; exact List.mem_singleton.2 rfl))
  rw [Int.zero_add] at this
  exact this
end Go.Proofs.Ytkankfdpodofjaa
