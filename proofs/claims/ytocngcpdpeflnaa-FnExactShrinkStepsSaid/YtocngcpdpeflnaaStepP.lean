/-
  Sums and products of floats that may leave the finite ones: the plain part of ShrinkSteps.
-/
import Derived.Test.YtocngcpdpeflnaaDropP
import Derived.Test.YtocngcpdpeflnaaFinI
namespace Go.Proofs.Ytocngcpdpeflnaa
open Go.RowKit
set_option linter.unusedVariables false
set_option maxRecDepth 100000
open Ieee (Datum Format single double)

/-- a number and its bits; none: not finite -/
def FV (o : Option Nat) (v : Nat) : Prop := match o with
  | some b => v = b ∧ finF b = true
  | none => finF v = false
theorem FV.get {b v : Nat} (h : FV (some b) v) : v = b ∧ finF b = true := h
theorem FV.fin {b : Nat} (h : finF b = true) : FV (some b) b := ⟨rfl, h⟩
def clsF (b : Nat) : Option Nat := if finF b then some b else none
theorem FV.cls (b : Nat) : FV (clsF b) b := by
  unfold clsF
  split
  · next h => exact ⟨rfl, h⟩
  · next h => simpa [FV] using h
def arO (op : BinOp) (x y : Option Nat) : Option Nat := x.bind fun a => y.bind fun b => (floatBits op .f32 a b).bind fun r => clsF r
theorem sum_inf {d e r : Datum} (h : finD d = false ∨ finD e = false) (hs : d.sum e = some r) : ∃ s, r = .infinity s := by
  cases d <;> cases e <;> simp only [Datum.sum, finD, or_self, or_false, false_or, reduceCtorEq] at hs h
  · exact ⟨_, (Option.some.inj hs).symm⟩
  · exact ⟨_, (Option.some.inj hs).symm⟩
  · split at hs
    · exact ⟨_, (Option.some.inj hs).symm⟩
    · cases hs
theorem product_inf {d e r : Datum} (h : finD d = false ∨ finD e = false) (hs : d.product e = some r) : ∃ s, r = .infinity s := by
  cases d <;> cases e <;> simp only [Datum.product, finD, or_self, or_false, false_or, reduceCtorEq] at hs h
  · split at hs
    · cases hs
    · exact ⟨_, (Option.some.inj hs).symm⟩
  · split at hs
    · cases hs
    · exact ⟨_, (Option.some.inj hs).symm⟩
  · exact ⟨_, (Option.some.inj hs).symm⟩
theorem inf_not (s : Bool) : finF (single.write (.infinity s)) = false := by cases s <;> decide
theorem opp_fin (d : Datum) : finD d.opposite = finD d := by cases d <;> rfl
theorem bits_not {op : BinOp} (ho : op = .add ∨ op = .sub ∨ op = .mul) {a b r : Nat} (h : finF a = false ∨ finF b = false) (hr : floatBits op .f32 a b = some r) : finF r = false := by
  have hw : ∀ d : Option Datum, (∀ x, d = some x → ∃ s, x = .infinity s) → d.map single.write = some r → finF r = false := by
    intro d hd hm
    cases d with
    | none => cases hm
    | some x =>
      obtain ⟨s, rfl⟩ := hd x rfl
      rw [← Option.some.inj hm]
      exact inf_not s
  rcases ho with rfl | rfl | rfl
  · exact hw _ (fun x hx => sum_inf h hx) hr
  · exact hw _ (fun x hx => sum_inf (by rw [opp_fin]; exact h) hx) hr
  · exact hw _ (fun x hx => product_inf h hx) hr
def nan2 (a b : Nat) (w : World) : Nat := (Question.nanBits .f32 a b).cut (w.tape w.drawn (.nanBits .f32 a b))
theorem nan_not {b : Nat} (h : nanF b = true) : finF b = false := by
  unfold nanF at h
  unfold finF
  cases hr : single.read b with
  | number s m e => rw [hr] at h; cases h
  | infinity s => rfl
  | nan s t => rfl
/-- an operation on floats, finite or not -/
theorem ar_any {op : BinOp} (ho : op = .add ∨ op = .sub ∨ op = .mul) {x y : Option Nat} {a b : Nat} (hx : FV x a) (hy : FV y b) :
    ∃ (f : World → Nat) (g : World → World), (∀ wx, (binOp op 23 (.float .f32 a) (.float .f32 b)).run Try.prog wx = .ok (.float .f32 (f wx)) (g wx)) ∧ (∀ wx, Drew wx (g wx)) ∧ ∀ wx, FV (arO op x y) (f wx) := by
  cases hr : floatBits op .f32 a b with
  | some r =>
    refine ⟨fun _ => r, id, fun wx => run_float_arith (P := Try.prog) wx op 23 .f32 a b r hr, fun wx => Drew.refl _, fun wx => ?_⟩
    cases x with
    | none => exact bits_not ho (.inl hx) hr
    | some x =>
      obtain ⟨rfl, hx⟩ := hx
      cases y with
      | none => exact bits_not ho (.inr hy) hr
      | some y =>
        obtain ⟨rfl, hy⟩ := hy
        show FV ((floatBits op .f32 _ _).bind fun r => clsF r) r
        rw [hr]
        exact FV.cls r
  | none =>
    refine ⟨fun wx => nan2 a b wx, fun wx => wx.drew, fun wx => ?_, fun wx => Drew.one wx 1, fun wx => ?_⟩
    · rcases ho with rfl | rfl | rfl
      · have hs : FloatKind.f32.format.add a b = none := hr
        simp [binOp, Op.floatArith, hs, nan2, Question.forced]
      · have hs : FloatKind.f32.format.sub a b = none := hr
        simp [binOp, Op.floatArith, hs, nan2, Question.forced]
      · have hs : FloatKind.f32.format.mul a b = none := hr
        simp [binOp, Op.floatArith, hs, nan2, Question.forced]
    · have hn : finF (nan2 a b wx) = false := nan_not (nanWord32 _)
      cases x with
      | none => exact hn
      | some x =>
        obtain ⟨rfl, hx⟩ := hx
        cases y with
        | none => exact hn
        | some y =>
          obtain ⟨rfl, hy⟩ := hy
          show FV ((floatBits op .f32 _ _).bind fun r => clsF r) _
          rw [hr]
          exact hn
/-! ### Lists -/
def FVs : List (Option Nat) → List Nat → Prop
  | [], [] => True
  | o :: os, v :: vs => FV o v ∧ FVs os vs
  | _, _ => False
def seqO : List (Option Nat) → Option (List Nat)
  | [] => some []
  | o :: os => o.bind fun a => (seqO os).map fun r => a :: r
theorem FVs.len : ∀ {os : List (Option Nat)} {vs : List Nat}, FVs os vs → vs.length = os.length
  | [], [], _ => rfl
  | o :: os, v :: vs, h => by simp [FVs.len h.2]
theorem FVs.snoc : ∀ {os : List (Option Nat)} {vs : List Nat} {o : Option Nat} {v : Nat}, FVs os vs → FV o v → FVs (os ++ [o]) (vs ++ [v])
  | [], [], o, v, _, h => ⟨h, trivial⟩
  | o' :: os, v' :: vs, o, v, h, h2 => ⟨h.1, FVs.snoc h.2 h2⟩
theorem FVs.all : ∀ {os : List (Option Nat)} {vs : List Nat}, FVs os vs → (allFin vs = true ∧ seqO os = some vs) ∨ (allFin vs = false ∧ seqO os = none)
  | [], [], _ => .inl ⟨rfl, rfl⟩
  | o :: os, v :: vs, h => by
    cases o with
    | none =>
      have : finF v = false := h.1
      exact .inr ⟨by rw [allFin, this]; rfl, rfl⟩
    | some a =>
      obtain ⟨rfl, hf⟩ := FV.get h.1
      rcases FVs.all h.2 with ⟨h1, h2⟩ | ⟨h1, h2⟩
      · exact .inl ⟨by rw [allFin, hf, h1]; rfl, by simp [seqO, h2]⟩
      · exact .inr ⟨by rw [allFin, hf, h1]; rfl, by simp [seqO, h2]⟩
/-! ### The shrunk list is finite -/
theorem cut_le (neg : Bool) (n drop : Nat) : Ieee.Toward.even.cut neg n drop ≤ n / 2 ^ min drop (n.log2 + 2) + 1 := by
  unfold Ieee.Toward.cut
  dsimp only
  rw [Nat.one_shiftLeft]
  have : ∀ b : Bool, b.toNat ≤ 1 := by decide
  exact Nat.add_le_add_left (this _) _
theorem cut_whole (neg : Bool) (n drop : Nat) (h : n % 2 ^ min drop (n.log2 + 2) = 0) : Ieee.Toward.even.cut neg n drop = n / 2 ^ min drop (n.log2 + 2) := by
  unfold Ieee.Toward.cut
  dsimp only
  rw [Nat.one_shiftLeft, h]
  have hp : 0 < 2 ^ min drop (n.log2 + 2) := Nat.two_pow_pos _
  have h1 : decide (2 ^ min drop (n.log2 + 2) < 2 * 0) = false := decide_eq_false (by omega)
  have h2 : (2 ^ min drop (n.log2 + 2) == 2 * 0) = false := by simp
  rw [h1, h2]
  simp
theorem rung_a (p k : Nat) (hp : p ≤ 252) (hk : k ≤ 16777216) : min (p * 8388608 + k) 2139095040 < 2139095040 := by omega
theorem rung_b (p k : Nat) (hp : p ≤ 253) (hk : k ≤ 16777215) : min (p * 8388608 + k) 2139095040 < 2139095040 := by omega
theorem pow24 : (2 : Nat) ^ 24 = 16777216 := by decide
theorem near_fin {neg : Bool} {m M k : Nat} {e : Int} (he : -149 ≤ e) (hm : m ≤ M * 2 ^ k) (hM : M < 2 ^ 24) (hE : e + (k : Int) ≤ 104) : finF (single.nearest neg m e) = true := by
  have b1 : single.binade = 8388608 := by decide
  have b2 : single.infRung = 2139095040 := by decide
  have b3 : single.leastPlace = -149 := by decide
  have b4 : single.fractionBits = 23 := rfl
  have hw : ∀ (rung : Nat), rung < 2139095040 → finF (single.word neg rung) = true := fun rung h => by
    unfold finF
    rw [read_word single (by decide) neg (Nat.lt_trans (by rw [b2]; exact h) (Format.infRung_lt single)), b1, b2]
    split
    · rfl
    · first | rfl | (rw [if_pos h]; rfl)
  unfold Format.nearest
  by_cases h0 : m = 0
  · rw [if_pos h0]; exact hw 0 (by decide)
  · rw [if_neg h0]
    dsimp only
    rw [b1, b2, b3, b4]
    obtain ⟨L, hL⟩ : ∃ L, L = m.log2 := ⟨_, rfl⟩
    have hlt : m < 2 ^ (L + 1) := by rw [hL]; exact Nat.lt_log2_self
    have hle : 2 ^ L ≤ m := by rw [hL]; exact Nat.log2_self_le h0
    have hLk : L ≤ 23 + k := by
      apply Classical.byContradiction
      intro hc
      have h1 : 2 ^ (24 + k) ≤ 2 ^ L := Nat.pow_le_pow_right (by decide) (by omega)
      have h2 : M * 2 ^ k < 2 ^ 24 * 2 ^ k := (Nat.mul_lt_mul_right (Nat.two_pow_pos _)).2 hM
      rw [← Nat.pow_add] at h2
      omega
    rw [← hL]
    obtain ⟨p, hp⟩ : ∃ p, p = max (e + (L : Int) - ((23 : Nat) : Int)) (-149) := ⟨_, rfl⟩
    rw [← hp]
    have hp1 : p = e + (L : Int) - 23 ∨ p = -149 := by omega
    have hp2 : e + (L : Int) - 23 ≤ p ∧ -149 ≤ p := by omega
    have hp3 : p ≤ 104 := by omega
    by_cases hpe : p ≤ e
    · -- nothing is dropped
      rw [show (p - e).toNat = 0 by omega, cut_zero]
      have hs : m <<< (e - p).toNat < 2 ^ 24 := by
        rw [Nat.shiftLeft_eq]
        calc m * 2 ^ (e - p).toNat < 2 ^ (L + 1) * 2 ^ (e - p).toNat := (Nat.mul_lt_mul_right (Nat.two_pow_pos _)).2 hlt
          _ = 2 ^ (L + 1 + (e - p).toNat) := by rw [← Nat.pow_add]
          _ ≤ 2 ^ 24 := Nat.pow_le_pow_right (by decide) (by omega)
      rw [pow24] at hs
      exact hw _ (rung_b _ _ (by omega) (by omega))
    · -- some digits are dropped
      have hpL : p = e + (L : Int) - 23 := by omega
      have hd : (p - e).toNat = L - 23 := by omega
      rw [hd, show (e - p).toNat = 0 by omega, Nat.shiftLeft_zero]
      have hmin : min (L - 23) (m.log2 + 2) = L - 23 := by omega
      by_cases h104 : p ≤ 103
      · have hk := cut_le neg m (L - 23)
        rw [hmin] at hk
        have h1 : m / 2 ^ (L - 23) < 2 ^ 24 := by
          rw [Nat.div_lt_iff_lt_mul (Nat.two_pow_pos _), ← Nat.pow_add]
          exact Nat.lt_of_lt_of_le hlt (Nat.pow_le_pow_right (by decide) (by omega))
        rw [pow24] at h1
        exact hw _ (rung_a _ _ (by omega) (by omega))
      · have hLe : L = 23 + k := by omega
        have hdk : L - 23 = k := by omega
        rw [hdk] at hmin ⊢
        have hq : Ieee.Toward.even.cut neg m k ≤ M := by
          have h1 : m / 2 ^ k ≤ M := by
            rw [Nat.div_le_iff_le_mul_add_pred (Nat.two_pow_pos _)]
            rw [Nat.mul_comm]
            omega
          by_cases h2 : m / 2 ^ k = M
          · have h3 : m % 2 ^ k = 0 := by
              have := Nat.div_add_mod m (2 ^ k)
              rw [h2, Nat.mul_comm] at this
              omega
            have := cut_whole neg m k (by rw [hmin]; exact h3)
            rw [this, hmin]; exact h1
          · have := cut_le neg m k
            rw [hmin] at this
            omega
        rw [pow24] at hM
        exact hw _ (rung_b _ _ (by omega) (by omega))
theorem signed_neg (s : Bool) (m u : Nat) : Ieee.signed (!s) m u = - Ieee.signed s m u := by cases s <;> simp [Ieee.signed]
theorem signed_abs (s : Bool) (m u : Nat) : Ieee.signed s m u ≤ ((m * 2 ^ u : Nat) : Int) ∧ -((m * 2 ^ u : Nat) : Int) ≤ Ieee.signed s m u := by
  rw [← Nat.shiftLeft_eq]
  unfold Ieee.signed
  generalize m <<< u = z
  cases s <;> simp <;> omega
theorem least_signed {b : Nat} {s : Bool} {m : Nat} {e : Int} (hb : single.read b = .number s m e) (h0 : (FloatKind.f32.format.order b 0 == some .lt) = false) : s = false ∨ m = 0 := by
  have hz : single.read 0 = .number false 0 (-149) := by decide
  change (((single.read b).order (single.read 0)) == some .lt) = false at h0
  rw [hb, hz] at h0
  simp only [Datum.order] at h0
  cases s
  · exact .inl rfl
  · right
    apply Classical.byContradiction
    intro hm
    have : Ieee.signed true m (e - min e (-149)).toNat < 0 := by
      simp only [Ieee.signed, if_true]
      have : 0 < m <<< (e - min e (-149)).toNat := by rw [Nat.shiftLeft_eq]; exact Nat.mul_pos (Nat.pos_of_ne_zero hm) (Nat.two_pow_pos _)
      omega
    have h2 : Ieee.signed false 0 (-149 - min e (-149)).toNat = 0 := by simp [Ieee.signed]
    rw [h2] at h0
    have h3 : compare (Ieee.signed true m (e - min e (-149)).toNat) 0 = .lt := Int.compare_eq_lt.2 this
    rw [h3] at h0
    cases h0
theorem signed_pos {s : Bool} {m : Nat} (h : s = false ∨ m = 0) (u : Nat) : 0 ≤ Ieee.signed s m u := by
  rcases h with rfl | rfl
  · exact Int.natCast_nonneg _
  · cases s <;> simp [Ieee.signed]
theorem write_number (s : Bool) (m : Nat) (e : Int) : single.write (.number s m e) = single.nearest s m e := rfl
theorem shrink_fin {b x : Nat} (hb : finF b = true) (hx : finF x = true) (h0 : (FloatKind.f32.format.order b 0 == some .lt) = false) : finF (shrinkF b x) = true := by
  obtain ⟨s, m, e, hb'⟩ := fin_out hb
  obtain ⟨t, n, f, hx'⟩ := fin_out hx
  obtain ⟨n1, n2, n3⟩ := single_range hx'
  obtain ⟨m1, m2, m3⟩ := single_range hb'
  have hS := least_signed hb' h0
  have hk : ∀ (neg : Bool) (T : Int), T.natAbs ≤ n * 2 ^ (f - min f e).toNat → finF (single.nearest neg T.natAbs (min f e)) = true := fun neg T hT =>
    near_fin (by omega) hT n1 (by omega)
  have hS1 := signed_pos hS (e - min f e).toNat
  have hA := signed_abs t n (f - min f e).toNat
  have hN := signed_neg s m (e - min f e).toNat
  unfold shrinkF
  split
  · next h1 =>
    change (((single.read x).order (single.read b)) == some .gt) = true at h1
    rw [hb', hx'] at h1
    simp only [Datum.order] at h1
    have h4 : compare (Ieee.signed t n (f - min f e).toNat) (Ieee.signed s m (e - min f e).toNat) = .gt := by simpa using h1
    have h5 := Int.compare_eq_gt.1 h4
    unfold Format.sub
    rw [hx', hb']
    simp only [Datum.opposite, Datum.sum, Option.map_some, Option.getD_some, write_number]
    refine hk _ _ ?_
    rw [hN]; omega
  · split
    · next h1 =>
      change (((single.read x).order (single.read (negF b))) == some .lt) = true at h1
      rw [read_neg, hb', hx'] at h1
      simp only [Datum.order, Datum.opposite] at h1
      have h4 : compare (Ieee.signed t n (f - min f e).toNat) (Ieee.signed (!s) m (e - min f e).toNat) = .lt := by simpa using h1
      have h5 := Int.compare_eq_lt.1 h4
      unfold Format.add
      rw [hx', hb']
      simp only [Datum.sum, Option.map_some, Option.getD_some, write_number]
      refine hk _ _ ?_
      rw [hN] at h5; omega
    · decide
theorem shrinkL_fin {b : Nat} (hb : finF b = true) (h0 : (FloatKind.f32.format.order b 0 == some .lt) = false) : ∀ xs : List Nat, allFin xs = true → allFin (shrinkL b xs) = true
  | [], _ => rfl
  | x :: r, h => by
    rw [allFin, Bool.and_eq_true] at h
    have := shrinkL_fin hb h0 r h.2
    unfold shrinkL at this ⊢
    rw [List.map_cons, allFin, shrink_fin hb h.1 h0, this]; rfl
def aboveF (b : Nat) : Bool := finF b && (FloatKind.f32.format.order b 0 == some .gt)
theorem less_ok {a b r : Nat} (ha : aboveF a = true) (hb : finF b = true) (h0 : (FloatKind.f32.format.order b 0 == some .lt) = false) (hr : single.mul a b = some r) : (FloatKind.f32.format.order r 0 == some .lt) = false := by
  rw [aboveF, Bool.and_eq_true] at ha
  obtain ⟨s, m, e, ha'⟩ := fin_out ha.1
  obtain ⟨t, n, f, hb'⟩ := fin_out hb
  have hz : single.read 0 = .number false 0 (-149) := by decide
  have hs : s = false := by
    have h1 := ha.2
    change (((single.read a).order (single.read 0)) == some .gt) = true at h1
    rw [ha', hz] at h1
    simp only [Datum.order] at h1
    have h4 : compare (Ieee.signed s m (e - min e (-149)).toNat) (Ieee.signed false 0 (-149 - min e (-149)).toNat) = .gt := by simpa using h1
    have h5 := Int.compare_eq_gt.1 h4
    have h2 : Ieee.signed false 0 (-149 - min e (-149)).toNat = 0 := by simp [Ieee.signed]
    rw [h2] at h5
    cases s
    · rfl
    · unfold Ieee.signed at h5
      generalize m <<< (e - min e (-149)).toNat = z at h5
      simp at h5; omega
  subst hs
  have ht := least_signed hb' h0
  unfold Format.mul at hr
  rw [ha', hb'] at hr
  simp only [Datum.product, Option.map_some, Option.some.injEq, Bool.false_xor, write_number] at hr
  show (((single.read r).order (single.read 0)) == some .lt) = false
  rw [hz, ← hr]
  rcases ht with rfl | rfl
  · have hrd : ∀ rung, rung ≤ single.infRung → (((single.read (single.word false rung)).order (.number false 0 (-149))) == some .lt) = false := by
      intro rung h
      have hc : ∀ (k : Nat) (p : Int), ((Datum.number false k p).order (.number false 0 (-149)) == some .lt) = false := by
        intro k p
        simp only [Datum.order]
        have h2 : Ieee.signed false 0 (-149 - min p (-149)).toNat = 0 := by simp [Ieee.signed]
        rw [h2]
        have h3 : 0 ≤ Ieee.signed false k (p - min p (-149)).toNat := Int.natCast_nonneg _
        cases hcc : compare (Ieee.signed false k (p - min p (-149)).toNat) 0
        · have := Int.compare_eq_lt.1 hcc; omega
        · rfl
        · rfl
      rw [read_word single (by decide) false (Nat.lt_of_le_of_lt h (Format.infRung_lt single))]
      split
      · exact hc _ _
      · split
        · exact hc _ _
        · rw [if_pos (by omega)]; rfl
    unfold Format.nearest
    dsimp only
    split
    · exact hrd 0 (Nat.zero_le _)
    · exact hrd _ (Nat.min_le_right _ _)
  · rw [Nat.mul_zero]
    unfold Format.nearest
    rw [if_pos rfl]
    cases t <;> decide
/-! ### The reference's numbers -/
def dotGo : Option Nat → List Nat → List Nat → Option Nat
  | acc, a :: r, b :: s => dotGo (arO .add acc (arO .mul (some a) (some b))) r s
  | acc, _, _ => acc
def dotO (a b : List Nat) : Option Nat := dotGo (some 0) a b
def rowF (r : RowsD) (i : Nat) : List Nat := (r.numbers.drop (i * r.vars.toNat)).take r.vars.toNat
def leftAt (r : RowsD) (x : List Nat) (i : Nat) : Option Nat := arO .sub (some (r.bounds.getD i 0)) (dotO (rowF r i) x)
def leftO (r : RowsD) (x : List Nat) : Option (List Nat) := seqO ((List.range r.bounds.length).map (leftAt r x))
/-- the sum over the rows from i on, n rows -/
def sumGo (r : RowsD) (left : List Nat) (k : Nat) : Option Nat → Nat → Nat → Option Nat
  | acc, _, 0 => acc
  | acc, i, n + 1 => sumGo r left k (arO .add acc (arO .mul (some (r.numbers.getD (i * r.vars.toNat + k) 0)) (some (left.getD i 0)))) (i + 1) n
def sumO (r : RowsD) (left : List Nat) (k : Nat) : Option Nat := sumGo r left k (some 0) 0 r.bounds.length
def nextAt (r : RowsD) (step : Nat) (x left : List Nat) (k : Nat) : Option Nat := arO .add (some (x.getD k 0)) (arO .mul (some step) (sumO r left k))
def nextO (r : RowsD) (step : Nat) (x left : List Nat) : Option (List Nat) := seqO ((List.range r.vars.toNat).map (nextAt r step x left))
def stepO (r : RowsD) (step less : Nat) (x : List Nat) : Option (List Nat) := (leftO r x).bind fun left => (nextO r step x left).map (shrinkL less)
def runO (r : RowsD) (step less : Nat) : Nat → List Nat → Option (List Nat)
  | 0, x => some x
  | n + 1, x => (stepO r step less x).bind (runO r step less n)
def lessO (step by_ : Nat) : Option Nat := arO .mul (some step) (some by_)
def stepsOk (r : RowsD) (step by_ : Nat) (rounds : Int) : Bool := okRows r && aboveF step && okBy by_ && inB 0 200 rounds && (lessO step by_).isSome
def resO : Option (List Nat) → List Nat × Bool
  | some x => (x, true)
  | none => ([], false)
def shrinkSteps (r : RowsD) (step by_ : Nat) (rounds : Int) : List Nat × Bool :=
  if stepsOk r step by_ rounds then resO (runO r step ((lessO step by_).getD 0) rounds.toNat (List.replicate r.vars.toNat 0)) else ([], false)
theorem shrinkSteps_no {r : RowsD} {step by_ : Nat} {rounds : Int} (h : stepsOk r step by_ rounds = false) : shrinkSteps r step by_ rounds = ([], false) := by rw [shrinkSteps, h]; rfl
theorem shrinkSteps_yes {r : RowsD} {step by_ less : Nat} {rounds : Int} (h : stepsOk r step by_ rounds = true) (hl : lessO step by_ = some less) : shrinkSteps r step by_ rounds = resO (runO r step less rounds.toNat (List.replicate r.vars.toNat 0)) := by rw [shrinkSteps, h, hl]; rfl
theorem arO_fin {op : BinOp} {x y : Option Nat} {b : Nat} (h : arO op x y = some b) : finF b = true := by
  unfold arO at h
  cases x with
  | none => cases h
  | some x =>
    cases y with
    | none => cases h
    | some y =>
      cases hr : floatBits op .f32 x y with
      | none => simp [hr] at h
      | some r =>
        simp only [Option.bind_some, hr, clsF] at h
        split at h
        · next hf => rw [← Option.some.inj h]; exact hf
        · cases h
theorem seqO_fin : ∀ {os : List (Option Nat)} {zs : List Nat}, (∀ o ∈ os, ∀ b, o = some b → finF b = true) → seqO os = some zs → allFin zs = true ∧ zs.length = os.length
  | [], zs, _, h => by obtain rfl : [] = zs := Option.some.inj h; exact ⟨rfl, rfl⟩
  | o :: os, zs, h, e => by
    cases o with
    | none => cases e
    | some a =>
      cases hs : seqO os with
      | none => simp [seqO, hs] at e
      | some r =>
        simp only [seqO, hs, Option.bind_some, Option.map_some, Option.some.injEq] at e
        subst e
        obtain ⟨h1, h2⟩ := seqO_fin (fun o ho => h o (List.mem_cons_of_mem _ ho)) hs
        exact ⟨by rw [allFin, h _ List.mem_cons_self a rfl, h1]; rfl, by simp [h2]⟩
theorem leftO_some {r : RowsD} {x left : List Nat} (h : leftO r x = some left) : allFin left = true ∧ left.length = r.bounds.length := by
  have := seqO_fin (fun o ho b e => by
    obtain ⟨i, _, rfl⟩ := List.mem_map.1 ho
    exact arO_fin e) h
  simpa using this
theorem nextO_some {r : RowsD} {step : Nat} {x left zs : List Nat} (h : nextO r step x left = some zs) : allFin zs = true ∧ zs.length = r.vars.toNat := by
  have := seqO_fin (fun o ho b e => by
    obtain ⟨i, _, rfl⟩ := List.mem_map.1 ho
    exact arO_fin e) h
  simpa using this
theorem next_succ (r : RowsD) (step : Nat) (x left : List Nat) (k : Nat) : (List.range (k + 1)).map (nextAt r step x left) = (List.range k).map (nextAt r step x left) ++ [nextAt r step x left k] := by rw [List.range_succ, List.map_append]; rfl
theorem run_none1 {r : RowsD} {step less n : Nat} {x : List Nat} (h : leftO r x = none) : runO r step less (n + 1) x = none := by rw [runO, stepO, h]; rfl
theorem run_none2 {r : RowsD} {step less n : Nat} {x left : List Nat} (h : leftO r x = some left) (h2 : nextO r step x left = none) : runO r step less (n + 1) x = none := by rw [runO, stepO, h]; simp [h2]
theorem run_some {r : RowsD} {step less n : Nat} {x left zs : List Nat} (h : leftO r x = some left) (h2 : nextO r step x left = some zs) : runO r step less (n + 1) x = runO r step less n (shrinkL less zs) := by rw [runO, stepO, h]; simp [h2]
theorem shrinkL_len (b : Nat) (xs : List Nat) : (shrinkL b xs).length = xs.length := by simp [shrinkL]
theorem sum_step {r : RowsD} {left : List Nat} {k i n : Nat} (ac : Option Nat) (h : i < n) : sumGo r left k ac i (n - i) = sumGo r left k (arO .add ac (arO .mul (some (r.numbers.getD (i * r.vars.toNat + k) 0)) (some (left.getD i 0)))) (i + 1) (n - (i + 1)) := by
  rw [show n - i = (n - (i + 1)) + 1 by omega, sumGo]
theorem sum_end {r : RowsD} {left : List Nat} {k i n : Nat} (ac : Option Nat) (h : n ≤ i) : sumGo r left k ac i (n - i) = ac := by
  rw [show n - i = 0 by omega, sumGo]
theorem zeros_fin : ∀ n, allFin (List.replicate n 0) = true
  | 0 => rfl
  | n + 1 => by rw [List.replicate_succ, allFin, zeros_fin n]; decide
theorem getD_fin {zs : List Nat} {k : Nat} (h : allFin zs = true) (hk : k < zs.length) : finF (zs.getD k 0) = true := by
  rw [show zs.getD k 0 = zs[k] by simp [List.getD, hk]]; exact allFin_get zs k hk h
theorem num_lt {i V k n : Nat} (hi : i < n) (hk : k < V) : i * V + k < V * n := by
  have : (i + 1) * V ≤ n * V := Nat.mul_le_mul_right _ hi
  rw [Nat.succ_mul] at this; rw [Nat.mul_comm V n]; omega
theorem less_fin {step by_ less : Nat} (h : lessO step by_ = some less) : single.mul step by_ = some less ∧ finF less = true := by
  refine ⟨?_, arO_fin h⟩
  unfold lessO arO at h
  simp only [Option.bind_some] at h
  cases hr : floatBits .mul .f32 step by_ with
  | none => simp [hr] at h
  | some r =>
    simp only [hr, Option.bind_some, clsF] at h
    split at h
    · rw [← Option.some.inj h]; exact hr
    · cases h
end Go.Proofs.Ytocngcpdpeflnaa
