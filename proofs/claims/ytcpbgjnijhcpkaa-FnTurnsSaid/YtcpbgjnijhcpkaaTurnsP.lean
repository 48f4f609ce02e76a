/-
  Plain: turns of one kind alone, models of pairs, at most so many true values, parities.
-/
import Derived.Test.YtcpbgjnijhcpkaaModelsP
import Derived.Test.YtcpbgjnijhcpkaaTurns
import Derived.Test.YtcpbgjnijhcpkaaPairM
import Derived.Test.YtcpbgjnijhcpkaaOdd
import Derived.Test.YtcpbgjnijhcpkaaAtMostP
namespace Go.Proofs.Ytcpbgjnijhcpkaa
open Go.RowKit
set_option linter.unusedVariables false
set_option maxRecDepth 100000

theorem turn_some (L : Nat) (cs : List (List Int)) (d : Nat) : ∀ n, turnR L cs (List.replicate d false) n = true ↔ ∃ m, m < 2 ^ d ∧ formTrue (valuesN L (n * 2 ^ d + m)) cs = true := by
  induction d with
  | zero =>
    intro n
    show formTrue (valuesN L n) cs = true ↔ _
    constructor
    · intro h; exact ⟨0, by decide, by simpa using h⟩
    · rintro ⟨m, h1, h2⟩
      obtain rfl : m = 0 := by simpa using h1
      simpa using h2
  | succ d ih =>
    intro n
    rw [List.replicate_succ, turnR_some, Bool.or_eq_true, ih, ih]
    have e : 2 ^ (d + 1) = 2 ^ d + 2 ^ d := by rw [Nat.pow_succ]; omega
    have e1 : n * 2 ^ (d + 1) = 2 * n * 2 ^ d := by rw [e, Nat.mul_add, Nat.mul_comm 2 n, Nat.mul_assoc, ← Nat.mul_add]; congr 1; omega
    have e2 : (2 * n + 1) * 2 ^ d = 2 * n * 2 ^ d + 2 ^ d := by rw [Nat.add_mul, Nat.one_mul]
    rw [e1, e2, e]
    constructor
    · rintro (⟨m, h1, h2⟩ | ⟨m, h1, h2⟩)
      · exact ⟨m, by omega, h2⟩
      · exact ⟨2 ^ d + m, by omega, by rw [← Nat.add_assoc]; exact h2⟩
    · rintro ⟨m, h1, h2⟩
      by_cases h : m < 2 ^ d
      · exact .inl ⟨m, h, h2⟩
      · refine .inr ⟨m - 2 ^ d, by omega, ?_⟩
        rw [show 2 * n * 2 ^ d + 2 ^ d + (m - 2 ^ d) = 2 * n * 2 ^ d + m by omega]; exact h2
theorem turn_every (L : Nat) (cs : List (List Int)) (d : Nat) : ∀ n, turnR L cs (List.replicate d true) n = true ↔ ∀ m, m < 2 ^ d → formTrue (valuesN L (n * 2 ^ d + m)) cs = true := by
  induction d with
  | zero =>
    intro n
    show formTrue (valuesN L n) cs = true ↔ _
    constructor
    · intro h m h1
      obtain rfl : m = 0 := by simpa using h1
      simpa using h
    · intro h
      simpa using h 0 (by decide)
  | succ d ih =>
    intro n
    rw [List.replicate_succ, turnR_all, Bool.and_eq_true, ih, ih]
    have e : 2 ^ (d + 1) = 2 ^ d + 2 ^ d := by rw [Nat.pow_succ]; omega
    have e1 : n * 2 ^ (d + 1) = 2 * n * 2 ^ d := by rw [e, Nat.mul_add, Nat.mul_comm 2 n, Nat.mul_assoc, ← Nat.mul_add]; congr 1; omega
    have e2 : (2 * n + 1) * 2 ^ d = 2 * n * 2 ^ d + 2 ^ d := by rw [Nat.add_mul, Nat.one_mul]
    rw [e1, e2, e]
    constructor
    · rintro ⟨g1, g2⟩ m h1
      by_cases h : m < 2 ^ d
      · exact g1 m h
      · have := g2 (m - 2 ^ d) (by omega)
        rwa [show 2 * n * 2 ^ d + 2 ^ d + (m - 2 ^ d) = 2 * n * 2 ^ d + m by omega] at this
    · intro h
      exact ⟨fun m h1 => h m (by omega), fun m h1 => by rw [Nat.add_assoc]; exact h (2 ^ d + m) (by omega)⟩
theorem countN_all (L : Nat) (cs : List (List Int)) (N : Nat) : countN L cs N = N ↔ ∀ n, n < N → formTrue (valuesN L n) cs = true := by
  have h := List.countP_eq_length (p := fun k => formTrue (valuesN L k) cs) (l := List.range N)
  rw [List.length_range] at h
  show List.countP _ _ = _ ↔ _
  rw [h]
  simp only [List.mem_range]
/-- what FnTurns compares of turns, in numbers -/
structure TurnsOk (f : FormD) (L : Nat) : Prop where
  cnt : ∃ c : Int, countModels f = (c, true) ∧ (0 ≤ c ∧ c ≤ 1024) ∧ allSome f (List.replicate L false) = (decide (0 < c), true) ∧ allSome f (List.replicate L true) = (decide (c = ((2 ^ L : Nat) : Int)), true)
  all : ∀ bs : List Bool, bs.length = L → ∃ a, allSome f bs = (a, true)
theorem turnsOk {f : FormD} {L : Nat} (hv : validForm f = true) (hL : f.letters = (L : Int)) : TurnsOk f L := by
  have hL10 : L ≤ 10 := by have := (validForm_bounds hv).1; omega
  have hc : countModels f = (((countN L f.clauses (2 ^ L) : Nat) : Int), true) := by unfold countModels; rw [hv, hL, Int.toNat_natCast]; rfl
  have hcl : countN L f.clauses (2 ^ L) ≤ 1024 := Nat.le_trans (countN_le _ _ _) (pow_L hL10)
  have ht : ∀ bs : List Bool, bs.length = L → isTurns f bs = true := fun bs h => by
    unfold isTurns; rw [hv, hL, h, decide_eq_true rfl]; rfl
  have hr : ∀ b, (List.replicate L b : List Bool).length = L := fun b => by simp
  refine ⟨⟨_, hc, ⟨by omega, by omega⟩, ?_, ?_⟩, fun bs h => ⟨_, by unfold allSome; rw [if_pos (ht bs h)]⟩⟩
  · unfold allSome
    rw [if_pos (ht _ (hr _)), hr]
    congr 1
    rw [Bool.eq_iff_iff, turn_some, decide_eq_true_eq]
    simp only [Nat.zero_mul, Nat.zero_add]
    rw [← countN_pos L f.clauses (2 ^ L)]
    omega
  · unfold allSome
    rw [if_pos (ht _ (hr _)), hr]
    congr 1
    rw [Bool.eq_iff_iff, turn_every, decide_eq_true_eq]
    simp only [Nat.zero_mul, Nat.zero_add]
    rw [← countN_all L f.clauses (2 ^ L)]
    generalize 2 ^ L = N
    omega
theorem pair_holds {f : FormD} {L : Nat} (hv : validForm f = true) (hL : f.letters = (L : Int)) (h : (pairModel f).2 = true) : (pairModel f).1.length = L ∧ holdsBy f (pairModel f).1 = (true, true) := by
  unfold pairModel at h ⊢
  split at h
  · rename_i hp
    rw [if_pos hp]
    cases hf : firstFrom L f.clauses 0 (2 ^ L) with
    | none => rw [firstModel_none hv hL hf] at h; cases h
    | some n =>
      rw [firstModel_some hv hL hf]
      obtain ⟨_, _, h3⟩ := (firstFrom_iff L f.clauses (2 ^ L) 0).2 n hf
      refine ⟨valuesN_len L n, ?_⟩
      unfold holdsBy
      simp only
      rw [hv, valuesN_len, hL, decide_eq_true rfl, h3]
      rfl
  · cases h
/-! ### sums of choices -/
def binC (L : Nat) : Nat → Nat
  | 0 => 1
  | k + 1 => binC L k * (L - k) / (k + 1)
def sumC (L : Nat) : Nat → Nat
  | 0 => 0
  | k + 1 => sumC L k + binC L k
theorem binC_le : ∀ L, L ≤ 6 → ∀ k, k ≤ 7 → binC L k ≤ 20 ∧ sumC L k ≤ 64 := by decide +kernel
def atOk (L m : Nat) : Bool :=
  let r := atMostF L m
  r.2 && decide (r.1.letters = (L : Int)) && decide (r.1.clauses.length ≤ 48) && decide ((r.1.clauses.map List.length).sum ≤ 1000) && decide (countN L r.1.clauses (2 ^ L) = sumC L (m + 1)) && validForm r.1
theorem atOk_all : ∀ L, L ≤ 6 → 1 ≤ L → ∀ m, m ≤ L → atOk L m = true := by decide +kernel
theorem at_most {L m : Nat} (h1 : 1 ≤ L) (h2 : L ≤ 6) (h3 : m ≤ L) : ∃ form : FormD, atMostF L m = (form, true) ∧ form.letters = (L : Int) ∧ SmallII form.clauses ∧ countModels form = (((sumC L (m + 1) : Nat) : Int), true) := by
  have h := atOk_all L h2 h1 m h3
  unfold atOk at h
  simp only [Bool.and_eq_true, decide_eq_true_eq] at h
  obtain ⟨⟨⟨⟨⟨a1, a2⟩, a3⟩, a4⟩, a5⟩, a6⟩ := h
  refine ⟨(atMostF L m).1, by rw [← a1], a2, ⟨by omega, by omega⟩, ?_⟩
  unfold countModels
  rw [if_pos a6, a2, Int.toNat_natCast, a5]
/-! ### parities -/
theorem firstP_some {p : Nat → Bool} : ∀ (k a n : Nat), firstP p a k = some n → a ≤ n ∧ n < a + k ∧ p n = true := by
  intro k
  induction k with
  | zero => intro a n h; simp [firstP] at h
  | succ k ih =>
    intro a n h
    cases hp : p a with
    | true => rw [firstP_hit p a k hp] at h; cases h; exact ⟨Nat.le_refl _, by omega, hp⟩
    | false => rw [firstP_step p a k hp] at h; obtain ⟨h1, h2, h3⟩ := ih (a + 1) n h; exact ⟨by omega, by omega, h3⟩
/-- the parity that the law computes: true where an even number of the row's letters is true -/
def evenGo (vs : List Bool) (e : Bool) (row : List Int) : Bool := row.foldl (fun e x => if vs.getD (x.toNat - 1) false then !e else e) e
theorem evenGo_odd (L n : Nat) (row : List Int) (h : ∀ x ∈ row, 1 ≤ x ∧ x ≤ (L : Int)) : ∀ e, evenGo (valuesN L n) (!e) row = !(row.foldl (fun s x => s != bitN n (L - x.toNat)) e) := by
  induction row with
  | nil => intro e; rfl
  | cons x r ih =>
    intro e
    have hx := h x (List.mem_cons_self ..)
    have hg := valuesN_get L n x.toNat (by omega) (by omega)
    unfold evenGo
    rw [List.foldl_cons, List.foldl_cons, hg]
    have := ih (fun y hy => h y (List.mem_cons_of_mem _ hy)) (e != bitN n (L - x.toNat))
    unfold evenGo at this
    rw [← this]
    cases bitN n (L - x.toNat) <;> cases e <;> rfl
theorem even_odd (L n : Nat) (row : List Int) (h : ∀ x ∈ row, 1 ≤ x ∧ x ≤ (L : Int)) : evenGo (valuesN L n) true row = !(oddRow L n row) := evenGo_odd L n row h false
theorem oddAll_get {L n : Nat} : ∀ (rows : List (List Int)) (odd : List Bool), rows.length = odd.length → oddAll L n rows odd = true → ∀ k (h : k < rows.length), oddRow L n rows[k] = odd.getD k false := by
  intro rows
  induction rows with
  | nil => intro odd _ _ k h; simp at h
  | cons r rs ih =>
    intro odd hl h k hk
    cases odd with
    | nil => simp at hl
    | cons o os =>
      rw [oddAll, Bool.and_eq_true, beq_iff_eq] at h
      cases k with
      | zero => exact h.1
      | succ k => exact ih os (by simpa using hl) h.2 k (by simpa using hk)
theorem odd_vals {L : Nat} {rows : List (List Int)} {odd : List Bool} (hok : oddOk (L : Int) rows odd = true) (h : (oddModel (L : Int) rows odd).2 = true) :
    ∃ n, (oddModel (L : Int) rows odd).1 = valuesN L n ∧ ∀ k (hk : k < rows.length), evenGo (valuesN L n) true rows[k] = !(odd.getD k false) := by
  have hrows : ∀ r ∈ rows, onGo (L : Int) 0 r = true ∧ odd.length = rows.length := by
    unfold oddOk at hok
    simp only [Bool.and_eq_true, decide_eq_true_eq, List.all_eq_true] at hok
    exact fun r hr => ⟨hok.2.2.2 r hr, hok.2.2.1⟩
  cases hf : firstP (fun n => oddAll L n rows odd) 0 (2 ^ L) with
  | none =>
    exfalso
    unfold oddModel at h
    rw [if_pos hok, Int.toNat_natCast, hf] at h
    cases h
  | some n =>
    rw [oddModel_some hok hf]
    refine ⟨n, rfl, fun k hk => ?_⟩
    obtain ⟨_, _, h3⟩ := firstP_some _ _ _ hf
    have hr := hrows _ (List.getElem_mem hk)
    rw [even_odd L n _ (on_all hr.1), oddAll_get rows odd hr.2.symm h3 k hk]
end Go.Proofs.Ytcpbgjnijhcpkaa
