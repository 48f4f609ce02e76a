/-
  Finite floats: the tests, and a list shrunk towards zero (spec and impl).
-/
import Derived.Test.YtocngcpdpeflnaaAppFL
import Derived.Test.YtocngcpdpeflnaaNum
namespace Go.Proofs.Ytocngcpdpeflnaa
open Go.RowKit
set_option linter.unusedVariables false
set_option maxRecDepth 100000
open Ieee (Datum Format single double)

/-! ### Plain -/
def allFin : List Nat → Bool
  | [] => true
  | x :: r => finF x && allFin r
theorem allFin_get : ∀ (xs : List Nat) (k : Nat) (hk : k < xs.length), allFin xs = true → finF xs[k] = true
  | x :: r, 0, _, h => by simp [allFin] at h; exact h.1
  | x :: r, k + 1, hk, h => by simp [allFin] at h; exact allFin_get r k (by simpa using hk) h.2
def negF (b : Nat) : Nat := Op.negFloat .f32 b
theorem read_neg (b : Nat) : single.read (negF b) = (single.read b).opposite := by
  have hs : single.signWeight = 2 ^ 31 := by decide
  have hn : negF b = b ^^^ 2 ^ 31 := rfl
  have h1 : (b ^^^ 2 ^ 31) % 2 ^ 31 = b % 2 ^ 31 := by
    rw [Nat.xor_mod_two_pow]; simp
  have h2 : ((b ^^^ 2 ^ 31) / 2 ^ 31 % 2 == 1) = !(b / 2 ^ 31 % 2 == 1) := by
    rw [Nat.xor_div_two_pow, show (2 ^ 31 / 2 ^ 31 : Nat) = 1 by decide]
    have h3 := Nat.xor_mod_two_pow (a := b / 2 ^ 31) (b := 1) (n := 1)
    rw [show (2 : Nat) ^ 1 = 2 by rfl] at h3
    rw [h3]
    rcases Nat.mod_two_eq_zero_or_one (b / 2 ^ 31) with h | h <;> rw [h] <;> decide
  unfold Format.read
  rw [hn, hs]
  simp only [h1, h2]
  split
  · rfl
  · split
    · rfl
    · split <;> rfl
/-- what is left of x, shrunk by b -/
def shrinkF (b x : Nat) : Nat := if FloatKind.f32.format.order x b == some .gt then (single.sub x b).getD 0 else if FloatKind.f32.format.order x (negF b) == some .lt then (single.add x b).getD 0 else 0
theorem shrink_one {b x : Nat} (hb : finF b = true) (hx : finF x = true) (h0 : (FloatKind.f32.format.order b 0 == some .lt) = false) (h1 : (FloatKind.f32.format.order x b == some .gt) = true) :
    (FloatKind.f32.format.order x (negF b) == some .lt) = false := by
  obtain ⟨s, m, e, hb⟩ := fin_out hb
  obtain ⟨t, n, f, hx⟩ := fin_out hx
  have hz : single.read 0 = .number false 0 (-149) := by decide
  change (((single.read b).order (single.read 0)) == some .lt) = false at h0
  change (((single.read x).order (single.read b)) == some .gt) = true at h1
  show (((single.read x).order (single.read (negF b))) == some .lt) = false
  rw [read_neg]
  rw [hb, hz] at h0
  rw [hb, hx] at h1
  rw [hb, hx]
  simp only [Datum.order, Datum.opposite] at *
  have hk : ∀ u, 0 ≤ Ieee.signed s m u ∧ Ieee.signed (!s) m u ≤ 0 := by
    intro u
    cases s
    · have hp : (0 : Int) ≤ ((m <<< u : Nat) : Int) := Int.natCast_nonneg _
      constructor
      · show (0 : Int) ≤ ((m <<< u : Nat) : Int)
        exact hp
      · show -((m <<< u : Nat) : Int) ≤ 0
        omega
    · have hm : m = 0 := by
        apply Classical.byContradiction
        intro hm
        have : Ieee.signed true m (e - min e (-149)).toNat < 0 := by
          simp only [Ieee.signed, if_true]
          have : 0 < m <<< (e - min e (-149)).toNat := by rw [Nat.shiftLeft_eq]; exact Nat.mul_pos (Nat.pos_of_ne_zero hm) (Nat.two_pow_pos _)
          omega
        have h2 : Ieee.signed false 0 (-149 - min e (-149)).toNat = 0 := by simp [Ieee.signed]
        rw [h2] at h0
        have h3 : compare (Ieee.signed true m (e - min e (-149)).toNat) 0 = .lt := Int.compare_eq_lt.2 this
        rw [h3] at h0
        cases h0
      subst hm
      simp [Ieee.signed]
  obtain ⟨h2, h3⟩ := hk (e - min f e).toNat
  have h4 : compare (Ieee.signed t n (f - min f e).toNat) (Ieee.signed s m (e - min f e).toNat) = .gt := by simpa using h1
  have h5 := Int.compare_eq_gt.1 h4
  have h6 : compare (Ieee.signed t n (f - min f e).toNat) (Ieee.signed (!s) m (e - min f e).toNat) ≠ .lt := fun h => by
    have := Int.compare_eq_lt.1 h
    omega
  cases hc : compare (Ieee.signed t n (f - min f e).toNat) (Ieee.signed (!s) m (e - min f e).toNat)
  · exact absurd hc h6
  · rfl
  · rfl
@[go_sem] theorem unary_neg_float (k : FloatKind) (b : Nat) : Op.unary .neg (.float k b) = pure (.float k (Op.negFloat k b)) := rfl
/-! ### IsFinite -/
theorem sub_fin {b : Nat} (h : finF b = true) (wx : World) : (binOp .sub 23 (.float .f32 b) (.float .f32 b)).run Try.prog wx = .ok (.float .f32 0) wx := run_float_arith (P := Try.prog) wx .sub 23 .f32 b b 0 (sub_self_fin h)
def nanS (b : Nat) (w : World) : Nat := (Question.nanBits .f32 b b).cut (w.tape w.drawn (.nanBits .f32 b b))
theorem nanS_eq (b : Nat) (w : World) : (FloatKind.f32.format.order (nanS b w) 0 == some .eq) = false := by
  have h : nanF (nanS b w) = true := nanWord32 _
  rw [show FloatKind.f32.format.order (nanS b w) 0 = none from order_nan h]; rfl
theorem sub_not {b : Nat} (h : finF b = false) (wx : World) : (binOp .sub 23 (.float .f32 b) (.float .f32 b)).run Try.prog wx = .ok (.float .f32 (nanS b wx)) wx.drew := by
  have hs : FloatKind.f32.format.sub b b = none := sub_self_not h
  simp [binOp, Op.floatArith, hs, nanS, Question.forced]
set_option maxHeartbeats 400000 in
set_option maxRecDepth 100000 in
theorem l01Finite_any (b : Nat) (w : World) :
    Calls Try.prog 38 #[.float .f32 b] w fun e w' => e = .returned (.bool (finF b)) ∧ Drew w w' := by
  cases hb : finF b
  · have hsub := sub_not hb
    have hz := nanS_eq b
    go_enter Try.func38, Try.ntmps38
    go_wp2
    go_ret
    exact ⟨rfl, Drew.one w _⟩
  · have hsub := sub_fin hb
    have hz : (FloatKind.f32.format.order 0 0 == some .eq) = true := by decide
    go_enter Try.func38, Try.ntmps38
    go_wp2
    go_ret
    exact ⟨rfl, Drew.refl _⟩
set_option maxHeartbeats 400000 in
set_option maxRecDepth 100000 in
theorem IsFinite_any (b : Nat) (w : World) :
    Calls Try.prog 25 #[.float .f32 b] w fun e w' => e = .returned (.bool (finF b)) ∧ Drew w w' := by
  cases hb : finF b
  · have hsub := sub_not hb
    have hz := nanS_eq b
    go_enter Try.func25, Try.ntmps25
    go_wp2
    go_ret
    exact ⟨rfl, Drew.one w _⟩
  · have hsub := sub_fin hb
    have hz : (FloatKind.f32.format.order 0 0 == some .eq) = true := by decide
    go_enter Try.func25, Try.ntmps25
    go_wp2
    go_ret
    exact ⟨rfl, Drew.refl _⟩
set_option maxHeartbeats 400000 in
set_option maxRecDepth 100000 in
theorem l02Finite_any {l h : Nat} (v : Value) (xs : List Nat) (w : World) (hv : Flts w l h v xs) :
    Calls Try.prog 40 #[v] w fun e w' => e = .returned (.bool (allFin xs)) ∧ Drew w w' := by
  obtain ⟨a, cap, rfl, hc1, hc2, hd⟩ := hv.out
  go_enter Try.func40, Try.ntmps40
  go_wp2_with fail
  go_loopw [3] (fun i wr => ∃ k : Nat, k ≤ xs.length ∧ i = .int .i64 k ∧ Hid (allFin (xs.drop k) = allFin xs) ∧ Drew w wr) (fun i _ => xs.length - (intOf i).toNat)
  case atStart => exact ⟨0, Nat.zero_le _, rfl, Lib.hid (by simp), Drew.refl _⟩
  case round =>
    obtain ⟨k, hk, rfl, H, hD⟩ := hrel
    have hcw := hD.cell
    by_cases hlt : k < xs.length
    · have HD := Lib.hid (drop_cons xs k hlt)
      rcases hd with rfl | ⟨b, off, rfl, hb1, hb2, hb3, hcell⟩
      · simp at hlt
      have hck := hcell k hlt
      clear hcell
      cases hf : finF xs[k]
      · go_wp2_with (go_at_call 38; refine (l01Finite_any _ _).mono ?_; rintro e w' ⟨rfl, m, rfl⟩; rw [hf])
        go_ret
        exact ⟨ret_bool (by rw [← H.out, HD.out, allFin, hf]; rfl), hD.step _⟩
      · go_wp2_with (go_at_call 38; refine (l01Finite_any _ _).mono ?_; rintro e w' ⟨rfl, m, rfl⟩; rw [hf])
        go_roundw
        case rel => exact ⟨k + 1, by omega, by go_num, Lib.hid (by rw [← H.out, HD.out, allFin, hf]; rfl), hD.step _⟩
        case measure => simp [intOf]; omega
    · go_wp2
      go_ret
      exact ⟨ret_bool (by rw [← H.out, drop_len _ _ (by omega)]; rfl), hD⟩
set_option maxHeartbeats 400000 in
set_option maxRecDepth 100000 in
theorem areFinite_any {l h : Nat} (v : Value) (xs : List Nat) (w : World) (hv : Flts w l h v xs) :
    Calls Try.prog 43 #[v] w fun e w' => e = .returned (.bool (allFin xs)) ∧ Drew w w' := by
  obtain ⟨a, cap, rfl, hc1, hc2, hd⟩ := hv.out
  go_enter Try.func43, Try.ntmps43
  go_wp2_with fail
  go_loopw [7] (fun i wr => ∃ k : Nat, k ≤ xs.length ∧ i = .int .i64 k ∧ Hid (allFin (xs.drop k) = allFin xs) ∧ Drew w wr) (fun i _ => xs.length - (intOf i).toNat)
  case atStart => exact ⟨0, Nat.zero_le _, rfl, Lib.hid (by simp), Drew.refl _⟩
  case round =>
    obtain ⟨k, hk, rfl, H, hD⟩ := hrel
    have hcw := hD.cell
    by_cases hlt : k < xs.length
    · have HD := Lib.hid (drop_cons xs k hlt)
      rcases hd with rfl | ⟨b, off, rfl, hb1, hb2, hb3, hcell⟩
      · simp at hlt
      have hck := hcell k hlt
      clear hcell
      cases hf : finF xs[k]
      · go_wp2_with (go_at_call 25; refine (IsFinite_any _ _).mono ?_; rintro e w' ⟨rfl, m, rfl⟩; rw [hf])
        go_ret
        exact ⟨ret_bool (by rw [← H.out, HD.out, allFin, hf]; rfl), hD.step _⟩
      · go_wp2_with (go_at_call 25; refine (IsFinite_any _ _).mono ?_; rintro e w' ⟨rfl, m, rfl⟩; rw [hf])
        go_roundw
        case rel => exact ⟨k + 1, by omega, by go_num, Lib.hid (by rw [← H.out, HD.out, allFin, hf]; rfl), hD.step _⟩
        case measure => simp [intOf]; omega
    · go_wp2
      go_ret
      exact ⟨ret_bool (by rw [← H.out, drop_len _ _ (by omega)]; rfl), hD⟩
/-- the list's own test -/
def okFl (xs : List Nat) : Bool := inB 1 64 (xs.length : Int) && allFin xs
def okBy (b : Nat) : Bool := finF b && !(FloatKind.f32.format.order b 0 == some .lt)
def shrinkL (b : Nat) (xs : List Nat) : List Nat := xs.map (shrinkF b)
def shrinkList (xs : List Nat) (b : Nat) : List Nat × Bool := if okFl xs && okBy b then (shrinkL b xs, true) else ([], false)
theorem shrinkL_snoc (b : Nat) (xs : List Nat) (k : Nat) (h : k < xs.length) : shrinkL b (xs.take k) ++ [shrinkF b xs[k]] = shrinkL b (xs.take (k + 1)) := by
  unfold shrinkL; rw [List.take_succ_eq_append_getElem h, List.map_append]; rfl
set_option maxHeartbeats 400000 in
set_option maxRecDepth 100000 in
theorem l06Floats_any {l h : Nat} (v : Value) (xs : List Nat) (w : World) (hv : Flts w l h v xs) :
    Calls Try.prog 21 #[v] w fun e w' => e = .returned (.bool (okFl xs)) ∧ Drew w w' := by
  obtain ⟨a, cap, rfl, hc1, hc2, hd⟩ := hv.out
  have HC := Lib.hid (fun wx (hx : Flts wx l h (.slice a xs.length cap) xs) => l02Finite_any _ xs wx hx)
  have HV := Lib.hid hv
  clear hv hd
  by_cases h1 : 1 ≤ xs.length
  · by_cases h2 : xs.length ≤ 64
    · have HR := Lib.hid (show okFl xs = allFin xs by rw [okFl, inB, decide_eq_true (by omega), decide_eq_true (by omega)]; rfl)
      go_enter Try.func21, Try.ntmps21
      go_wp2_with (go_at_call 40; refine (HC.out _ HV.out).mono ?_; rintro e w' ⟨rfl, m, rfl⟩; rw [← HR.out])
      go_ret
      exact ⟨rfl, Drew.one w m⟩
    · have HR := Lib.hid (show okFl xs = false by rw [okFl, inB, decide_eq_false (p := (xs.length : Int) ≤ 64) (by omega)]; simp)
      go_enter Try.func21, Try.ntmps21
      go_wp2
      go_ret
      exact ⟨ret_bool HR.out.symm, Drew.refl _⟩
  · have HR := Lib.hid (show okFl xs = false by rw [okFl, inB, decide_eq_false (p := 1 ≤ (xs.length : Int)) (by omega)]; simp)
    go_enter Try.func21, Try.ntmps21
    go_wp2
    go_ret
    exact ⟨ret_bool HR.out.symm, Drew.refl _⟩
set_option maxHeartbeats 400000 in
set_option maxRecDepth 100000 in
theorem isShort_any {l h : Nat} (v : Value) (xs : List Nat) (w : World) (hv : Flts w l h v xs) (hz : xs.length ≤ 1048576) :
    Calls Try.prog 24 #[v] w fun e w' => e = .returned (.bool (okFl xs)) ∧ Drew w w' := by
  obtain ⟨a, cap, rfl, hc1, hc2, hd⟩ := hv.out
  have HC := Lib.hid (fun wx (hx : Flts wx l h (.slice a xs.length cap) xs) => areFinite_any _ xs wx hx)
  have HV := Lib.hid hv
  clear hv hd
  cases h1 : inB 1 64 (xs.length : Int)
  · have HR := Lib.hid (show okFl xs = false by rw [okFl, h1]; rfl)
    go_enter Try.func24, Try.ntmps24
    go_wp2_with (first | (go_at_call 44; refine (size_any _ (by omega) _).mono ?_; rintro e w' ⟨rfl, rfl⟩) | (go_at_call 41; refine (within_any _ _ _ _).mono ?_; rintro e w' ⟨rfl, rfl⟩; rw [h1]))
    go_ret
    exact ⟨ret_bool HR.out.symm, Drew.refl _⟩
  · have HR := Lib.hid (show okFl xs = allFin xs by rw [okFl, h1]; rfl)
    go_enter Try.func24, Try.ntmps24
    go_wp2_with (first | (go_at_call 44; refine (size_any _ (by omega) _).mono ?_; rintro e w' ⟨rfl, rfl⟩) | (go_at_call 41; refine (within_any _ _ _ _).mono ?_; rintro e w' ⟨rfl, rfl⟩; rw [h1]) | (go_at_call 43; refine (HC.out _ HV.out).mono ?_; rintro e w' ⟨rfl, m, rfl⟩; rw [← HR.out]))
    go_ret
    exact ⟨rfl, Drew.one w _⟩
set_option maxHeartbeats 400000 in
set_option maxRecDepth 100000 in
theorem l02Least_any (b : Nat) (w : World) :
    Calls Try.prog 22 #[.float .f32 b] w fun e w' => e = .returned (.bool (okBy b)) ∧ Drew w w' := by
  cases hf : finF b
  · have HR := Lib.hid (show okBy b = false by rw [okBy, hf]; rfl)
    go_enter Try.func22, Try.ntmps22
    go_wp2_with (go_at_call 38; refine (l01Finite_any _ _).mono ?_; rintro e w' ⟨rfl, m, rfl⟩; rw [hf])
    go_ret
    exact ⟨ret_bool HR.out.symm, Drew.one w m⟩
  · have hg : (FloatKind.f32.format.order b 0 == some .gt || FloatKind.f32.format.order b 0 == some .eq) = okBy b := by
      obtain ⟨s, m, e, hb⟩ := fin_out hf
      rw [okBy, hf]
      have : ∃ o, FloatKind.f32.format.order b 0 = some o := by
        show ∃ o, (single.read b).order (single.read 0) = some o
        rw [hb, show single.read 0 = .number false 0 (-149) by decide]
        exact ⟨_, rfl⟩
      obtain ⟨o, ho⟩ := this
      rw [ho]
      cases o <;> rfl
    go_enter Try.func22, Try.ntmps22
    go_wp2_with (go_at_call 38; refine (l01Finite_any _ _).mono ?_; rintro e w' ⟨rfl, m, rfl⟩; rw [hf])
    go_ret
    exact ⟨rfl, Drew.one w _⟩
end Go.Proofs.Ytocngcpdpeflnaa
