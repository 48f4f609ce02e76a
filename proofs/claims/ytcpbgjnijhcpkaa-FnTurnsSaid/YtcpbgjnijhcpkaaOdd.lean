/-
  OddModel: contracts in the reference and in the program.
-/
import Derived.Test.YtcpbgjnijhcpkaaBits
import Derived.Test.YtcpbgjnijhcpkaaFirstI
import Derived.Test.YtcpbgjnijhcpkaaApp
namespace Go.Proofs.Ytcpbgjnijhcpkaa
open Go.RowKit
set_option linter.unusedVariables false
set_option maxRecDepth 100000

def parF : Nat → Nat → Bool
  | 0, _ => false
  | k + 1, x => decide (x % 2 = 1) != parF k (x / 2)
theorem parF_zero (k : Nat) : parF k 0 = false := by
  induction k with
  | zero => rfl
  | succ k ih => rw [parF, Nat.zero_div, ih]; rfl
def xorR : Nat → (Nat → Bool) → Bool
  | 0, _ => false
  | k + 1, f => xorR k f != f k
theorem xorR_first (k : Nat) (f : Nat → Bool) : xorR (k + 1) f = (f 0 != xorR k fun j => f (j + 1)) := by
  induction k with
  | zero => simp [xorR]
  | succ k ih => rw [xorR, ih, xorR]; cases f 0 <;> cases (xorR k fun j => f (j + 1)) <;> cases f (k + 1) <;> rfl
theorem parF_xor (k x : Nat) : parF k x = xorR k x.testBit := by
  induction k generalizing x with
  | zero => rfl
  | succ k ih =>
    rw [parF, ih, xorR_first]
    congr 1
    · rw [Nat.testBit_zero]
    · congr 1; funext j; rw [Nat.testBit_succ]
theorem xorR_congr (k : Nat) (f g : Nat → Bool) (h : ∀ j, j < k → f j = g j) : xorR k f = xorR k g := by
  induction k with
  | zero => rfl
  | succ k ih => rw [xorR, xorR, ih fun j hj => h j (by omega), h k (by omega)]
theorem xorR_ne (k : Nat) (f g : Nat → Bool) : (xorR k fun j => f j != g j) = (xorR k f != xorR k g) := by
  induction k with
  | zero => rfl
  | succ k ih => rw [xorR, ih, xorR, xorR]; cases xorR k f <;> cases xorR k g <;> cases f k <;> cases g k <;> rfl
theorem xorR_none (k : Nat) (f : Nat → Bool) (h : ∀ j, j < k → f j = false) : xorR k f = false := by
  induction k with
  | zero => rfl
  | succ k ih => rw [xorR, ih fun j hj => h j (by omega), h k (by omega)]; rfl
theorem xorR_one (k i : Nat) (f : Nat → Bool) (hi : i < k) : (xorR k fun j => decide (i = j) && f j) = f i := by
  induction k with
  | zero => omega
  | succ k ih =>
    rw [xorR]
    by_cases e : i = k
    · subst e
      rw [xorR_none _ _ fun j hj => by rw [decide_eq_false (by omega), Bool.false_and]]; simp
    · rw [ih (by omega), decide_eq_false e, Bool.false_and]; cases f i <;> rfl
def oddRow (L n : Nat) (row : List Int) : Bool := row.foldl (fun s x => s != bitN n (L - x.toNat)) false
theorem oddRow_snoc (L n : Nat) (row : List Int) (x : Int) : oddRow L n (row ++ [x]) = (oddRow L n row != bitN n (L - x.toNat)) := by simp [oddRow]
theorem on_pair {L p : Int} {zs : List Int} (h : onGo L p zs = true) : (∀ x ∈ zs, p < x) ∧ zs.Pairwise (· < ·) := by
  induction zs generalizing p with
  | nil => simp
  | cons a r ih =>
    simp only [onGo, Bool.and_eq_true, decide_eq_true_eq] at h
    obtain ⟨h1, h2⟩ := ih h.2
    refine ⟨fun x hx => ?_, List.pairwise_cons.2 ⟨h1, h2⟩⟩
    rcases List.mem_cons.1 hx with rfl | hx
    · exact h.1.2
    · have := h1 x hx; have := h.1.2; omega
theorem mask_par (L n : Nat) (hL : L ≤ 10) (row : List Int) (h1 : ∀ x ∈ row, 1 ≤ x ∧ x ≤ (L : Int)) (h2 : row.Pairwise (· < ·)) : parF 10 (n &&& maskOf L row) = oddRow L n row := by
  have key : ∀ rs : List Int, (∀ x ∈ rs, 1 ≤ x ∧ x ≤ (L : Int)) → rs.reverse.Pairwise (· < ·) → (xorR 10 fun j => n.testBit j && (maskOf L rs.reverse).testBit j) = oddRow L n rs.reverse := by
    intro rs
    induction rs with
    | nil => intro _ _; exact xorR_none _ _ fun j _ => by simp [maskOf]
    | cons a r ih =>
      intro ha hp
      rw [List.reverse_cons] at hp ⊢
      rw [List.pairwise_append] at hp
      have hh := ih (fun x hx => ha x (by simp [hx])) hp.1
      have hA := ha a (by simp)
      rw [oddRow_snoc, ← hh, bitN_test]
      rw [← xorR_one 10 (L - a.toNat) n.testBit (by omega), ← xorR_ne]
      apply xorR_congr
      intro j _
      rw [mask_snoc, Nat.testBit_or, Nat.testBit_two_pow]
      have hno : (maskOf L r.reverse).testBit (L - a.toNat) = false := by
        rw [mask_test, List.any_eq_false]
        intro x hx
        have h3 := ha x (by simp at hx; simp [hx])
        have h4 := hp.2.2 x hx a (by simp)
        simp; omega
      by_cases e : L - a.toNat = j
      · subst e; rw [hno]; cases n.testBit (L - a.toNat) <;> simp
      · rw [decide_eq_false e]; cases n.testBit j <;> cases (maskOf L r.reverse).testBit j <;> rfl
  have hx : (xorR 10 fun j => n.testBit j && (maskOf L row).testBit j) = oddRow L n row := by
    have := key row.reverse (fun x hx => h1 x (by simpa using hx)) (by rwa [List.reverse_reverse])
    rwa [List.reverse_reverse] at this
  rw [parF_xor, ← hx]
  apply xorR_congr
  intro j _
  rw [Nat.testBit_and]
def oddAll (L n : Nat) : List (List Int) → List Bool → Bool
  | r :: rs, o :: os => (oddRow L n r == o) && oddAll L n rs os
  | _, _ => true
/-- the first number from a on of which p holds -/
def firstP (p : Nat → Bool) (a : Nat) : Nat → Option Nat
  | 0 => none
  | k + 1 => if p a then some a else firstP p (a + 1) k
theorem firstP_step (p : Nat → Bool) (a k : Nat) (h : p a = false) : firstP p a (k + 1) = firstP p (a + 1) k := by rw [firstP, h]; rfl
theorem firstP_hit (p : Nat → Bool) (a k : Nat) (h : p a = true) : firstP p a (k + 1) = some a := by rw [firstP, h]; rfl
def oddOk (L : Int) (rows : List (List Int)) (odd : List Bool) : Bool := inB 1 10 L && (decide (rows.length ≤ 48) && (decide (odd.length = rows.length) && rows.all (onGo L 0)))
def oddModel (L : Int) (rows : List (List Int)) (odd : List Bool) : List Bool × Bool :=
  if oddOk L rows odd then
    match firstP (fun n => oddAll L.toNat n rows odd) 0 (2 ^ L.toNat) with
    | some n => (valuesN L.toNat n, true)
    | none => ([], false)
  else ([], false)
theorem oddModel_some {L n : Nat} {rows : List (List Int)} {odd : List Bool} (hv : oddOk (L : Int) rows odd = true) (h : firstP (fun n => oddAll L n rows odd) 0 (2 ^ L) = some n) : oddModel (L : Int) rows odd = (valuesN L n, true) := by
  unfold oddModel; rw [if_pos hv, Int.toNat_natCast, h]
theorem oddModel_none {L : Nat} {rows : List (List Int)} {odd : List Bool} (hv : oddOk (L : Int) rows odd = true) (h : firstP (fun n => oddAll L n rows odd) 0 (2 ^ L) = none) : oddModel (L : Int) rows odd = ([], false) := by
  unfold oddModel; rw [if_pos hv, Int.toNat_natCast, h]
theorem oddModel_no {L : Int} {rows : List (List Int)} {odd : List Bool} (hv : oddOk L rows odd = false) : oddModel L rows odd = ([], false) := by
  unfold oddModel; rw [if_neg (by rw [hv]; decide)]
def masksOf (L : Nat) (rows : List (List Int)) : List Int := rows.map fun r => ((maskOf L r : Nat) : Int)
set_option maxHeartbeats 2000000 in
set_option maxRecDepth 100000 in
theorem specOddModel_any (w : World) (L0 : Int) {l h l' h' : Nat} (v : Value) (rows : List (List Int)) (v' : Value) (odd : List Bool) (kL : I64 L0) (hv : Intss w l h v rows) (hh : h ≤ w.heap.size) (hz : SmallII rows) (hv' : Bools w l' h' v' odd) (hh' : h' ≤ w.heap.size) (hz' : odd.length ≤ 1048576) :
    Calls Try.prog 40 #[.int .i64 L0, v, v'] w fun e w' => ∃ r, e = .returned (.tuple #[r, .bool (oddModel L0 rows odd).2]) ∧ OwnB w' w.heap.size w'.heap.size r (oddModel L0 rows odd).1 ∧ Below w.heap.size w w' := by
  obtain ⟨a, cap, V, rfl, hc1, hc2, hV, hd⟩ := hv.out
  obtain ⟨oa, ocap, rfl, oc1, oc2, od⟩ := hv'.out
  have HV := Lib.hid hV
  have hrl : rows.length ≤ 1048576 := hz.1
  clear hv hv' hV
  cases hL : inB 1 10 L0
  · have HE := Lib.hid (oddModel_no (L := L0) (rows := rows) (odd := odd) (by simp [oddOk, hL]))
    go_enter Try.func40, Try.ntmps40
    go_wp2_with (go_at_call 97; refine (l05Letters_any _ _).mono ?_; rintro e w' ⟨rfl, rfl⟩)
    go_ret2
    exact ⟨_, by rw [HE.out]; rfl, by rw [HE.out]; exact OwnB.nil _ _ _ (Nat.le_refl _), Below.refl _ _⟩
  by_cases hn48 : rows.length ≤ 48
  case neg =>
    have HE := Lib.hid (oddModel_no (L := L0) (rows := rows) (odd := odd) (by simp [oddOk, hn48]))
    go_enter Try.func40, Try.ntmps40
    go_wp2_with (go_at_call 97; refine (l05Letters_any _ _).mono ?_; rintro e w' ⟨rfl, rfl⟩)
    go_ret2
    exact ⟨_, by rw [HE.out]; rfl, by rw [HE.out]; exact OwnB.nil _ _ _ (Nat.le_refl _), Below.refl _ _⟩
  cases hol : decide (odd.length = rows.length)
  · have HE := Lib.hid (oddModel_no (L := L0) (rows := rows) (odd := odd) (by simp [oddOk, hol]))
    have hne : ((odd.length : Int) != (rows.length : Int)) = true := by simp at hol ⊢; omega
    clear hol
    go_enter Try.func40, Try.ntmps40
    go_wp2_with (go_at_call 97; refine (l05Letters_any _ _).mono ?_; rintro e w' ⟨rfl, rfl⟩)
    go_ret2
    exact ⟨_, by rw [HE.out]; rfl, by rw [HE.out]; exact OwnB.nil _ _ _ (Nat.le_refl _), Below.refl _ _⟩
  have hol' := of_decide_eq_true hol
  have HOL := Lib.hid hol'
  have bL := inB_true hL
  obtain ⟨L, rfl⟩ : ∃ L : Nat, L0 = (L : Int) := ⟨L0.toNat, by omega⟩
  have hL1 : 1 ≤ L := by omega
  have hL2 : L ≤ 10 := by omega
  have HOK : Hid (oddOk (L : Int) rows odd = rows.all (onGo (L : Int) 0)) := by simp [Hid, oddOk, hL, hn48, hol']
  have hne : ((odd.length : Int) != (rows.length : Int)) = false := by simp [hol']
  have h0 := emptySlice w
  clear hol hol'
  go_enter Try.func40, Try.ntmps40
  go_wp2_with (go_at_call 97; refine (l05Letters_any _ _).mono ?_; rintro e w' ⟨rfl, rfl⟩)
  clear hne
  go_loopw [8, 35] (fun mv i wr => ∃ k : Nat, k ≤ rows.length ∧ i = .int .i64 k ∧ OwnI wr w.heap.size wr.heap.size mv (masksOf L (rows.take k)) ∧ Hid ((rows.drop k).all (onGo (L : Int) 0) = rows.all (onGo (L : Int) 0)) ∧ Below w.heap.size w wr) (fun _ i _ => rows.length - (intOf i).toNat)
  case atStart => exact ⟨0, Nat.zero_le _, rfl, by simpa [masksOf] using h0, Lib.hid rfl, alloc_below _ _⟩
  case round =>
    clear h0
    obtain ⟨k, hk, rfl, ho, H, hb⟩ := hrel
    have hs := hb.size
    have HO := Lib.hid ho
    clear ho
    by_cases hlt : k < rows.length
    · have HD := Lib.hid (drop_cons rows k hlt)
      have HT := Lib.hid (show masksOf L (rows.take (k + 1)) = masksOf L (rows.take k) ++ [((maskOf L rows[k] : Nat) : Int)] by rw [List.take_succ_eq_append_getElem hlt]; simp only [masksOf, List.map_append, List.map_cons, List.map_nil])
      rcases hd with hd | ⟨b, off, rfl, hb1, hb2, hb3, hcell⟩
      · rw [hd] at hlt; simp at hlt
      have hck := hcell k hlt
      rw [← hb.cell (p := ⟨b, off + k, none⟩) (show b < w.heap.size by omega)] at hck
      have hxk := (HV.out k hlt).below hb hh
      obtain ⟨ra, rc, hre, _, _, rd⟩ := hxk.out
      rw [hre] at hck
      have hzk := hz.row hlt
      have hml : (masksOf L (rows.take k)).length ≤ k := by simp [masksOf]; omega
      generalize hrow : rows[k] = row at *
      have HROW := Lib.hid hrow
      clear hcell hre hxk hrow
      obtain ⟨wu, hwu⟩ : ∃ wu : World, wu = wr := ⟨_, rfl⟩
      rw [← hwu] at hb hs HO hck rd
      rw [← hwu]
      clear hwu
      go_wp2_with fail
      go_loopw [10, 43] (fun mv i wr => ∃ j m : Nat, j ≤ row.length ∧ i = .int .i64 j ∧ mv = .int .i64 m ∧ m < 1024 ∧ Hid (m = maskOf L (row.take j)) ∧ Hid (onGo L (prevRaw row j) (row.drop j) = onGo L 0 row) ∧ Drew wu wr) (fun _ i _ => row.length - (intOf i).toNat)
      case atStart => exact ⟨0, 0, Nat.zero_le _, rfl, rfl, by omega, Lib.hid (by simp [maskOf]), Lib.hid rfl, Drew.refl _⟩
      case round =>
        obtain ⟨j, m, hj, rfl, rfl, hm, HM, G, hD⟩ := hrel
        have hbw := hb.trans (hD.below w.heap.size)
        have HBW := Lib.hid hbw
        clear hbw
        by_cases hjl : j < row.length
        · have GD := Lib.hid (drop_cons row j hjl)
          have GT := Lib.hid (show row.take (j + 1) = row.take j ++ [row[j]] from List.take_succ_eq_append_getElem hjl)
          have HP1 := Lib.hid (prevRaw_succ row j hjl)
          rcases rd with rd | ⟨rb, ro, rfl, rb1, rb2, rb3, rcell⟩
          · rw [rd] at hjl; simp at hjl
          have hckr := hck
          rw [← hD.cell] at hckr
          have HC : Hid (∀ i, i < row.length → wr.cell? ⟨rb, ro + i, none⟩ = some (.int .i64 (row.getD i 0))) := fun i hi => by rw [hD.cell]; exact rcell i hi
          have hcj : wr.cell? ⟨rb, ro + j, none⟩ = some (.int .i64 row[j]) := by have := HC.out j hjl; simpa [List.getD, hjl] using this
          clear rcell
          cases h1 : inB 1 (L : Int) row[j]
          · have HE := Lib.hid (oddModel_no (L := (L : Int)) (rows := rows) (odd := odd) (by rw [HOK.out, ← H.out, HD.out, List.all_cons, ← G.out, GD.out, onGo, h1]; simp))
            by_cases hj0 : 0 < j
            all_goals
              go_wp2_with fail
              go_quiet ((go_at_call 98; exact quiet_same (l00In_any _ _ _ _)))
              go_wp2
              go_ret2
              exact ⟨_, by rw [HE.out]; rfl, by rw [HE.out]; exact OwnB.nil _ _ _ (Nat.le_refl _), HBW.out.trans ((Drew.one _ _).below _)⟩
          have hx := inB_true h1
          obtain ⟨A, hA⟩ : ∃ A : Nat, row[j] = (A : Int) := ⟨row[j].toNat, by omega⟩
          have HAK := Lib.hid hA
          rw [hA] at hcj h1 hx
          have hA1 : 1 ≤ A := by omega
          have hA2 : A ≤ L := by omega
          obtain ⟨q, hq⟩ : ∃ q : Nat, q = 2 ^ (L - A) := ⟨_, rfl⟩
          have hsh := (shl_one (L - A) (by omega)).1
          have hq2 := (shl_one (L - A) (by omega)).2
          rw [← hq] at hsh hq2
          have hor := or_nat m q (by omega) (by omega)
          have HQ := Lib.hid hq
          have hm2 : m ||| q < 1024 := by
            have h2 : q < 1024 := by rw [hq]; exact Nat.lt_of_lt_of_le (Nat.pow_lt_pow_right (by decide : 1 < 2) (show L - A < L by omega)) (pow_L hL2)
            exact Nat.or_lt_two_pow (n := 10) hm h2
          have HMN : Hid (m ||| q = maskOf L (row.take (j + 1))) := by rw [Hid, GT.out, mask_snoc, ← HM.out, HAK.out, Int.toNat_natCast, HQ.out]
          clear hA hq hx
          by_cases hj0 : 0 < j
          · have hjl' : j - 1 < row.length := by omega
            have hcjp : wr.cell? ⟨rb, ro + (j - 1), none⟩ = some (.int .i64 row[j - 1]) := by have := HC.out (j - 1) hjl'; simpa [List.getD, hjl'] using this
            have HP := Lib.hid (prevRaw_pos row j hj0 hjl')
            have hwr : IntKind.i64.wrap ((j : Int) - 1) = (j : Int) - 1 := IntWalk.i64_in _ (by omega)
            have hkz : (0 : Int) ≤ (j : Int) - 1 := by omega
            have hkn : ((j : Int) - 1).toNat = j - 1 := by omega
            have hkl : (j : Int) - 1 < (row.length : Int) := by omega
            cases hqq : decide ((A : Int) ≤ row[j - 1])
            · have HS := Lib.hid (show onGo L row[j] (row.drop (j + 1)) = onGo L 0 row by
                rw [← G.out, GD.out, onGo, HAK.out, h1, HP.out, show decide (row[j - 1] < (A : Int)) = true by simp at hqq ⊢; omega]; simp)
              go_wp2_with fail
              go_quiet ((go_at_call 98; exact quiet_same (l00In_any _ _ _ _)))
              clear hwr hkz hkn hkl
              go_wp2
              go_roundw
              case rel => exact ⟨j + 1, m ||| q, by omega, by go_num, rfl, hm2, HMN.out, Lib.hid (by rw [HP1.out]; exact HS.out), hD.step _⟩
              case measure => simp [intOf]; omega
            · have HE := Lib.hid (oddModel_no (L := (L : Int)) (rows := rows) (odd := odd) (by rw [HOK.out, ← H.out, HD.out, List.all_cons, ← G.out, GD.out, onGo, HAK.out, HP.out, show decide (row[j - 1] < (A : Int)) = false by simp at hqq ⊢; omega]; simp))
              go_wp2_with fail
              go_quiet ((go_at_call 98; exact quiet_same (l00In_any _ _ _ _)))
              clear hwr hkz hkn hkl
              go_wp2
              go_ret2
              exact ⟨_, by rw [HE.out]; rfl, by rw [HE.out]; exact OwnB.nil _ _ _ (Nat.le_refl _), HBW.out.trans ((Drew.one _ _).below _)⟩
          · have HP := Lib.hid (prevRaw_zero row j hj0)
            have HS := Lib.hid (show onGo L row[j] (row.drop (j + 1)) = onGo L 0 row by
                rw [← G.out, GD.out, onGo, HAK.out, h1, HP.out, show decide ((0 : Int) < (A : Int)) = true by simp; omega]; simp)
            go_wp2_with fail
            go_quiet ((go_at_call 98; exact quiet_same (l00In_any _ _ _ _)))
            go_wp2
            go_roundw
            case rel => exact ⟨j + 1, m ||| q, by omega, by go_num, rfl, hm2, HMN.out, Lib.hid (by rw [HP1.out]; exact HS.out), hD.step _⟩
            case measure => simp [intOf]; omega
        · obtain rfl : j = row.length := by omega
          have hon : onGo (L : Int) 0 row = true := by rw [← G.out, drop_len _ _ (Nat.le_refl _)]; rfl
          have HON := Lib.hid hon
          have HMM : Hid (((m : Nat) : Int) = ((maskOf L row : Nat) : Int)) := by have := HM.out; rw [List.take_length] at this; rw [Hid, this]
          have hor := HO.out.drew hD
          have HOR := Lib.hid hor
          have hzr1 : wr.heap.size ≤ wu.heap.size := by rw [hD.heap]; exact Nat.le_refl _
          have hzr2 : wu.heap.size ≤ wr.heap.size := by rw [hD.heap]; exact Nat.le_refl _
          clear hon hor
          go_wp2_with (at_builtin; refine wpList_app1 rfl _ _ rfl _ (masksOf L (rows.take k)) rfl (m : Int) _ HOR.out rfl (by constructor <;> omega) (by omega) (by omega) ?_)
          intro v2 w5 ho5 hsm5 hz5 _
          have HO5 : Hid (OwnI w5 w.heap.size w5.heap.size v2 (masksOf L (rows.take (k + 1)))) := by rw [Hid, HT.out, ← HMM.out]; exact ho5
          clear ho5
          go_wp2
          go_roundw
          case rel => exact ⟨k + 1, by omega, by go_num, HO5.out, Lib.hid (by rw [← H.out, HD.out, List.all_cons, HON.out, Bool.true_and]), HBW.out.trans (hsm5.below (Nat.le_refl _) (by omega))⟩
          case measure => simp [intOf]; omega
    · obtain rfl : k = rows.length := by omega
      have hok : oddOk (L : Int) rows odd = true := by rw [HOK.out, ← H.out, drop_len _ _ (Nat.le_refl _)]; rfl
      have hall : ∀ r ∈ rows, onGo (L : Int) 0 r = true := by rw [HOK.out] at hok; exact List.all_eq_true.1 hok
      have HALL := Lib.hid hall
      have HOk := Lib.hid hok
      rw [List.take_length] at HO
      obtain ⟨ma, mc, e, m1, m2, md⟩ := HO.out.rd.out
      subst e
      have hmlen : (masksOf L rows).length = rows.length := by simp [masksOf]
      have HML := Lib.hid hmlen
      have hmle : rows.length ≤ (masksOf L rows).length := by rw [hmlen]; exact Nat.le_refl _
      have hmle2 : (masksOf L rows).length ≤ rows.length := by rw [hmlen]; exact Nat.le_refl _
      have hold : odd.length ≤ rows.length := by rw [HOL.out]; exact Nat.le_refl _
      have hold2 : rows.length ≤ odd.length := by rw [HOL.out]; exact Nat.le_refl _
      have HOD : Hid (∀ i, i < odd.length → ∃ b off, oa = some ⟨b, off, none⟩ ∧ wr.cell? ⟨b, off + i, none⟩ = some (.bool (odd.getD i false))) := fun i hi => by
        rcases od with rfl | ⟨b, off, r1, r2, r3, r4, r5⟩
        · simp at hi
        · exact ⟨b, off, r1, by rw [hb.cell (p := ⟨b, off + i, none⟩) (show b < w.heap.size by omega)]; exact r5 i hi⟩
      have HMD : Hid (∀ i (hi : i < rows.length), ∃ b off, ma = some ⟨b, off, none⟩ ∧ wr.cell? ⟨b, off + i, none⟩ = some (.int .i64 ((maskOf L rows[i] : Nat)))) := fun i hi => by
        rcases md with md | ⟨b, off, r1, r2, r3, r4, r5⟩
        · rw [md] at hmlen; simp at hmlen; omega
        · refine ⟨b, off, r1, ?_⟩
          have := r5 i (by omega)
          rw [this]; simp [masksOf, List.getD, hi]
      obtain ⟨N, hN⟩ : ∃ N : Nat, N = 2 ^ L := ⟨_, rfl⟩
      have hsh := (shl_one L hL2).1
      have hN2 := (shl_one L hL2).2
      rw [← hN] at hsh hN2
      have HN := Lib.hid hN
      have HB := Lib.hid hb
      generalize masksOf L rows = ms at *
      clear hN hok hall hmlen md
      obtain ⟨wu, hwu⟩ : ∃ wu : World, wu = wr := ⟨_, rfl⟩
      rw [← hwu] at hb hs HO HOD HMD HB
      rw [← hwu]
      clear hwu hb
      go_wp2_with fail
      go_loopw [12] (fun i wr => ∃ n : Nat, n ≤ N ∧ i = .int .i64 n ∧ Hid (firstP (fun n => oddAll L n rows odd) n (N - n) = firstP (fun n => oddAll L n rows odd) 0 N) ∧ wu = wr) (fun i _ => N - (intOf i).toNat)
      case atStart => exact ⟨0, Nat.zero_le _, rfl, Lib.hid rfl, rfl⟩
      case round =>
        obtain ⟨n, hn, rfl, HF, rfl⟩ := hrel
        by_cases hnl : n < N
        · have HX := Lib.hid (show N - n = (N - (n + 1)) + 1 by omega)
          go_wp2_with fail
          go_loopw [13, 104] (fun fv i wr => ∃ (k : Nat) (F : Bool), k ≤ rows.length ∧ i = .int .i64 k ∧ fv = .bool F ∧ Hid ((F && oddAll L n (rows.drop k) (odd.drop k)) = oddAll L n rows odd) ∧ wu = wr) (fun _ i _ => rows.length - (intOf i).toNat)
          case atStart => exact ⟨0, true, Nat.zero_le _, rfl, rfl, Lib.hid rfl, rfl⟩
          case round =>
            obtain ⟨k, F, hk, rfl, rfl, HA, rfl⟩ := hrel
            by_cases hkl : k < rows.length
            · have hko : k < odd.length := by omega
              have hkm : k < ms.length := by omega
              have HS : Hid (oddAll L n (rows.drop k) (odd.drop k) = ((oddRow L n rows[k] == odd[k]) && oddAll L n (rows.drop (k + 1)) (odd.drop (k + 1)))) := by rw [Hid, drop_cons rows k hkl, drop_cons odd k hko, oddAll]
              have HPAR : Hid (parF 10 (n &&& maskOf L rows[k]) = oddRow L n rows[k]) := mask_par L n hL2 _ (on_all (HALL.out _ (List.getElem_mem _))) (on_pair (HALL.out _ (List.getElem_mem _))).2
              obtain ⟨mb, mo, rfl, hcm⟩ := HMD.out k hkl
              obtain ⟨ob, oo, rfl, hco⟩ := HOD.out k hko
              have hod : odd.getD k false = odd[k] := by simp [List.getD, hko]
              rw [hod] at hco
              have hmlt : maskOf L rows[k] < 1024 := by
                have h1 := mask_lt L rows[k] (fun x hx => (on_all (HALL.out _ (List.getElem_mem _)) x hx).1) hL1
                have h2 := pow_L hL2
                omega
              have hand := and_nat n (maskOf L rows[k]) (by omega) (by omega)
              have hx0 : n &&& maskOf L rows[k] < 2 ^ 10 := by have := Nat.and_le_right (n := n) (m := maskOf L rows[k]); omega
              obtain ⟨X, hX⟩ : ∃ X : Nat, X = n &&& maskOf L rows[k] := ⟨_, rfl⟩
              rw [← hX] at hand hx0
              have HX2 := Lib.hid hX
              clear hod hX
              go_wp2_with fail
              go_loopw [15, 16] (fun ev xv wr => ∃ (d x : Nat) (e : Bool), x < 1024 ∧ xv = .int .i64 x ∧ ev = .bool e ∧ Hid (x < 2 ^ d ∧ (e != parF d x) = (true != parF 10 X)) ∧ wu = wr) (fun _ xv _ => (intOf xv).toNat)
              case atStart => exact ⟨10, X, true, by omega, rfl, rfl, Lib.hid ⟨hx0, rfl⟩, rfl⟩
              case round =>
                obtain ⟨d, x, e, hx, rfl, rfl, HE, rfl⟩ := hrel
                by_cases hxp : 0 < x
                · obtain ⟨d', hd'⟩ : ∃ d', d = d' + 1 := ⟨d - 1, by
                    rcases Nat.eq_zero_or_pos d with h0 | h0
                    · have := HE.out.1; rw [h0] at this; simp at this; omega
                    · omega⟩
                  subst hd'
                  have hx2 : Hid (x / 2 < 2 ^ d') := by have := HE.out.1; rw [Nat.pow_succ] at this; show x / 2 < _; omega
                  have HPP : Hid (parF (d' + 1) x = (decide (x % 2 = 1) != parF d' (x / 2))) := rfl
                  cases hodd : decide (x % 2 = 1)
                  · have hq : ((x : Int) % 2 == 1) = false := by simp at hodd ⊢; omega
                    have HO2 := Lib.hid hodd
                    clear hodd
                    go_wp2
                    go_roundw
                    case rel => exact ⟨d', x / 2, e, by omega, by go_num, rfl, Lib.hid ⟨hx2.out, by rw [← HE.out.2, HPP.out, HO2.out]; simp⟩, by first | rfl | trivial⟩
                    case measure => simp [intOf]; omega
                  · have hq : ((x : Int) % 2 == 1) = true := by simp at hodd ⊢; omega
                    have HO2 := Lib.hid hodd
                    clear hodd
                    go_wp2
                    go_roundw
                    case rel => exact ⟨d', x / 2, !e, by omega, by go_num, rfl, Lib.hid ⟨hx2.out, by rw [← HE.out.2, HPP.out, HO2.out]; cases e <;> cases parF d' (x / 2) <;> rfl⟩, by first | rfl | trivial⟩
                    case measure => simp [intOf]; omega
                · obtain rfl : x = 0 := by omega
                  have hev : Hid (oddRow L n rows[k] = !e) := by
                    have := HE.out.2
                    rw [parF_zero, HX2.out, HPAR.out] at this
                    rw [Hid]; cases e <;> cases h : oddRow L n rows[k] <;> simp_all
                  cases F
                  · go_wp2
                    go_roundw
                    case rel => exact ⟨k + 1, false, by omega, by go_num, rfl, Lib.hid (by rw [← HA.out]; rfl), by first | rfl | trivial⟩
                    case measure => simp [intOf]; omega
                  · cases e <;> cases hok : odd[k]
                    all_goals
                      rw [hok] at hco
                      go_wp2
                      go_roundw
                      case rel => exact ⟨k + 1, _, by omega, by go_num, rfl, Lib.hid (by
                        rw [← HA.out, HS.out, hok, hev.out]; rfl), by first | rfl | trivial⟩
                      case measure => simp [intOf]; omega
            · obtain rfl : k = rows.length := by omega
              have hFA : F = oddAll L n rows odd := by
                rw [← HA.out, drop_len _ _ (Nat.le_refl _)]; simp [oddAll]
              have HFA := Lib.hid hFA
              clear hFA
              cases F
              · go_wp2
                go_roundw
                case rel => exact ⟨n + 1, by omega, by go_num, Lib.hid (by rw [← HF.out, HX.out, firstP_step _ _ _ HFA.out.symm]), by first | rfl | trivial⟩
                case measure => simp [intOf]; omega
              · have HR := Lib.hid (oddModel_some HOk.out (n := n) (by rw [← HN.out, ← HF.out, HX.out, firstP_hit _ _ _ HFA.out.symm]))
                go_wp2_with fail
                refine (l05Values_any L n wu hL2 (by omega)).mono ?_
                rintro e w4 ⟨r, rfl, hor, hb4⟩
                go_wp2
                go_ret2
                exact ⟨_, by rw [HR.out]; rfl, by rw [HR.out]; exact hor.mono hs (Nat.le_refl _) (Nat.le_refl _), HB.out.trans (hb4.mono hs)⟩
        · obtain rfl : n = N := by omega
          have HR := Lib.hid (oddModel_none HOk.out (by rw [← HN.out, ← HF.out, Nat.sub_self, firstP]))
          go_wp2
          go_ret2
          exact ⟨_, by rw [HR.out]; rfl, by rw [HR.out]; exact OwnB.nil _ _ _ (Nat.le_refl _), HB.out⟩
set_option maxHeartbeats 1600000 in
set_option maxRecDepth 100000 in
theorem oddClosure_any {l h l' h' lo : Nat} (pr po q L n : Nat) (rv ov old v : Value) (rows : List (List Int)) (odd : List Bool) (w : World) (hpr : OneC w pr 24 rv) (hpo : OneC w po 40 ov) (hq : OneC w q 40 old)
    (hr : Intss w l h rv rows) (hod : Bools w l' h' ov odd) (hlen : odd.length = rows.length) (hall : ∀ r ∈ rows, onGo (L : Int) 0 r = true) (hL : L ≤ 10) (hL1 : 1 ≤ L) (hn48 : rows.length ≤ 48)
    (hv : OwnB w lo w.heap.size v (valuesN L n)) :
    Calls Try.prog 96 #[v, .pointer (some ⟨pr, 0, none⟩), .pointer (some ⟨po, 0, none⟩), .pointer (some ⟨q, 0, none⟩)] w fun e w' =>
      (oddAll L n rows odd = false ∧ e = .returned (.bool true) ∧ w = w') ∨ (oddAll L n rows odd = true ∧ e = .returned (.bool false) ∧ w' = w.setCell ⟨q, 0, none⟩ v) := by
  obtain ⟨gv, gc, rfl⟩ := valuesN_slice hv hL1
  obtain ⟨a, cap, V, rfl, hc1, hc2, hV, hd⟩ := hr.out
  obtain ⟨oa, ocap, rfl, oc1, oc2, od⟩ := hod.out
  have HVAL : Hid (∀ j, j < L → w.cell? ⟨gv, j, none⟩ = some (.bool ((valuesN L n).getD j false))) := fun j hj => by
    obtain ⟨a', c', e', _, _, h3⟩ := hv.rd.out
    have hvl := valuesN_len L n
    simp only [Value.slice.injEq] at e'
    obtain ⟨rfl, _, rfl⟩ := e'
    rcases h3 with h3 | ⟨b, off, e2, _, _, _, hc⟩
    · rw [h3] at hvl; simp at hvl; omega
    · simp only [Option.some.injEq, Addr.mk.injEq] at e2
      obtain ⟨rfl, rfl, _⟩ := e2
      have := hc j (by omega)
      rwa [Nat.zero_add] at this
  have HV := Lib.hid hV
  have HALL := Lib.hid hall
  have HLEN := Lib.hid hlen
  have hlo1 : odd.length ≤ rows.length := by rw [hlen]; exact Nat.le_refl _
  have hlo2 : rows.length ≤ odd.length := by rw [hlen]; exact Nat.le_refl _
  have HOD : Hid (∀ i, i < odd.length → ∃ b off, oa = some ⟨b, off, none⟩ ∧ w.cell? ⟨b, off + i, none⟩ = some (.bool (odd.getD i false))) := fun i hi => by
    rcases od with rfl | ⟨b, off, r1, r2, r3, r4, r5⟩
    · simp at hi
    · exact ⟨b, off, r1, r5 i hi⟩
  have k0 := hpr.cell
  have k1 := hpo.cell
  have k2 := hq.cell
  have f2 := hq.free
  clear hr hod hlen hall hv hV hpr hpo hq od
  go_enter Try.func96, Try.ntmps96
  go_wp2_with fail
  go_loop [13] (fun i => ∃ k : Nat, k ≤ rows.length ∧ i = .int .i64 k ∧ Hid (oddAll L n (rows.drop k) (odd.drop k) = oddAll L n rows odd)) (fun i => rows.length - (intOf i).toNat)
  case atStart => exact ⟨0, Nat.zero_le _, rfl, Lib.hid rfl⟩
  case round =>
    obtain ⟨k, hk, rfl, H⟩ := hrel
    by_cases hlt : k < rows.length
    · have hko : k < odd.length := by omega
      have HS : Hid (oddAll L n (rows.drop k) (odd.drop k) = ((oddRow L n rows[k] == odd[k]) && oddAll L n (rows.drop (k + 1)) (odd.drop (k + 1)))) := by rw [Hid, drop_cons rows k hlt, drop_cons odd k hko, oddAll]
      rcases hd with hd | ⟨b, off, rfl, hb1, hb2, hb3, hcell⟩
      · rw [hd] at hlt; simp at hlt
      have hck := hcell k hlt
      obtain ⟨ra, rc, hre, rl1, rl2, rd⟩ := (HV.out k hlt).out
      rw [hre] at hck
      obtain ⟨ob, oo, rfl, hco⟩ := HOD.out k hko
      have hod : odd.getD k false = odd[k] := by simp [List.getD, hko]
      rw [hod] at hco
      have hrl : rows[k].length ≤ 10 := by have := on_len (HALL.out rows[k] (List.getElem_mem _)); omega
      have HRA := Lib.hid (on_all (HALL.out rows[k] (List.getElem_mem _)))
      generalize hrow : rows[k] = row at *
      clear hcell hre hod hrow
      go_wp2_with fail
      go_loop [8, 20] (fun sv i => ∃ (j : Nat) (S : Bool), j ≤ row.length ∧ i = .int .i64 j ∧ sv = .bool S ∧ Hid ((row.drop j).foldl (fun s x => s != bitN n (L - x.toNat)) S = oddRow L n row)) (fun _ i => row.length - (intOf i).toNat)
      case atStart => exact ⟨0, false, Nat.zero_le _, rfl, rfl, Lib.hid rfl⟩
      case round =>
        obtain ⟨j, S, hj, rfl, rfl, G⟩ := hrel
        by_cases hjl : j < row.length
        · have GD := Lib.hid (drop_cons row j hjl)
          rcases rd with rd | ⟨rb, ro, rfl, rb1, rb2, rb3, rcell⟩
          · rw [rd] at hjl; simp at hjl
          have hcj : w.cell? ⟨rb, ro + j, none⟩ = some (.int .i64 row[j]) := by have := rcell j hjl; simpa [List.getD, hjl] using this
          have hx := HRA.out row[j] (List.getElem_mem _)
          obtain ⟨A, hA⟩ : ∃ A : Nat, row[j] = (A : Int) + 1 := ⟨row[j].toNat - 1, by omega⟩
          rw [hA] at hcj hx
          have hA2 : A < L := by omega
          have hcv := HVAL.out A hA2
          have HG := Lib.hid (valuesN_get L n (A + 1) (by omega) (by omega))
          have HST : Hid ((row.drop j).foldl (fun s x => s != bitN n (L - x.toNat)) S = (row.drop (j + 1)).foldl (fun s x => s != bitN n (L - x.toNat)) (S != bitN n (L - (A + 1)))) := by
            rw [Hid, GD.out, List.foldl_cons, hA, show ((A : Int) + 1).toNat = A + 1 by omega]
          clear rcell hA hx
          rw [Nat.add_sub_cancel] at HG
          rw [HG.out] at hcv
          cases S <;> cases hin : bitN n (L - (A + 1))
          all_goals
            rw [hin] at hcv
            go_wp2
            go_round
            case rel => exact ⟨j + 1, _, by omega, by go_num, rfl, Lib.hid (by rw [← G.out, HST.out, hin]; rfl)⟩
            case measure => simp [intOf]; omega
        · obtain rfl : j = row.length := by omega
          have hS : S = oddRow L n row := by rw [← G.out, drop_len _ _ (Nat.le_refl _)]; rfl
          have HSS := Lib.hid hS
          clear hS
          cases S <;> cases hok : odd[k]
          all_goals
            rw [hok] at hco
            go_wp2
            first
              | (go_round
                 case rel => exact ⟨k + 1, by omega, by go_num, Lib.hid (by rw [← H.out, HS.out, ← HSS.out, hok]; rfl)⟩
                 case measure => simp [intOf]; omega)
              | (go_ret
                 exact .inl ⟨by rw [← H.out, HS.out, ← HSS.out, hok]; rfl, rfl, rfl⟩)
    · have hft : oddAll L n rows odd = true := by rw [← H.out, drop_len _ _ (by omega)]; simp [oddAll]
      have HFT := Lib.hid hft
      clear hft
      go_wp2
      go_ret
      exact .inr ⟨HFT.out, rfl, rfl⟩
structure OddInv (w0 : World) (pr po q N : Nat) (rv ov : Value) (p : Nat → Bool) (n : Nat) (wr : World) : Prop where
  hpr : OneC wr pr 24 rv
  hpo : OneC wr po 40 ov
  hq : OneC wr q 40 (.slice none 0 0)
  left : firstP p n (N - n) = firstP p 0 N
  bel : Below w0.heap.size w0 wr
structure OddPost (w0 : World) (q L N : Nat) (p : Nat → Bool) (wr : World) : Prop where
  bel : Below w0.heap.size w0 wr
  res : (firstP p 0 N = none ∧ OneC wr q 40 (.slice none 0 0)) ∨ ∃ n v, firstP p 0 N = some n ∧ OneC wr q 40 v ∧ OwnB wr w0.heap.size wr.heap.size v (valuesN L n)
set_option maxHeartbeats 2000000 in
set_option maxRecDepth 100000 in
theorem implOddModel_any (w : World) (L0 : Int) {l h l' h' : Nat} (v : Value) (rows : List (List Int)) (v' : Value) (odd : List Bool) (kL : I64 L0) (hv : Intss w l h v rows) (hh : h ≤ w.heap.size) (hz : SmallII rows) (hv' : Bools w l' h' v' odd) (hh' : h' ≤ w.heap.size) (hz' : odd.length ≤ 1048576) :
    Calls Try.prog 39 #[.int .i64 L0, v, v'] w fun e w' => ∃ r, e = .returned (.tuple #[r, .bool (oddModel L0 rows odd).2]) ∧ OwnB w' w.heap.size w'.heap.size r (oddModel L0 rows odd).1 ∧ Below w.heap.size w w' := by
  have qN : ∀ (w : World) (a : Option Addr) (n c n' c' : Nat), (binOp .neq 40 (.slice a n c) (.slice none n' c')).run Try.prog w = .ok (.bool (!a.isNone)) w := fun w a n c n' c' => run_neq_slice_nil_any w _ _ a n c n' c' Try.underlying40
  obtain ⟨a, cap, V, rfl, hc1, hc2, hV, hd⟩ := hv.out
  obtain ⟨oa, ocap, rfl, oc1, oc2, od⟩ := hv'.out
  obtain ⟨W1, hW1⟩ : ∃ W, W = w.alloc (.cells #[.slice a rows.length cap] 24) := ⟨_, rfl⟩
  obtain ⟨W, hW⟩ : ∃ W, W = W1.alloc (.cells #[.slice oa odd.length ocap] 40) := ⟨_, rfl⟩
  have hs1 : W1.heap.size = w.heap.size + 1 := by rw [hW1]; simp
  have hsW : W.heap.size = w.heap.size + 2 := by rw [hW]; simp [hs1]
  have hB1 : Below w.heap.size w W1 := by rw [hW1]; exact alloc_below _ _
  have hB2 : Below W1.heap.size W1 W := by rw [hW]; exact alloc_below _ _
  have hBW : Below w.heap.size w W := hB1.trans (hB2.mono (by omega))
  have hpr1 : OneC W1 w.heap.size 24 (.slice a rows.length cap) := by rw [hW1]; exact OneC.new _ _ _
  have hpr := hpr1.below hB2 hpr1.lt
  have hpo : OneC W (w.heap.size + 1) 40 (.slice oa odd.length ocap) := by rw [hW, ← hs1]; exact OneC.new _ _ _
  have HPR := Lib.hid hpr
  have HPO := Lib.hid hpo
  have HRW := Lib.hid (hv.below hBW hh)
  have HOD := Lib.hid (hv'.below hBW hh')
  have hrl : rows.length ≤ 1048576 := hz.1
  have q0 := hpr.cell
  have q1 := hpo.cell
  clear hv hv' hpr1 hpr hpo hV hd od hB1 hB2
  cases hL : inB 1 10 L0
  · have HE := Lib.hid (oddModel_no (L := L0) (rows := rows) (odd := odd) (by simp [oddOk, hL]))
    go_enter Try.func39, Try.ntmps39
    go_wp2_with fail
    rw [← hW1, ← hW]
    clear hW hW1
    go_wp2_with (go_at_call 71; refine (isLetterCount_any _ _).mono ?_; rintro e w' ⟨rfl, rfl⟩)
    go_ret2
    exact ⟨_, by rw [HE.out]; rfl, by rw [HE.out]; exact OwnB.nil _ _ _ (Nat.le_refl _), hBW⟩
  by_cases hn48 : rows.length ≤ 48
  case neg =>
    have HE := Lib.hid (oddModel_no (L := L0) (rows := rows) (odd := odd) (by simp [oddOk, hn48]))
    go_enter Try.func39, Try.ntmps39
    go_wp2_with fail
    rw [← hW1, ← hW]
    clear hW hW1
    go_wp2_with (go_at_call 71; refine (isLetterCount_any _ _).mono ?_; rintro e w' ⟨rfl, rfl⟩)
    go_ret2
    exact ⟨_, by rw [HE.out]; rfl, by rw [HE.out]; exact OwnB.nil _ _ _ (Nat.le_refl _), hBW⟩
  cases hol : decide (odd.length = rows.length)
  · have HE := Lib.hid (oddModel_no (L := L0) (rows := rows) (odd := odd) (by simp [oddOk, hol]))
    have hne : ((odd.length : Int) != (rows.length : Int)) = true := by simp at hol ⊢; omega
    clear hol
    go_enter Try.func39, Try.ntmps39
    go_wp2_with fail
    rw [← hW1, ← hW]
    clear hW hW1
    go_wp2_with (go_at_call 71; refine (isLetterCount_any _ _).mono ?_; rintro e w' ⟨rfl, rfl⟩)
    go_ret2
    exact ⟨_, by rw [HE.out]; rfl, by rw [HE.out]; exact OwnB.nil _ _ _ (Nat.le_refl _), hBW⟩
  have hol' := of_decide_eq_true hol
  have HOL := Lib.hid hol'
  have bL := inB_true hL
  obtain ⟨L, rfl⟩ : ∃ L : Nat, L0 = (L : Int) := ⟨L0.toNat, by omega⟩
  have hL1 : 1 ≤ L := by omega
  have hL2 : L ≤ 10 := by omega
  have HOK : Hid (oddOk (L : Int) rows odd = rows.all (onGo (L : Int) 0)) := by simp [Hid, oddOk, hL, hn48, hol']
  have hne : ((odd.length : Int) != (rows.length : Int)) = false := by simp [hol']
  clear hol hol'
  go_enter Try.func39, Try.ntmps39
  go_wp2_with fail
  rw [← hW1, ← hW]
  clear hW hW1
  go_wp2_with (go_at_call 71; refine (isLetterCount_any _ _).mono ?_; rintro e w' ⟨rfl, rfl⟩)
  clear hne q0 q1
  go_loopw [28] (fun i wr => ∃ k : Nat, k ≤ rows.length ∧ i = .int .i64 k ∧ Hid ((rows.drop k).all (onGo (L : Int) 0) = rows.all (onGo (L : Int) 0)) ∧ Drew W wr) (fun i _ => rows.length - (intOf i).toNat)
  case atStart => exact ⟨0, Nat.zero_le _, rfl, Lib.hid rfl, Drew.refl _⟩
  case round =>
    obtain ⟨k, hk, rfl, H, hD⟩ := hrel
    have hszr : W.heap.size ≤ wr.heap.size := by rw [hD.heap]; exact Nat.le_refl _
    by_cases hlt : k < rows.length
    · have HD := Lib.hid (drop_cons rows k hlt)
      obtain ⟨a', cap', V', e1, _, _, hV, hd⟩ := (HRW.out.drew hD).out
      simp only [Value.slice.injEq] at e1
      obtain ⟨rfl, _, rfl⟩ := e1
      rcases hd with hd | ⟨b, off, rfl, hb1, hb2, hb3, hcell⟩
      · rw [hd] at hlt; simp at hlt
      have hck := hcell k hlt
      have HX := Lib.hid (hV k hlt)
      have hzk := hz.row hlt
      have hbw := hBW.trans (hD.below w.heap.size)
      have HBW := Lib.hid hbw
      have HON := Lib.hid (onGo_zero (L : Int) rows[k])
      clear hcell hV hbw
      cases hr : risesI rows[k]
      · have HE := Lib.hid (oddModel_no (L := (L : Int)) (rows := rows) (odd := odd) (by rw [HOK.out, ← H.out, HD.out, List.all_cons, HON.out, hr]; simp))
        go_wp2_with fail
        refine (isRising_any _ rows[k] wr HX.out hzk).mono ?_
        rintro e w3 ⟨rfl, hD3⟩
        go_wp2
        go_ret2
        exact ⟨_, by rw [HE.out]; rfl, by rw [HE.out]; exact OwnB.nil _ _ _ (Nat.le_refl _), HBW.out.trans (hD3.below _)⟩
      cases ha : rows[k].all (inB 1 (L : Int))
      · have HE := Lib.hid (oddModel_no (L := (L : Int)) (rows := rows) (odd := odd) (by rw [HOK.out, ← H.out, HD.out, List.all_cons, HON.out, hr, ha]; simp))
        go_wp2_with fail
        refine (isRising_any _ rows[k] wr HX.out hzk).mono ?_
        rintro e w3 ⟨rfl, hD3⟩
        go_wp2_with (go_at_call 79; refine (allWithin_any _ _ _ rows[k] _ _ _ (HX.out.drew hD3)).mono ?_; rintro e w' ⟨rfl, rfl⟩)
        go_ret2
        exact ⟨_, by rw [HE.out]; rfl, by rw [HE.out]; exact OwnB.nil _ _ _ (Nat.le_refl _), HBW.out.trans (hD3.below _)⟩
      · go_wp2_with fail
        refine (isRising_any _ rows[k] wr HX.out hzk).mono ?_
        rintro e w3 ⟨rfl, hD3⟩
        go_wp2_with (go_at_call 79; refine (allWithin_any _ _ _ rows[k] _ _ _ (HX.out.drew hD3)).mono ?_; rintro e w' ⟨rfl, rfl⟩)
        go_roundw
        case rel => exact ⟨k + 1, by omega, by go_num, Lib.hid (by rw [← H.out, HD.out, List.all_cons, HON.out, hr, ha]; simp), hD.trans hD3⟩
        case measure => simp [intOf]; omega
    · obtain rfl : k = rows.length := by omega
      have hok : oddOk (L : Int) rows odd = true := by rw [HOK.out, ← H.out, drop_len _ _ (Nat.le_refl _)]; rfl
      have hall : ∀ r ∈ rows, onGo (L : Int) 0 r = true := by rw [HOK.out] at hok; exact List.all_eq_true.1 hok
      have HALL := Lib.hid hall
      have HOk := Lib.hid hok
      obtain ⟨W2, hW2⟩ : ∃ W, W = wr.alloc (.cells #[.slice none 0 0] 40) := ⟨_, rfl⟩
      have hs2 : W2.heap.size = wr.heap.size + 1 := by rw [hW2]; simp
      have hb2 : Below wr.heap.size wr W2 := by rw [hW2]; exact alloc_below _ _
      have oc2 : OneC W2 wr.heap.size 40 (.slice none 0 0) := by rw [hW2]; exact OneC.new _ _ _
      have HPR2 := Lib.hid ((HPR.out.drew hD).below hb2 (by omega))
      have HPO2 := Lib.hid ((HPO.out.drew hD).below hb2 (by omega))
      have HRWr := Lib.hid (HRW.out.drew hD)
      have HODr := Lib.hid (HOD.out.drew hD)
      have hbw : Below w.heap.size w wr := hBW.trans (hD.below w.heap.size)
      have HBW := Lib.hid hbw
      have hwl : w.heap.size + 2 ≤ wr.heap.size := by omega
      clear hok hall hbw
      go_wp2_with fail
      rw [← hW2]
      clear hW2
      refine (eachValues_any L hL2 96 (fun _ _ => by kernel_rfl) _ W2 (OddInv wr w.heap.size (w.heap.size + 1) wr.heap.size (2 ^ L) (.slice a rows.length cap) (.slice oa odd.length ocap) (fun n => oddAll L n rows odd)) (OddPost wr wr.heap.size L (2 ^ L) (fun n => oddAll L n rows odd)) ⟨HPR2.out, HPO2.out, oc2, rfl, hb2⟩ ?_ ?_ ?_).mono ?_
      · rintro n wx wx' hs ⟨i1, i2, i3, i4, i5⟩ hb
        exact ⟨i1.below hb i1.lt, i2.below hb i2.lt, i3.below hb i3.lt, i4, i5.trans (hb.mono i5.size)⟩
      · rintro n wx vv lo hlt hlo ⟨i1, i2, i3, i4, i5⟩ hvv
        have hsz := i5.size
        refine (oddClosure_any w.heap.size (w.heap.size + 1) wr.heap.size L n _ _ _ vv rows odd wx i1 i2 i3 (HRWr.out.below i5 (by omega)) (HODr.out.below i5 (by omega)) HOL.out HALL.out hL2 hL1 hn48 hvv).mono ?_
        rintro e w' (⟨hf, rfl, rfl⟩ | ⟨hf, rfl, rfl⟩)
        · refine ⟨Nat.le_refl _, .inl ⟨rfl, i1, i2, i3, ?_, i5⟩⟩
          rw [← i4, show 2 ^ L - n = (2 ^ L - (n + 1)) + 1 by omega, firstP_step _ _ _ hf]
        · have hsm := setAt_same wx wr.heap.size vv
          have hs2' := hsm.size
          have hvs := hvv.same hsm (.inr (by omega))
          refine ⟨by omega, .inr ⟨rfl, ⟨i5.trans (hsm.below (Nat.le_refl _) hsz), .inr ⟨n, vv, ?_, i3.set vv, hvs.mono (by omega) (by omega) (Nat.le_refl _)⟩⟩⟩⟩
          rw [← i4, show 2 ^ L - n = (2 ^ L - (n + 1)) + 1 by omega, firstP_hit _ _ _ hf]
      · rintro wx _ ⟨i1, i2, i3, i4, i5⟩
        refine ⟨i5, .inl ⟨?_, i3⟩⟩
        rw [← i4, Nat.sub_self, firstP]
      · rintro e w5 ⟨rfl, hs5, i1, ⟨hf, hq⟩ | ⟨n, vv, hf, hq, ho⟩⟩
        · have c0 := hq.cell
          have HR := Lib.hid (oddModel_none HOk.out hf)
          clear hf
          go_wp2_with fail
          go_quiet (fail)
          go_wp2
          go_ret2
          exact ⟨_, by rw [HR.out]; rfl, by rw [HR.out]; exact OwnB.nil _ _ _ (Nat.le_refl _), (HBW.out.trans (i1.mono (by omega))).trans ((Drew.one _ _).below _)⟩
        · obtain ⟨g, gc, rfl⟩ := valuesN_slice ho hL1
          have c0 := hq.cell
          have HR := Lib.hid (oddModel_some HOk.out hf)
          have HO := Lib.hid ho
          clear hf ho
          go_wp2_with fail
          go_quiet (fail)
          go_wp2
          go_ret2
          exact ⟨_, by rw [HR.out]; rfl, by rw [HR.out]; exact (HO.out.mono (by omega) (Nat.le_refl _) (Nat.le_refl _)).drew (Drew.one _ _), (HBW.out.trans (i1.mono (by omega))).trans ((Drew.one _ _).below _)⟩
end Go.Proofs.Ytcpbgjnijhcpkaa
