/-
  Plain: least cores, and clauses that are learned, as FnProofs compares them.
-/
import Derived.Test.YtcpbgjnijhcpkaaFpA
import Derived.Test.YtcpbgjnijhcpkaaTwo
import Derived.OwnWalk
import Derived.Test.YtcpbgjnijhcpkaaJoin
import Derived.Deep.DeepCutAuto
import Derived.Test.YtcpbgjnijhcpkaaFormA
import Derived.Test.YtcpbgjnijhcpkaaTwoC
import Derived.Test.YtcpbgjnijhcpkaaThin
import Derived.Test.YtcpbgjnijhcpkaaUnitsOf
import Derived.Test.YtcpbgjnijhcpkaaProof
namespace Go.Proofs.Ytcpbgjnijhcpkaa
open Go.RowKit
set_option linter.unusedVariables false
set_option maxRecDepth 100000

theorem i64_nat (a : Nat) (ha : a < 9223372036854775808) : (BitVec.ofInt 64 (a : Int)).toNat = a := by
  rw [BitVec.ofInt_natCast, BitVec.toNat_ofNat]; exact Nat.mod_eq_of_lt (by omega)
theorem and_nat (a b : Nat) (ha : a < 4294967296) (hb : b < 4294967296) : bits .and .i64 (a : Int) (b : Int) = ((a &&& b : Nat) : Int) := by
  have hx : a &&& b ≤ a := Nat.and_le_left
  show IntKind.i64.wrap ((BitVec.ofInt 64 (a : Int) &&& BitVec.ofInt 64 (b : Int)).toNat : Int) = _
  rw [BitVec.toNat_and, i64_nat a (by omega), i64_nat b (by omega), IntWalk.i64_in _ (by omega)]
theorem or_nat (a b : Nat) (ha : a < 4294967296) (hb : b < 4294967296) : bits .or .i64 (a : Int) (b : Int) = ((a ||| b : Nat) : Int) := by
  have hx : a ||| b < 2 ^ 32 := Nat.or_lt_two_pow (by omega) (by omega)
  show IntKind.i64.wrap ((BitVec.ofInt 64 (a : Int) ||| BitVec.ofInt 64 (b : Int)).toNat : Int) = _
  rw [BitVec.toNat_or, i64_nat a (by omega), i64_nat b (by omega), IntWalk.i64_in _ (by omega)]
theorem bitN_test (n k : Nat) : bitN n k = n.testBit k := by unfold bitN; rw [Nat.testBit_eq_decide_div_mod_eq]
theorem numGo_inj (xs bs : List Bool) (h : xs.length = bs.length) (e : numGo 0 xs = numGo 0 bs) : xs = bs := by
  rw [← valuesN_numGo xs, ← valuesN_numGo bs, h, e]
theorem numGo_lt (a : Nat) (bs : List Bool) : numGo a bs < (a + 1) * 2 ^ bs.length := by
  induction bs generalizing a with
  | nil => simp [numGo]
  | cons b r ih =>
    have h1 := ih (2 * a + b.toNat)
    have h2 := b.toNat_le
    rw [numGo, List.length_cons, Nat.pow_succ]
    refine Nat.lt_of_lt_of_le h1 ?_
    rw [Nat.mul_comm (2 ^ r.length) 2, ← Nat.mul_assoc]
    exact Nat.mul_le_mul_right _ (by omega)
/-- the mask of letters: their digits -/
def maskOf (L : Nat) (list : List Int) : Nat := list.foldl (fun m x => m ||| 2 ^ (L - x.toNat)) 0
theorem mask_snoc (L : Nat) (list : List Int) (x : Int) : maskOf L (list ++ [x]) = maskOf L list ||| 2 ^ (L - x.toNat) := by simp [maskOf]
theorem mask_test (L : Nat) (list : List Int) (j : Nat) : (maskOf L list).testBit j = list.any fun x => decide (L - x.toNat = j) := by
  have h : ∀ (rs : List Int), (maskOf L rs.reverse).testBit j = rs.any fun x => decide (L - x.toNat = j) := by
    intro rs
    induction rs with
    | nil => simp [maskOf]
    | cons a r ih => rw [List.reverse_cons, mask_snoc, Nat.testBit_or, ih, Nat.testBit_two_pow, List.any_cons, Bool.or_comm]
  have := h list.reverse
  rw [List.reverse_reverse, List.any_reverse] at this
  exact this
theorem mask_lt (L : Nat) (list : List Int) (h : ∀ x ∈ list, 1 ≤ x) (hL : 1 ≤ L) : maskOf L list < 2 ^ L := by
  have h : ∀ (rs : List Int), (∀ x ∈ rs, 1 ≤ x) → maskOf L rs.reverse < 2 ^ L := by
    intro rs
    induction rs with
    | nil => intro _; simpa [maskOf] using Nat.pow_pos (by decide : 0 < 2)
    | cons a r ih =>
      intro h
      rw [List.reverse_cons, mask_snoc]
      refine Nat.or_lt_two_pow (ih fun x hx => h x (by simp [hx])) ?_
      have := h a (by simp)
      exact Nat.pow_lt_pow_right (by decide) (by omega)
  have := h list.reverse (fun x hx => by simp at hx; exact ‹∀ x ∈ list, 1 ≤ x› x hx)
  rwa [List.reverse_reverse] at this
/-- the digits of n at letters -/
def projN (L : Nat) (list : List Int) (n : Nat) : List Bool := list.map fun x => bitN n (L - x.toNat)
theorem mask_key (L : Nat) (list : List Int) (a b : Nat) : a &&& maskOf L list = b &&& maskOf L list ↔ numGo 0 (projN L list a) = numGo 0 (projN L list b) := by
  constructor
  · intro h
    have : projN L list a = projN L list b := by
      unfold projN
      apply List.map_congr_left
      intro x hx
      rw [bitN_test, bitN_test]
      have h2 := congrArg (fun n => n.testBit (L - x.toNat)) h
      have h3 : (list.any fun y => decide (L - y.toNat = L - x.toNat)) = true := by rw [List.any_eq_true]; exact ⟨x, hx, by simp⟩
      simp only [Nat.testBit_and, mask_test, h3, Bool.and_true] at h2
      exact h2
    rw [this]
  · intro h
    have h1 := numGo_inj _ _ (by simp [projN]) h
    apply Nat.eq_of_testBit_eq
    intro j
    rw [Nat.testBit_and, Nat.testBit_and, mask_test]
    cases hj : list.any fun x => decide (L - x.toNat = j)
    · simp
    · rw [List.any_eq_true] at hj
      obtain ⟨x, hx, hxj⟩ := hj
      have hxj := of_decide_eq_true hxj
      unfold projN at h1
      have h2 := List.map_inj_left.1 h1 x hx
      rw [bitN_test, bitN_test, hxj] at h2
      rw [h2]
/-! ### lists that rise -/
def risesI : List Int → Bool
  | x :: y :: r => decide (x < y) && risesI (y :: r)
  | _ => true
def onGo (L : Int) : Int → List Int → Bool
  | _, [] => true
  | p, x :: r => inB 1 L x && decide (p < x) && onGo L x r
theorem onGo_ok (L p : Int) (zs : List Int) : onGo L p zs = ((zs.all (inB 1 L) && risesI zs) && (match zs with | [] => true | x :: _ => decide (p < x))) := by
  induction zs generalizing p with
  | nil => rfl
  | cons a r ih =>
    rw [onGo, ih]
    cases r with
    | nil => simp [risesI]
    | cons b r => simp only [List.all_cons, risesI]; cases inB 1 L a <;> cases decide (p < a) <;> cases inB 1 L b <;> cases decide (a < b) <;> simp
theorem onGo_zero (L : Int) (zs : List Int) : onGo L 0 zs = (risesI zs && zs.all (inB 1 L)) := by
  rw [onGo_ok]
  cases zs with
  | nil => rfl
  | cons a r =>
    cases h : inB 1 L a
    · simp [h]
    · have := inB_true h
      simp only [List.all_cons, h, decide_eq_true (show (0 : Int) < a by omega), Bool.and_true, Bool.true_and]
      rw [Bool.and_comm]
theorem onGo_len (L p : Int) (zs : List Int) (h : onGo L p zs = true) (hp : 0 ≤ p) (hpl : p ≤ L ∨ zs = []) : (zs.length : Int) + p ≤ L ∨ zs = [] := by
  induction zs generalizing p with
  | nil => exact .inr rfl
  | cons a r ih =>
    simp only [onGo, Bool.and_eq_true, decide_eq_true_eq] at h
    obtain ⟨⟨h1, h2⟩, h3⟩ := h
    have := inB_true h1
    rcases ih a h3 (by omega) (.inl (by omega)) with h4 | h4
    · left; rw [List.length_cons]; omega
    · left; rw [h4]; simp; omega
theorem on_len {L : Nat} {zs : List Int} (h : onGo L 0 zs = true) : zs.length ≤ L := by
  rcases onGo_len L 0 zs h (by omega) (.inl (by omega)) with h | h
  · omega
  · rw [h]; simp
theorem on_all {L p : Int} {zs : List Int} (h : onGo L p zs = true) : ∀ x ∈ zs, 1 ≤ x ∧ x ≤ L := by
  intro x hx
  rw [onGo_ok, Bool.and_eq_true, Bool.and_eq_true, List.all_eq_true] at h
  exact inB_true (h.1.1 x hx)
def prevRaw (zs : List Int) (k : Nat) : Int := if k = 0 then 0 else zs.getD (k - 1) 0
theorem prevRaw_succ (zs : List Int) (k : Nat) (h : k < zs.length) : prevRaw zs (k + 1) = zs[k] := by simp [prevRaw, h]
theorem prevRaw_zero (zs : List Int) (k : Nat) (h : ¬ 0 < k) : prevRaw zs k = 0 := by unfold prevRaw; rw [if_pos (by omega)]
theorem prevRaw_pos (zs : List Int) (k : Nat) (h0 : 0 < k) (h : k - 1 < zs.length) : prevRaw zs k = zs[k - 1] := by
  unfold prevRaw; rw [if_neg (by omega)]; simp [h]
theorem rises_short (zs : List Int) (h : zs.length ≤ 1) : risesI zs = true := by
  match zs, h with
  | [], _ => rfl
  | [x], _ => rfl
set_option maxHeartbeats 800000 in
set_option maxRecDepth 100000 in
theorem isRising_any {l h : Nat} (v : Value) (zs : List Int) (w : World) (hv : Ints w l h v zs) (hz : zs.length ≤ 1048576) :
    Calls Try.prog 78 #[v] w fun e w' => e = .returned (.bool (risesI zs)) ∧ Drew w w' := by
  obtain ⟨a, cap, rfl, hc1, hc2, hd⟩ := hv.out
  go_enter Try.func78, Try.ntmps78
  go_wp2_with fail
  go_loopw [3] (fun i wr => ∃ k : Nat, 1 ≤ k ∧ i = .int .i64 k ∧ Hid (risesI (zs.drop (k - 1)) = risesI zs) ∧ Drew w wr ∧ (k ≤ zs.length ∨ zs.length = 0)) (fun i _ => zs.length - (intOf i).toNat)
  case atStart => exact ⟨1, Nat.le_refl _, rfl, Lib.hid (by simp), Drew.refl _, by omega⟩
  case round =>
    obtain ⟨k, hk1, rfl, H, hD, hk2⟩ := hrel
    have hcw := hD.cell
    by_cases hlt : k < zs.length
    · have hlt' : k - 1 < zs.length := by omega
      have HD := Lib.hid (drop_cons zs (k - 1) hlt')
      have HD2 := Lib.hid (drop_cons zs k hlt)
      rcases hd with rfl | ⟨b, off, rfl, hb1, hb2, hb3, hcell⟩
      · simp at hlt
      have hck := hcell k hlt
      have hckp := hcell (k - 1) hlt'
      clear hcell
      have HS := Lib.hid (show risesI (zs.drop (k - 1)) = (decide (zs[k - 1] < zs[k]) && risesI (zs.drop k)) by
        rw [HD.out, show k - 1 + 1 = k by omega, HD2.out, risesI])
      have hwr : IntKind.i64.wrap ((k : Int) - 1) = (k : Int) - 1 := IntWalk.i64_in _ (by omega)
      have hk0 : (0 : Int) ≤ (k : Int) - 1 := by omega
      have hkn : ((k : Int) - 1).toNat = k - 1 := by omega
      have hkl : (k : Int) - 1 < (zs.length : Int) := by omega
      cases hq : decide (zs[k] ≤ zs[k - 1])
      all_goals
        go_wp2_with fail
        go_quiet (fail)
        clear hwr hk0 hkn hkl
        go_wp2
      · go_roundw
        case rel => exact ⟨k + 1, by omega, by go_num, Lib.hid (by rw [show k + 1 - 1 = k by omega, ← H.out, HS.out, show decide (zs[k - 1] < zs[k]) = true by simp at hq ⊢; omega, Bool.true_and]), hD.step _, by omega⟩
        case measure => simp [intOf]; omega
      · go_ret
        exact ⟨ret_bool (by rw [← H.out, HS.out, show decide (zs[k - 1] < zs[k]) = false by simp at hq ⊢; omega, Bool.false_and]), hD.step _⟩
    · go_wp2
      go_ret
      exact ⟨ret_bool (by rw [← H.out, rises_short _ (by rw [List.length_drop]; omega)]), hD⟩
end Go.Proofs.Ytcpbgjnijhcpkaa

namespace Go.Proofs.Ytcpbgjnijhcpkaa
open Go.RowKit
set_option linter.unusedVariables false
set_option maxRecDepth 100000

def seenBefore (M : Nat → Bool) (key : Nat → Nat) (n j : Nat) : Bool := (List.range n).any fun m => M m && (key m == j)
theorem seenBefore_succ (M : Nat → Bool) (key : Nat → Nat) (n j : Nat) : seenBefore M key (n + 1) j = (seenBefore M key n j || (M n && (key n == j))) := by
  simp [seenBefore, List.range_succ, List.any_append]
def freshN (M : Nat → Bool) (key : Nat → Nat) (n : Nat) : Nat := (List.range n).countP fun k => M k && !seenBefore M key k (key k)
theorem freshN_succ (M : Nat → Bool) (key : Nat → Nat) (n : Nat) : freshN M key (n + 1) = freshN M key n + (M n && !seenBefore M key n (key n)).toNat := by
  unfold freshN
  rw [List.range_succ, List.countP_append, List.countP_singleton]
  cases (M n && !seenBefore M key n (key n)) <;> rfl
theorem freshN_le (M : Nat → Bool) (key : Nat → Nat) (n : Nat) : freshN M key n ≤ n := by
  have := List.countP_le_length (p := fun k => M k && !seenBefore M key k (key k)) (l := List.range n)
  rwa [List.length_range] at this
theorem fresh_congr {M : Nat → Bool} {key key' : Nat → Nat} {N : Nat} (h : ∀ a b, a < N → b < N → (key a = key b ↔ key' a = key' b)) : freshN M key N = freshN M key' N := by
  unfold freshN
  apply List.countP_congr
  intro k hk
  rw [List.mem_range] at hk
  have : seenBefore M key k (key k) = seenBefore M key' k (key' k) := by
    rw [Bool.eq_iff_iff]
    simp only [seenBefore, List.any_eq_true, List.mem_range, Bool.and_eq_true, beq_iff_eq]
    constructor
    · rintro ⟨m, h1, h2, h3⟩; exact ⟨m, h1, h2, (h m k (by omega) hk).1 h3⟩
    · rintro ⟨m, h1, h2, h3⟩; exact ⟨m, h1, h2, (h m k (by omega) hk).2 h3⟩
  rw [this]
def onModels (L : Nat) (cs : List (List Int)) (n : Nat) : Bool := formTrue (valuesN L n) cs
def onKey (L : Nat) (list : List Int) (n : Nat) : Nat := numGo 0 (projN L list n)
def maskKey (L : Nat) (list : List Int) (n : Nat) : Nat := n &&& maskOf L list
theorem countOn_mask (L : Nat) (cs : List (List Int)) (list : List Int) (N : Nat) : freshN (onModels L cs) (maskKey L list) N = freshN (onModels L cs) (onKey L list) N :=
  fresh_congr fun a b _ _ => mask_key L list a b
def countOn (f : FormD) (list : List Int) : Int × Bool :=
  if validForm f && onGo f.letters 0 list then (((freshN (onModels f.letters.toNat f.clauses) (onKey f.letters.toNat list) (2 ^ f.letters.toNat) : Nat) : Int), true) else (0, false)
theorem countOn_valid {f : FormD} {list : List Int} {L : Nat} (hv : validForm f = true) (ho : onGo f.letters 0 list = true) (hL : f.letters = (L : Int)) :
    countOn f list = (((freshN (onModels L f.clauses) (onKey L list) (2 ^ L) : Nat) : Int), true) := by
  unfold countOn; rw [hv, ho, hL, Int.toNat_natCast]; rfl
set_option maxHeartbeats 2000000 in
set_option maxRecDepth 100000 in
theorem specCountOn_any (w : World) {l h l' h' : Nat} (v : Value) (f : FormD) (v' : Value) (list : List Int) (hv : FormR w l h v f) (hh : h ≤ w.heap.size) (hz : SmallII f.clauses) (hv' : Ints w l' h' v' list) (hh' : h' ≤ w.heap.size) (hz' : list.length ≤ 1048576) :
    Calls Try.prog 44 #[v, v'] w fun e w' => e = .returned (.tuple #[.int .i64 (countOn f list).1, .bool (countOn f list).2]) ∧ Below w.heap.size w w' := by
  obtain ⟨i0, hi, hz0, hz1, hz2⟩ := info_parts info_bool
  obtain ⟨u, rfl, hu⟩ := hv.ex
  have kL := hv.rng
  obtain ⟨W, hW⟩ : ∃ W, W = w.alloc (.cells #[.int .i64 f.letters, u] 26) := ⟨_, rfl⟩
  have hBW : Below w.heap.size w W := by rw [hW]; exact alloc_below _ _
  have hsW : W.heap.size = w.heap.size + 1 := by rw [hW]; simp
  have hbx : BoxF W w.heap.size f.letters u := by rw [hW]; exact BoxF.new _ _ _ _
  have HU := Lib.hid (hu.below hBW hh)
  have HB := Lib.hid hbx
  have HLI := Lib.hid (hv'.below hBW hh')
  obtain ⟨la, lcap, le, lc1, lc2, _⟩ := hv'.out
  subst le
  have hcl : f.clauses.length ≤ 1048576 := hz.1
  clear hbx hu hv hv'
  go_enter Try.func44, Try.ntmps44
  go_wp2_with fail
  rw [← hW]
  clear hW
  refine (l05Is_any W _ _ f HB.out.c0 HB.out.c1 (by omega) kL HU.out (by omega)).mono ?_
  rintro e w2 ⟨rfl, hb2⟩
  have hs2 := hb2.size
  cases hval : validForm f
  · have HE := Lib.hid (show countOn f list = (0, false) by simp [countOn, hval])
    go_wp2
    go_ret2
    exact ⟨by rw [HE.out]; rfl, hBW.trans (hb2.mono hBW.size)⟩
  · obtain ⟨L, hL, hL1, hL2⟩ := lettersN hval
    have hB2 := HB.out.below hb2 HB.out.lt
    rw [hL] at hB2
    have HB2 := Lib.hid hB2
    have HU2 := Lib.hid (HU.out.below hb2 (by omega))
    have HLA := Lib.hid (litsAll_of_valid hL hval)
    have hli2 := HLI.out.below hb2 (by omega)
    obtain ⟨la', lcap', e1, _, _, ld⟩ := hli2.out
    simp only [Value.slice.injEq] at e1
    obtain ⟨rfl, _, rfl⟩ := e1
    have HNo := Lib.hid (fun (ho : onGo (L : Int) 0 list = false) => show countOn f list = (0, false) by rw [← hL] at ho; simp [countOn, ho])
    have HYes := Lib.hid (fun (ho : onGo (L : Int) 0 list = true) => countOn_valid hval (by rw [hL]; exact ho) hL)
    have hBw2 : Below w.heap.size w w2 := hBW.trans (hb2.mono hBW.size)
    have kL0 : (1 : Int) ≤ (L : Int) := by omega
    have kL1 : (L : Int) ≤ 10 := by omega
    clear hval hB2 hL hli2
    go_wp2_with fail
    go_loopw [6, 15] (fun mv i wr => ∃ k m : Nat, k ≤ list.length ∧ i = .int .i64 k ∧ mv = .int .i64 m ∧ m < 1024 ∧ Hid (m = maskOf L (list.take k)) ∧ Hid (∀ x ∈ list.take k, 1 ≤ x) ∧ Hid (onGo L (prevRaw list k) (list.drop k) = onGo L 0 list) ∧ Drew w2 wr) (fun _ i _ => list.length - (intOf i).toNat)
    case atStart => exact ⟨0, 0, Nat.zero_le _, rfl, rfl, by omega, Lib.hid (by simp [maskOf]), Lib.hid (by simp), Lib.hid rfl, Drew.refl _⟩
    case round =>
      obtain ⟨k, m, hk, rfl, rfl, hm, HM, HA1, H, hD⟩ := hrel
      have hB3 := HB2.out.drew hD
      have c0 := hB3.c0
      have HB3 := Lib.hid hB3
      clear hB3
      by_cases hlt : k < list.length
      · have HD := Lib.hid (drop_cons list k hlt)
        have HT := Lib.hid (show list.take (k + 1) = list.take k ++ [list[k]] from List.take_succ_eq_append_getElem hlt)
        have HP1 := Lib.hid (prevRaw_succ list k hlt)
        rcases ld with rfl | ⟨b, off, rfl, hb1, hbb2, hbb3, hcell⟩
        · simp at hlt
        have HC : Hid (∀ i, i < list.length → wr.cell? ⟨b, off + i, none⟩ = some (.int .i64 (list.getD i 0))) := fun i hi => by rw [hD.cell]; exact hcell i hi
        have hck : wr.cell? ⟨b, off + k, none⟩ = some (.int .i64 list[k]) := by have := HC.out k hlt; simpa [List.getD, hlt] using this
        clear hcell
        have hbel := hBw2.trans (hD.below _)
        have HBEL := Lib.hid hbel
        clear hbel
        cases h1 : inB 1 (L : Int) list[k]
        · have HN := Lib.hid (HNo.out (by rw [← H.out, HD.out, onGo, h1]; simp))
          by_cases hk0 : 0 < k
          all_goals
            go_wp2_with fail
            go_quiet ((go_at_call 98; exact quiet_same (l00In_any _ _ _ _)))
            go_wp2
            go_ret2
            exact ⟨by rw [HN.out]; rfl, HBEL.out.trans ((Drew.one _ _).below _)⟩
        have hx := inB_true h1
        obtain ⟨A, hA⟩ : ∃ A : Nat, list[k] = (A : Int) := ⟨list[k].toNat, by omega⟩
        have HAK := Lib.hid hA
        rw [hA] at hck h1 hx
        have hA1 : 1 ≤ A := by omega
        have hA2 : A ≤ L := by omega
        obtain ⟨q, hq⟩ : ∃ q : Nat, q = 2 ^ (L - A) := ⟨_, rfl⟩
        have hsh := (shl_one (L - A) (by omega)).1
        have hq2 := (shl_one (L - A) (by omega)).2
        rw [← hq] at hsh hq2
        have hor := or_nat m q (by omega) (by omega)
        have HQ := Lib.hid hq
        have hm2 : m ||| q < 1024 := by
          have h2 : q < 1024 := by rw [hq]; exact Nat.lt_of_lt_of_le (Nat.pow_lt_pow_right (by decide : 1 < 2) (show L - A < L by omega)) (pow_L hL2)
          exact Nat.or_lt_two_pow (n := 10) hm h2
        have HMN : Hid (m ||| q = maskOf L (list.take (k + 1))) := by rw [Hid, HT.out, mask_snoc, ← HM.out, HAK.out, Int.toNat_natCast, HQ.out]
        have HAN : Hid (∀ x ∈ list.take (k + 1), 1 ≤ x) := by
          intro x hx'
          rw [HT.out, List.mem_append, List.mem_singleton] at hx'
          rcases hx' with hx' | rfl
          · exact HA1.out x hx'
          · rw [HAK.out]; omega
        clear hA hq hx
        by_cases hk0 : 0 < k
        · have hlt' : k - 1 < list.length := by omega
          have hckp : wr.cell? ⟨b, off + (k - 1), none⟩ = some (.int .i64 list[k - 1]) := by have := HC.out (k - 1) hlt'; simpa [List.getD, hlt'] using this
          have HP := Lib.hid (prevRaw_pos list k hk0 hlt')
          have hwr : IntKind.i64.wrap ((k : Int) - 1) = (k : Int) - 1 := IntWalk.i64_in _ (by omega)
          have hkz : (0 : Int) ≤ (k : Int) - 1 := by omega
          have hkn : ((k : Int) - 1).toNat = k - 1 := by omega
          have hkl : (k : Int) - 1 < (list.length : Int) := by omega
          cases hqq : decide ((A : Int) ≤ list[k - 1])
          · have HS := Lib.hid (show onGo L list[k] (list.drop (k + 1)) = onGo L 0 list by
              rw [← H.out, HD.out, onGo, HAK.out, h1, HP.out, show decide (list[k - 1] < (A : Int)) = true by simp at hqq ⊢; omega]; simp)
            go_wp2_with fail
            go_quiet ((go_at_call 98; exact quiet_same (l00In_any _ _ _ _)))
            clear hwr hkz hkn hkl
            go_wp2_with fail
            go_quiet (fail)
            go_wp2
            go_roundw
            case rel => exact ⟨k + 1, m ||| q, by omega, by go_num, rfl, hm2, HMN.out, HAN.out, Lib.hid (by rw [HP1.out]; exact HS.out), hD.step _⟩
            case measure => simp [intOf]; omega
          · have HN := Lib.hid (HNo.out (by rw [← H.out, HD.out, onGo, HAK.out, HP.out, show decide (list[k - 1] < (A : Int)) = false by simp at hqq ⊢; omega]; simp))
            go_wp2_with fail
            go_quiet ((go_at_call 98; exact quiet_same (l00In_any _ _ _ _)))
            clear hwr hkz hkn hkl
            go_wp2
            go_ret2
            exact ⟨by rw [HN.out]; rfl, HBEL.out.trans ((Drew.one _ _).below _)⟩
        · have HP := Lib.hid (prevRaw_zero list k hk0)
          have HS := Lib.hid (show onGo L list[k] (list.drop (k + 1)) = onGo L 0 list by
              rw [← H.out, HD.out, onGo, HAK.out, h1, HP.out, show decide ((0 : Int) < (A : Int)) = true by simp; omega]; simp)
          go_wp2_with fail
          go_quiet ((go_at_call 98; exact quiet_same (l00In_any _ _ _ _)))
          go_wp2_with fail
          go_quiet (fail)
          go_wp2
          go_roundw
          case rel => exact ⟨k + 1, m ||| q, by omega, by go_num, rfl, hm2, HMN.out, HAN.out, Lib.hid (by rw [HP1.out]; exact HS.out), hD.step _⟩
          case measure => simp [intOf]; omega
      · obtain rfl : k = list.length := by omega
        have hon : onGo (L : Int) 0 list = true := by rw [← H.out, drop_len _ _ (Nat.le_refl _)]; rfl
        have HE := Lib.hid (HYes.out hon)
        have hmm : m = maskOf L list := by have := HM.out; rwa [List.take_length] at this
        have HMM := Lib.hid hmm
        obtain ⟨N, hN⟩ : ∃ N : Nat, N = 2 ^ L := ⟨_, rfl⟩
        have hsh := (shl_one L hL2).1
        have hN2 := (shl_one L hL2).2
        rw [← hN] at hsh hN2
        have HN := Lib.hid hN
        clear hon hmm hN HNo HYes
        go_wp2_with (refine wpList_make_full _ rfl _ _ 40 rfl wr.heap.size 4 i0 (.bool false) 1 Try.underlying40 hi hz0 hz1 .i64 .i64 _ _ N rfl rfl rfl rfl ?c1 (by unfold maxLen; omega) ?c2 ?_)
        case c1 => rw [hz2]; omega
        case c2 => exact Nat.le_refl _
        intro w3 hown hg
        have hrow0 : RowB w3 wr.heap.size wr.heap.size N N (List.replicate N false) := RowB.made hown
        have hb0 : Below wr.heap.size wr w3 := (Below.refl _ _).grown hg (Nat.le_refl _) (fun k hk => by cases hk)
        have hszr : wr.heap.size = w2.heap.size := by rw [hD.heap]
        have HZR := Lib.hid hszr
        have HB4 := Lib.hid (HB3.out.below hb0 HB3.out.lt)
        have HU4 := Lib.hid ((HU2.out.drew hD).below hb0 (by omega))
        have hBw3 : Below w.heap.size w w3 := (hBw2.trans (hD.below _)).trans (hb0.mono (by omega))
        have HBw3 := Lib.hid hBw3
        have hg3 := hrow0.lt
        obtain ⟨g, hgg⟩ : ∃ g : Nat, g = wr.heap.size := ⟨_, rfl⟩
        rw [← hgg] at hrow0 hb0 hg3
        rw [← hgg]
        have hgw : w.heap.size < g := by omega
        have hgh : h ≤ g := by omega
        clear hown hg hszr hgg c0 hBw3
        have HM0 : Hid (freshN (onModels L f.clauses) (maskKey L list) 0 = 0) := rfl
        go_wp2_with fail
        go_loopw [9, 10] (fun cv i wr => ∃ (n c : Nat) (B : List Bool), n ≤ N ∧ i = .int .i64 n ∧ cv = .int .i64 c ∧ c ≤ n ∧ Hid (c = freshN (onModels L f.clauses) (maskKey L list) n) ∧ RowB wr g g N N B ∧ Hid (∀ j : Nat, j < N → B.getD j false = seenBefore (onModels L f.clauses) (maskKey L list) n j) ∧ Below g w3 wr) (fun _ i _ => N - (intOf i).toNat)
        case atStart => exact ⟨0, 0, _, Nat.zero_le _, rfl, rfl, Nat.le_refl _, Lib.hid rfl, hrow0, Lib.hid (fun j _ => by rw [replicate_getD]; rfl), Below.refl _ _⟩
        case round =>
          clear hrow0 hb0
          obtain ⟨n, c, B, hn, rfl, rfl, hc, HC, hrow, HB', hb⟩ := hrel
          have hsz := hb.size
          have HB5 := Lib.hid (HB4.out.below hb (by omega))
          have HU5 := Lib.hid (HU4.out.below hb (by omega))
          have c0 := HB5.out.c0
          have HFS := Lib.hid (freshN_succ (onModels L f.clauses) (maskKey L list) n)
          have HSS := Lib.hid (seenBefore_succ (onModels L f.clauses) (maskKey L list) n)
          by_cases hlt : n < N
          · have HCM := Lib.hid (l05Model_any w.heap.size L n u f.clauses wr HB5.out.c0 HB5.out.c1 HU5.out HLA.out hL2 (by omega) hcl)
            have hand := and_nat n m (by omega) (by omega)
            have hle : n &&& m ≤ n := Nat.and_le_left
            obtain ⟨kq, hkq⟩ : ∃ kq : Nat, kq = n &&& m := ⟨_, rfl⟩
            rw [← hkq] at hand hle
            have hkN : kq < N := by omega
            have HKQ : Hid (maskKey L list n = kq) := by rw [Hid, hkq, maskKey, HMM.out]
            have hBk := hrow.cell hkN
            have hfk := hrow.frozen kq
            have HBK := Lib.hid (HB'.out kq hkN)
            have HRow := Lib.hid hrow
            have hBl := hrow.length
            clear hkq
            cases hft : formTrue (valuesN L n) f.clauses
            · have HFT : Hid (onModels L f.clauses n = false) := hft
              go_wp2_with fail
              refine HCM.out.mono ?_
              rintro e w4 ⟨rfl, hD4⟩
              rw [hft]
              go_wp2
              go_roundw
              case rel =>
                refine ⟨n + 1, c, B, by omega, by go_num, rfl, by omega, Lib.hid (by rw [HFS.out, HFT.out, HC.out]; rfl), HRow.out.drew hD4, Lib.hid (fun j hj => ?_), hb.trans (hD4.below _)⟩
                rw [HSS.out, HFT.out, Bool.false_and, Bool.or_false]; exact HB'.out j hj
              case measure => simp [intOf]; omega
            · have HFT : Hid (onModels L f.clauses n = true) := hft
              cases hs : B.getD kq false
              · go_wp2_with fail
                refine HCM.out.mono ?_
                rintro e w4 ⟨rfl, hD4⟩
                rw [hft]
                have hBk4 := (HRow.out.drew hD4).cell hkN
                have hfk4 := (HRow.out.drew hD4).frozen kq
                rw [hs] at hBk4
                go_wp2
                go_roundw
                case rel =>
                  refine ⟨n + 1, c + 1, _, by omega, by go_num, by go_num, by omega, Lib.hid (by rw [HFS.out, HFT.out, HC.out, HKQ.out, ← HBK.out, hs]; rfl), (HRow.out.drew hD4).stored kq true, Lib.hid (fun j hj => ?_), (hb.trans (hD4.below _)).setCell (Nat.le_refl _) _⟩
                  rw [HSS.out, HFT.out, HKQ.out, Bool.true_and]
                  by_cases e : j = kq
                  · subst e; simp [List.getD, hBl, hkN]
                  · rw [← HB'.out j hj]
                    have e' : (kq == j) = false := by simp; omega
                    rw [e', Bool.or_false]
                    simp only [List.getD, List.getElem?_set_ne (show kq ≠ j by omega)]
                case measure => simp [intOf]; omega
              · go_wp2_with fail
                refine HCM.out.mono ?_
                rintro e w4 ⟨rfl, hD4⟩
                rw [hft]
                have hBk4 := (HRow.out.drew hD4).cell hkN
                rw [hs] at hBk4
                go_wp2
                go_roundw
                case rel =>
                  refine ⟨n + 1, c, B, by omega, by go_num, rfl, by omega, Lib.hid (by rw [HFS.out, HFT.out, HC.out, HKQ.out, ← HBK.out, hs]; rfl), HRow.out.drew hD4, Lib.hid (fun j hj => ?_), hb.trans (hD4.below _)⟩
                  rw [HSS.out, HFT.out, HKQ.out, Bool.true_and]
                  by_cases e : j = kq
                  · subst e; rw [← HB'.out j hj, hs]; rfl
                  · have e' : (kq == j) = false := by simp; omega
                    rw [e', Bool.or_false]; exact HB'.out j hj
                case measure => simp [intOf]; omega
          · obtain rfl : n = N := by omega
            go_wp2
            go_ret2
            refine ⟨?_, HBw3.out.trans (hb.mono (by omega))⟩
            rw [HE.out, ← HN.out, ← countOn_mask, ← HC.out]; rfl
set_option maxHeartbeats 1600000 in
set_option maxRecDepth 100000 in
theorem onClosure_any {l h l' h' lo : Nat} (p pl ps q g L N n m : Nat) (u lv v : Value) (cs : List (List Int)) (list : List Int) (B : List Bool) (w : World) (hbx : BoxF w p L u) (hol : OneC w pl 34 lv) (hos : OneC w ps 40 (.slice (some ⟨g, 0, none⟩) N N)) (hq : OneC w q 2 (.int .i64 m))
    (hrow : RowB w g g N N B) (hu : Intss w l h u cs) (hh : h ≤ w.heap.size) (hli : Ints w l' h' lv list) (hh' : h' ≤ w.heap.size) (hl : LitsAll L cs) (hn : cs.length ≤ 1048576) (hL : L ≤ 10) (hL1 : 1 ≤ L)
    (hon : onGo (L : Int) 0 list = true) (hN : N = 2 ^ L) (hv : OwnB w lo w.heap.size v (valuesN L n)) (hm : m ≤ 1024) (hgq : g ≠ q) :
    Calls Try.prog 80 #[v, .pointer (some ⟨pl, 0, none⟩), .pointer (some ⟨p, 0, none⟩), .pointer (some ⟨ps, 0, none⟩), .pointer (some ⟨q, 0, none⟩)] w fun e w' => e = .returned (.bool true) ∧
      ∃ w2, Below w.heap.size w w2 ∧ (((onModels L cs n && !B.getD (onKey L list n) false) = true ∧ w' = (w2.setCell ⟨g, onKey L list n, none⟩ (.bool true)).setCell ⟨q, 0, none⟩ (.int .i64 ((m + 1 : Nat)))) ∨ ((onModels L cs n && !B.getD (onKey L list n) false) = false ∧ w' = w2)) := by
  obtain ⟨gv, gc, e⟩ : ∃ gv gc, v = .slice (some ⟨gv, 0, none⟩) L gc := by
    rcases hv.rowOf with ⟨_, h0⟩ | ⟨g', cap, e, _⟩
    · have := valuesN_len L n; rw [h0] at this; simp at this; omega
    · exact ⟨g', cap, by rw [e, valuesN_len]⟩
  subst e
  obtain ⟨la, lcap, rfl, lc1, lc2, ld⟩ := hli.out
  have hlen : list.length ≤ 10 := by have := on_len hon; omega
  have hlenL : list.length ≤ L := on_len hon
  have HALL := Lib.hid (on_all hon)
  have HV : Hid (∀ j, j < L → w.cell? ⟨gv, j, none⟩ = some (.bool ((valuesN L n).getD j false))) := fun j hj => by
    obtain ⟨a', c', e', _, _, h3⟩ := hv.rd.out
    have hvl := valuesN_len L n
    simp only [Value.slice.injEq] at e'
    obtain ⟨rfl, _, rfl⟩ := e'
    rcases h3 with h3 | ⟨b, off, e2, _, _, _, hc⟩
    · rw [h3] at hvl; simp at hvl; omega
    · simp only [Option.some.injEq, Addr.mk.injEq] at e2
      obtain ⟨rfl, rfl, _⟩ := e2
      have := hc j (by omega)
      rwa [Nat.zero_add] at this
  have HBX := Lib.hid hbx
  have HOS := Lib.hid hos
  have HQ := Lib.hid hq
  have HROW := Lib.hid hrow
  have HU := Lib.hid hu
  have HVB := Lib.hid hv.rd
  have HN := Lib.hid hN
  have hvl := valuesN_len L n
  have HL : Hid (LitsAll (valuesN L n).length cs) := by rw [hvl]; exact hl
  have Hvl := Lib.hid hvl
  have k0 := hol.cell
  clear hbx hol hos hq hrow hu hli hl hon hv hN hvl
  go_enter Try.func80, Try.ntmps80
  go_wp2_with fail
  go_loop [7, 12] (fun kv i => ∃ k a : Nat, k ≤ list.length ∧ i = .int .i64 k ∧ kv = .int .i64 a ∧ a < 1024 ∧ Hid (a < 2 ^ k ∧ numGo a (projN L (list.drop k) n) = onKey L list n)) (fun _ i => list.length - (intOf i).toNat)
  case atStart => exact ⟨0, 0, Nat.zero_le _, rfl, rfl, by omega, Lib.hid ⟨by simp, rfl⟩⟩
  case round =>
    obtain ⟨k, a, hk, rfl, rfl, ha, H⟩ := hrel
    by_cases hlt : k < list.length
    · have HD := Lib.hid (drop_cons list k hlt)
      rcases ld with rfl | ⟨b, off, rfl, hb1, hb2, hb3, hcell⟩
      · simp at hlt
      have hck : w.cell? ⟨b, off + k, none⟩ = some (.int .i64 list[k]) := by have := hcell k hlt; simpa [List.getD, hlt] using this
      have hx := HALL.out list[k] (List.getElem_mem _)
      obtain ⟨A, hA⟩ : ∃ A : Nat, list[k] = (A : Int) + 1 := ⟨list[k].toNat - 1, by omega⟩
      rw [hA] at hck hx
      have hA2 : A < L := by omega
      have hcv := HV.out A hA2
      have HG := Lib.hid (valuesN_get L n (A + 1) (by omega) (by omega))
      have HS : Hid (numGo a (projN L (list.drop k) n) = numGo (2 * a + (bitN n (L - (A + 1))).toNat) (projN L (list.drop (k + 1)) n)) := by
        rw [Hid, HD.out, projN, List.map_cons, numGo, hA, show ((A : Int) + 1).toNat = A + 1 by omega]; rfl
      have hM : Hid (2 * a + (bitN n (L - (A + 1))).toNat < 2 ^ (k + 1) ∧ 2 * a + (bitN n (L - (A + 1))).toNat < 1024) := by
        have h1 := H.out.1
        have h2 : 2 * a + (bitN n (L - (A + 1))).toNat < 2 ^ (k + 1) := by rw [Nat.pow_succ]; have := (bitN n (L - (A + 1))).toNat_le; omega
        have h3 : 2 ^ (k + 1) ≤ 2 ^ 10 := Nat.pow_le_pow_right (by decide) (by omega)
        exact ⟨h2, by omega⟩
      clear hcell hA hx
      rw [Nat.add_sub_cancel] at HG
      rw [HG.out] at hcv
      cases hin : bitN n (L - (A + 1))
      · rw [hin] at hcv
        go_wp2
        go_round
        case rel => exact ⟨k + 1, 2 * a, by omega, by go_num, by go_num, by have := hM.out.2; rw [hin] at this; simpa using this, Lib.hid ⟨by have := hM.out.1; rw [hin] at this; simpa using this, by rw [← H.out.2, HS.out, hin]; rfl⟩⟩
        case measure => simp [intOf]; omega
      · rw [hin] at hcv
        go_wp2
        go_round
        case rel => exact ⟨k + 1, 2 * a + 1, by omega, by go_num, by go_num, by have := hM.out.2; rw [hin] at this; simpa using this, Lib.hid ⟨by have := hM.out.1; rw [hin] at this; simpa using this, by rw [← H.out.2, HS.out, hin]; rfl⟩⟩
        case measure => simp [intOf]; omega
    · obtain rfl : k = list.length := by omega
      have hkey : onKey L list n = a := by have := H.out.2; rw [drop_len _ _ (Nat.le_refl _)] at this; exact this.symm
      have haN : a < N := by
        have h1 := H.out.1
        have h2 : 2 ^ list.length ≤ 2 ^ L := Nat.pow_le_pow_right (by decide) hlenL
        rw [HN.out]; omega
      have HK := Lib.hid hkey
      clear hkey
      have c0 := HBX.out.c0
      have c1 := HBX.out.c1
      have HCH := Lib.hid (holds_any (L : Int) u _ cs (valuesN L n) w HU.out HVB.out hh (Nat.le_refl _) HL.out (by rw [Hvl.out]; omega) hn)
      cases hft : formTrue (valuesN L n) cs
      · have HFT : Hid (onModels L cs n = false) := hft
        go_wp2_with fail
        refine HCH.out.mono ?_
        rintro e w2 ⟨rfl, hb2⟩
        rw [hft]
        go_wp2
        go_ret
        exact ⟨rfl, w2, hb2, .inr ⟨by rw [HFT.out]; rfl, rfl⟩⟩
      · have HFT : Hid (onModels L cs n = true) := hft
        cases hs : B.getD a false
        all_goals
          go_wp2_with fail
          refine HCH.out.mono ?_
          rintro e w2 ⟨rfl, hb2⟩
          rw [hft]
          have hos2 := HOS.out.below hb2 HOS.out.lt
          have hq2 := HQ.out.below hb2 HQ.out.lt
          have hrow2 := HROW.out.below hb2 HROW.out.lt
          have s0 := hos2.cell
          have d0 := hrow2.cell haN
          have d1 := hrow2.frozen a
          have e0 := hq2.cell
          have e1 := hq2.free
          rw [hs] at d0
          have e2 : (w2.setCell ⟨g, a, none⟩ (.bool true)).cell? ⟨q, 0, none⟩ = some (.int .i64 m) := by rw [World.cell?_setCell_far _ _ _ _ (by exact hgq)]; exact e0
          go_wp2
          go_ret
        · exact ⟨rfl, w2, hb2, .inl ⟨by rw [HFT.out, HK.out, hs]; rfl, by rw [HK.out]; simp⟩⟩
        · exact ⟨rfl, w2, hb2, .inr ⟨by rw [HFT.out, HK.out, hs]; rfl, rfl⟩⟩
structure OnInv (w0 : World) (p pl ps q g L N : Nat) (u lv : Value) (cs : List (List Int)) (list : List Int) (n : Nat) (wr : World) : Prop where
  bx : BoxF wr p L u
  ol : OneC wr pl 34 lv
  os : OneC wr ps 40 (.slice (some ⟨g, 0, none⟩) N N)
  oq : OneC wr q 2 (.int .i64 ((freshN (onModels L cs) (onKey L list) n : Nat)))
  row : ∃ B, RowB wr g g N N B ∧ ∀ j : Nat, j < N → B.getD j false = seenBefore (onModels L cs) (onKey L list) n j
  bel : Below g w0 wr
set_option maxHeartbeats 2000000 in
set_option maxRecDepth 100000 in
theorem implCountOn_any (w : World) {l h l' h' : Nat} (v : Value) (f : FormD) (v' : Value) (list : List Int) (hv : FormR w l h v f) (hh : h ≤ w.heap.size) (hz : SmallII f.clauses) (hv' : Ints w l' h' v' list) (hh' : h' ≤ w.heap.size) (hz' : list.length ≤ 1048576) :
    Calls Try.prog 23 #[v, v'] w fun e w' => e = .returned (.tuple #[.int .i64 (countOn f list).1, .bool (countOn f list).2]) ∧ Below w.heap.size w w' := by
  obtain ⟨i0, hi, hz0, hz1, hz2⟩ := info_parts info_bool
  obtain ⟨u, rfl, hu⟩ := hv.ex
  obtain ⟨la, lcap, le, lc1, lc2, _⟩ := hv'.out
  subst le
  obtain ⟨W1, hW1⟩ : ∃ W, W = w.alloc (.cells #[.int .i64 f.letters, u] 26) := ⟨_, rfl⟩
  obtain ⟨W, hW⟩ : ∃ W, W = W1.alloc (.cells #[.slice la list.length lcap] 34) := ⟨_, rfl⟩
  have hs1 : W1.heap.size = w.heap.size + 1 := by rw [hW1]; simp
  have hsW : W.heap.size = w.heap.size + 2 := by rw [hW]; simp [hs1]
  have hB1 : Below w.heap.size w W1 := by rw [hW1]; exact alloc_below _ _
  have hB2 : Below W1.heap.size W1 W := by rw [hW]; exact alloc_below _ _
  have hBW : Below w.heap.size w W := hB1.trans (hB2.mono (by omega))
  have hbx1 : BoxF W1 w.heap.size f.letters u := by rw [hW1]; exact BoxF.new _ _ _ _
  have HB := Lib.hid (hbx1.below hB2 hbx1.lt)
  have hol : OneC W (w.heap.size + 1) 34 (.slice la list.length lcap) := by rw [hW, ← hs1]; exact OneC.new _ _ _
  have HOL := Lib.hid hol
  have HU := Lib.hid (hu.below hBW hh)
  have HF := Lib.hid (hv.below hBW hh)
  have HLI := Lib.hid (hv'.below hBW hh')
  have kL := hv.rng
  have hcl : f.clauses.length ≤ 1048576 := hz.1
  have hlist : list.length ≤ 1048576 := hz'
  clear hbx1 hu hv hv' hB1 hB2 hol
  go_enter Try.func23, Try.ntmps23
  go_wp2_with fail
  rw [← hW1, ← hW]
  have q0 := HB.out.c0
  have q1 := HB.out.c1
  clear hW hW1
  go_wp2_with fail
  refine (implValidForm_any W _ _ HF.out (by omega) hz).mono ?_
  rintro e w2 ⟨rfl, hb2⟩
  have hs2 := hb2.size
  clear q0 q1
  cases hval : validForm f
  · have HE := Lib.hid (show countOn f list = (0, false) by simp [countOn, hval])
    go_wp2
    go_ret2
    exact ⟨by rw [HE.out]; rfl, hBW.trans (hb2.mono hBW.size)⟩
  · obtain ⟨L, hL, hL1, hL2⟩ := lettersN hval
    have hB2 := HB.out.below hb2 HB.out.lt
    rw [hL] at hB2
    have HB2 := Lib.hid hB2
    have HU2 := Lib.hid (HU.out.below hb2 (by omega))
    have HLA := Lib.hid (litsAll_of_valid hL hval)
    have HLI2 := Lib.hid (HLI.out.below hb2 (by omega))
    have HOL2 := Lib.hid (HOL.out.below hb2 HOL.out.lt)
    have hon : onGo (L : Int) 0 list = (risesI list && list.all (inB 1 (L : Int))) := onGo_zero _ _
    have HON := Lib.hid hon
    have HNo := Lib.hid (fun (ho : onGo (L : Int) 0 list = false) => show countOn f list = (0, false) by rw [← hL] at ho; simp [countOn, ho])
    have HYes := Lib.hid (fun (ho : onGo (L : Int) 0 list = true) => countOn_valid hval (by rw [hL]; exact ho) hL)
    have hBw2 : Below w.heap.size w w2 := hBW.trans (hb2.mono hBW.size)
    have q2 := HOL2.out.cell
    clear hval hB2 hL hon
    cases hr : risesI list
    · have HN := Lib.hid (HNo.out (by rw [HON.out, hr]; rfl))
      go_wp2_with fail
      refine (isRising_any _ list w2 HLI2.out hlist).mono ?_
      rintro e w3 ⟨rfl, hD3⟩
      go_wp2
      go_ret2
      exact ⟨by rw [HN.out]; rfl, hBw2.trans (hD3.below _)⟩
    go_wp2_with fail
    refine (isRising_any _ list w2 HLI2.out hlist).mono ?_
    rintro e w3 ⟨rfl, hD3⟩
    have hs3 : w3.heap.size = w2.heap.size := by rw [hD3.heap]
    have HS3 := Lib.hid hs3
    have HB3 := Lib.hid (HB2.out.drew hD3)
    have HOL3 := Lib.hid (HOL2.out.drew hD3)
    have HLI3 := Lib.hid (HLI2.out.drew hD3)
    have HU3 := Lib.hid (HU2.out.drew hD3)
    have q0 := HB3.out.c0
    have q1 := HB3.out.c1
    have q3 := HOL3.out.cell
    clear hs3 q2
    cases ha : list.all (inB 1 (L : Int))
    · have HN := Lib.hid (HNo.out (by rw [HON.out, hr, ha]; rfl))
      go_wp2_with (go_at_call 79; refine (allWithin_any _ _ _ list _ _ _ HLI3.out).mono ?_; rintro e w' ⟨rfl, rfl⟩)
      go_ret2
      exact ⟨by rw [HN.out]; rfl, hBw2.trans (hD3.below _)⟩
    have hon : onGo (L : Int) 0 list = true := by rw [HON.out, hr, ha]; rfl
    have HE := Lib.hid (HYes.out hon)
    have HOn := Lib.hid hon
    obtain ⟨N, hN⟩ : ∃ N : Nat, N = 2 ^ L := ⟨_, rfl⟩
    have hsh := (shl_one L hL2).1
    have hN2 := (shl_one L hL2).2
    rw [← hN] at hsh hN2
    have HN := Lib.hid hN
    clear hon hN HNo HYes
    go_wp2_with (first | (go_at_call 79; refine (allWithin_any _ _ _ list _ _ _ HLI3.out).mono ?_; rintro e w' ⟨rfl, rfl⟩) | (refine wpList_make_full _ rfl _ _ 40 rfl w3.heap.size 4 i0 (.bool false) 1 Try.underlying40 hi hz0 hz1 .i64 .i64 _ _ N rfl rfl rfl rfl ?c1 (by unfold maxLen; omega) ?c2 ?_))
    case c1 => rw [hz2]; omega
    case c2 => exact Nat.le_refl _
    intro w4 hown hg
    have hrow0 : RowB w4 w3.heap.size w3.heap.size N N (List.replicate N false) := RowB.made hown
    have hb0 : Below w3.heap.size w3 w4 := (Below.refl _ _).grown hg (Nat.le_refl _) (fun k hk => by cases hk)
    have hg3 := hrow0.lt
    obtain ⟨g, hgg⟩ : ∃ g : Nat, g = w3.heap.size := ⟨_, rfl⟩
    rw [← hgg] at hrow0 hb0 hg3
    rw [← hgg]
    have hgw : w.heap.size + 1 < g := by have := HS3.out; omega
    have hgh : h ≤ g := by omega
    have hgh' : h' ≤ g := by omega
    have HB4 := Lib.hid (HB3.out.below hb0 (by omega))
    have HOL4 := Lib.hid (HOL3.out.below hb0 (by omega))
    have HU4 := Lib.hid (HU3.out.below hb0 (by omega))
    have HLI4 := Lib.hid (HLI3.out.below hb0 (by omega))
    have HBw4 := Lib.hid ((hBw2.trans (hD3.below _)).trans (hb0.mono (by omega)))
    obtain ⟨W5, hW5⟩ : ∃ W, W = w4.alloc (.cells #[.slice (some ⟨g, 0, none⟩) N N] 40) := ⟨_, rfl⟩
    obtain ⟨W6, hW6⟩ : ∃ W, W = W5.alloc (.cells #[.int .i64 0] 2) := ⟨_, rfl⟩
    have hs5 : W5.heap.size = w4.heap.size + 1 := by rw [hW5]; simp
    have hs6 : W6.heap.size = w4.heap.size + 2 := by rw [hW6]; simp [hs5]
    have hb5 : Below w4.heap.size w4 W5 := by rw [hW5]; exact alloc_below _ _
    have hb6 : Below W5.heap.size W5 W6 := by rw [hW6]; exact alloc_below _ _
    have hb46 : Below w4.heap.size w4 W6 := hb5.trans (hb6.mono (by omega))
    have os5 : OneC W5 w4.heap.size 40 (.slice (some ⟨g, 0, none⟩) N N) := by rw [hW5]; exact OneC.new _ _ _
    have HOS6 := Lib.hid (os5.below hb6 os5.lt)
    have oq6 : OneC W6 (w4.heap.size + 1) 2 (.int .i64 0) := by rw [hW6, ← hs5]; exact OneC.new _ _ _
    have HOQ6 := Lib.hid oq6
    have HB6 := Lib.hid (HB4.out.below hb46 (by omega))
    have HOL6 := Lib.hid (HOL4.out.below hb46 (by omega))
    have HU6 := Lib.hid (HU4.out.below hb46 (by omega))
    have HLI6 := Lib.hid (HLI4.out.below hb46 (by omega))
    have HROW6 := Lib.hid (hrow0.below hb46 hg3)
    have p0 := HB6.out.c0
    rw [hW6, hW5] at p0
    have HM0 : Hid (freshN (onModels L f.clauses) (onKey L list) 0 = 0) := rfl
    clear hown hg hgg hrow0 hb5 hb6 os5 oq6 q0 q1 q3
    go_wp2_with fail
    rw [← hW5, ← hW6]
    clear p0 hW5 hW6
    refine (eachValues_any L hL2 80 (fun _ _ => by kernel_rfl) _ W6 (OnInv W6 w.heap.size (w.heap.size + 1) w4.heap.size (w4.heap.size + 1) g L N u (.slice la list.length lcap) f.clauses list) (OnInv W6 w.heap.size (w.heap.size + 1) w4.heap.size (w4.heap.size + 1) g L N u (.slice la list.length lcap) f.clauses list N) ⟨HB6.out, HOL6.out, HOS6.out, by rw [HM0.out]; exact HOQ6.out, ⟨_, HROW6.out, fun j _ => by rw [replicate_getD]; rfl⟩, Below.refl _ _⟩ ?_ ?_ ?_).mono ?_
    · rintro n wr wr' hs ⟨i1, i2, i3, i4, ⟨B, i5, i6⟩, i7⟩ hb
      exact ⟨i1.below hb i1.lt, i2.below hb i2.lt, i3.below hb i3.lt, i4.below hb i4.lt, ⟨B, i5.below hb i5.lt, i6⟩, i7.trans (hb.mono (by have := i5.lt; omega))⟩
    · rintro n wr vv lo hlt hlo ⟨i1, i2, i3, i4, ⟨B, i5, i6⟩, i7⟩ hvv
      have hfl := freshN_le (onModels L f.clauses) (onKey L list) n
      have hp := pow_L hL2
      have hz7 := i7.size
      have hkl : onKey L list n < N := by
        have h1 := numGo_lt 0 (projN L list n)
        have h2 : (projN L list n).length ≤ L := by rw [projN, List.length_map]; exact on_len HOn.out
        have h3 : 2 ^ (projN L list n).length ≤ 2 ^ L := Nat.pow_le_pow_right (by decide) h2
        rw [HN.out]; unfold onKey; omega
      refine (onClosure_any w.heap.size (w.heap.size + 1) w4.heap.size (w4.heap.size + 1) g L N n _ u _ vv f.clauses list B wr i1 i2 i3 i4 i5 (HU6.out.below i7 hgh) (by omega) (HLI6.out.below i7 hgh') (by omega) HLA.out hcl hL2 hL1 HOn.out HN.out hvv (by omega) (by omega)).mono ?_
      rintro e w' ⟨rfl, w5, hb, ⟨hc, rfl⟩ | ⟨hc, rfl⟩⟩
      · have hsz5 := hb.size
        have j1 := i1.below hb i1.lt
        have j2 := i2.below hb i2.lt
        have j3 := i3.below hb i3.lt
        have j4 := i4.below hb i4.lt
        have j5 := i5.below hb i5.lt
        have hsA : Same g (g + 1) w5 (w5.setCell ⟨g, onKey L list n, none⟩ (.bool true)) := set1_same _ _ _ _
        have hsB : Same (w4.heap.size + 1) (w4.heap.size + 2) (w5.setCell ⟨g, onKey L list n, none⟩ (.bool true)) ((w5.setCell ⟨g, onKey L list n, none⟩ (.bool true)).setCell ⟨w4.heap.size + 1, 0, none⟩ (.int .i64 ((freshN (onModels L f.clauses) (onKey L list) n + 1 : Nat)))) := set1_same _ _ _ _
        have zA := hsA.size
        have zB := hsB.size
        simp only [Bool.and_eq_true, Bool.not_eq_true'] at hc
        have hBl := i5.length
        have hsn : seenBefore (onModels L f.clauses) (onKey L list) n (onKey L list n) = false := by rw [← i6 _ hkl]; exact hc.2
        refine ⟨by omega, .inl ⟨rfl, (j1.same hsA (by omega)).same hsB (by omega), (j2.same hsA (by omega)).same hsB (by omega), (j3.same hsA (by omega)).same hsB (by omega), ?_, ⟨_, (j5.stored (onKey L list n) true).other (by simp; omega) _, fun j hj => ?_⟩, ?_⟩⟩
        · rw [freshN_succ, hc.1, hsn]
          exact (j4.same hsA (by omega)).set _
        · rw [seenBefore_succ, hc.1, Bool.true_and]
          by_cases e : j = onKey L list n
          · subst e; simp [List.getD, hBl, hkl]
          · rw [← i6 j hj]
            have e' : (onKey L list n == j) = false := by simp; omega
            rw [e', Bool.or_false]
            simp only [List.getD, List.getElem?_set_ne (show onKey L list n ≠ j by omega)]
        · exact ((i7.trans (hb.mono (by omega))).trans (hsA.below (Nat.le_refl _) (by omega))).trans (hsB.below (by omega) (by omega))
      · have hcc : onModels L f.clauses n = true → B.getD (onKey L list n) false = true := fun h => by rw [h, Bool.true_and] at hc; simpa using hc
        have hfr : freshN (onModels L f.clauses) (onKey L list) (n + 1) = freshN (onModels L f.clauses) (onKey L list) n := by
          rw [freshN_succ, ← i6 _ hkl, hc]; rfl
        refine ⟨hb.size, .inl ⟨rfl, i1.below hb i1.lt, i2.below hb i2.lt, i3.below hb i3.lt, by rw [hfr]; exact i4.below hb i4.lt, ⟨B, i5.below hb i5.lt, fun j hj => ?_⟩, i7.trans (hb.mono (by omega))⟩⟩
        rw [seenBefore_succ, ← i6 j hj]
        cases hM : onModels L f.clauses n
        · simp
        · by_cases e : j = onKey L list n
          · subst e; rw [hcc hM]; rfl
          · have e' : (onKey L list n == j) = false := by simp; omega
            rw [e', Bool.and_false, Bool.or_false]
    · rintro wr _ hi
      rw [HN.out]; rw [HN.out] at hi; exact hi
    · rintro e w7 ⟨rfl, hs7, i1, i2, i3, i4, i5, i7⟩
      have c2 := i4.cell
      go_wp2
      go_ret2
      refine ⟨?_, HBw4.out.trans ((hb46.mono (by omega)).trans (i7.mono (by omega)))⟩
      rw [HE.out, ← HN.out]; rfl
end Go.Proofs.Ytcpbgjnijhcpkaa

namespace Go.Proofs.Ytcpbgjnijhcpkaa
open Go.RowKit
set_option linter.unusedVariables false
set_option maxRecDepth 100000

/-- the most clauses that hold by the values told so far, and the number of the first values by which they do -/
def bestN (L : Nat) (cs : List (List Int)) : Nat → Int × Nat
  | 0 => (-1, 0)
  | n + 1 => if (bestN L cs n).1 < (heldN (valuesN L n) cs : Int) then ((heldN (valuesN L n) cs : Int), n) else bestN L cs n
theorem bestN_bound (L : Nat) (cs : List (List Int)) (n : Nat) : -1 ≤ (bestN L cs n).1 ∧ (bestN L cs n).1 ≤ cs.length ∧ (bestN L cs n).2 ≤ n := by
  induction n with
  | zero => simp [bestN]
  | succ n ih =>
    rw [bestN]
    have := heldN_le (valuesN L n) cs
    split
    · simp only; omega
    · omega
theorem bestN_pos (L : Nat) (cs : List (List Int)) (n : Nat) : 0 ≤ (bestN L cs (n + 1)).1 := by
  rw [bestN]
  have := (bestN_bound L cs n).1
  split
  · simp only; omega
  · omega
def mostTrue (f : FormD) : Int × List Bool × Bool :=
  if validForm f then ((bestN f.letters.toNat f.clauses (2 ^ f.letters.toNat)).1, valuesN f.letters.toNat (bestN f.letters.toNat f.clauses (2 ^ f.letters.toNat)).2, true) else (0, [], false)
theorem mostTrue_valid {f : FormD} {L : Nat} (hv : validForm f = true) (hL : f.letters = (L : Int)) : mostTrue f = ((bestN L f.clauses (2 ^ L)).1, valuesN L (bestN L f.clauses (2 ^ L)).2, true) := by
  unfold mostTrue; rw [if_pos hv, hL, Int.toNat_natCast]
set_option maxHeartbeats 800000 in
set_option maxRecDepth 100000 in
theorem mostClosure_any {l h lo : Nat} (p q r L n : Nat) (Lz : Int) (u v old : Value) (M : Int) (cs : List (List Int)) (w : World) (hb : BoxF w p Lz u) (hq : OneC w q 3 (.int .i64 M)) (hr : OneC w r 40 old) (hu : Intss w l h u cs) (hl : LitsAll L cs) (hn : cs.length ≤ 1048576) (hL : L ≤ 10) (hL1 : 1 ≤ L)
    (hv : OwnB w lo w.heap.size v (valuesN L n)) (hqr : q ≠ r) :
    Calls Try.prog 76 #[v, .pointer (some ⟨p, 0, none⟩), .pointer (some ⟨q, 0, none⟩), .pointer (some ⟨r, 0, none⟩)] w fun e w' => e = .returned (.bool true) ∧
      ((M < (heldN (valuesN L n) cs : Int) ∧ w' = (w.setCell ⟨q, 0, none⟩ (.int .i64 (heldN (valuesN L n) cs))).setCell ⟨r, 0, none⟩ v) ∨ (¬ M < (heldN (valuesN L n) cs : Int) ∧ w' = w)) := by
  obtain ⟨g, gc, rfl⟩ := valuesN_slice hv hL1
  have HU := Lib.hid hu
  have HVB := Lib.hid hv.rd
  have hlen := valuesN_len L n
  have HL : Hid (LitsAll (valuesN L n).length cs) := by rw [hlen]; exact hl
  have Hlen := Lib.hid hlen
  have k1 := hb.c1
  have k2 := hq.cell
  have f2 := hq.free
  have k3 := hr.cell
  have f3 := hr.free
  have hbd := heldN_le (valuesN L n) cs
  clear hu hv hl hlen
  have HH := Lib.hid (held_any u (.slice (some ⟨g, 0, none⟩) L gc) cs (valuesN L n) w HU.out HVB.out HL.out (by rw [Hlen.out]; omega) hn)
  generalize heldN (valuesN L n) cs = K at *
  by_cases hlt : M < (K : Int)
  · go_enter Try.func76, Try.ntmps76
    go_wp2_with fail
    refine HH.out.mono ?_
    rintro e w' ⟨rfl, rfl⟩
    go_wp2
    go_ret
    exact ⟨rfl, .inl rfl⟩
  · go_enter Try.func76, Try.ntmps76
    go_wp2_with fail
    refine HH.out.mono ?_
    rintro e w' ⟨rfl, rfl⟩
    go_wp2
    go_ret
    first | exact ⟨rfl, .inr rfl⟩ | exact ⟨rfl, .inr ⟨by omega, rfl⟩⟩
structure MostInv (w0 : World) (p q r L : Nat) (Lz : Int) (u : Value) (cs : List (List Int)) (n : Nat) (wr : World) : Prop where
  hb : BoxF wr p Lz u
  hq : OneC wr q 3 (.int .i64 (bestN L cs n).1)
  hr : ∃ v, OneC wr r 40 v ∧ (0 < n → OwnB wr (r + 1) wr.heap.size v (valuesN L (bestN L cs n).2))
  bel : Below q w0 wr
set_option maxHeartbeats 1600000 in
set_option maxRecDepth 100000 in
theorem implMostTrue_any (w : World) {l h : Nat} (v : Value) (f : FormD) (hv : FormR w l h v f) (hh : h ≤ w.heap.size) (hz : SmallII f.clauses) :
    Calls Try.prog 22 #[v] w fun e w' => ∃ r, e = .returned (.tuple #[.int .i64 (mostTrue f).1, r, .bool (mostTrue f).2.2]) ∧ OwnB w' w.heap.size w'.heap.size r (mostTrue f).2.1 ∧ Below w.heap.size w w' := by
  obtain ⟨u, rfl, hu⟩ := hv.ex
  obtain ⟨W, hW⟩ : ∃ W, W = w.alloc (.cells #[.int .i64 f.letters, u] 26) := ⟨_, rfl⟩
  have hBW : Below w.heap.size w W := by rw [hW]; exact alloc_below _ _
  have hsW : W.heap.size = w.heap.size + 1 := by rw [hW]; simp
  have hbx : BoxF W w.heap.size f.letters u := by rw [hW]; exact BoxF.new _ _ _ _
  have HU := Lib.hid (hu.below hBW hh)
  have HF := Lib.hid (hv.below hBW hh)
  have HB := Lib.hid hbx
  have hcl : f.clauses.length ≤ 1048576 := hz.1
  clear hbx hu hv
  go_enter Try.func22, Try.ntmps22
  go_wp2_with fail
  rw [← hW]
  clear hW
  refine (implValidForm_any W _ _ HF.out (by omega) hz).mono ?_
  rintro e w2 ⟨rfl, hb2⟩
  have hs2 := hb2.size
  have k0 := (HB.out.below hb2 HB.out.lt).c0
  have k1 := (HB.out.below hb2 HB.out.lt).c1
  cases hval : validForm f
  · have HE := Lib.hid (show mostTrue f = (0, [], false) by simp [mostTrue, hval])
    go_wp2
    go_ret3
    exact ⟨_, by rw [HE.out]; rfl, by rw [HE.out]; exact OwnB.nil _ _ _ (Nat.le_refl _), hBW.trans (hb2.mono hBW.size)⟩
  · obtain ⟨L, hL, hL1, hL2⟩ := lettersN hval
    have HLA := Lib.hid (litsAll_of_valid hL hval)
    have HE := Lib.hid (mostTrue_valid hval hL)
    obtain ⟨W3, hW3⟩ : ∃ W, W = w2.alloc (.cells #[.int .i64 (-1)] 3) := ⟨_, rfl⟩
    obtain ⟨W4, hW4⟩ : ∃ W, W = W3.alloc (.cells #[.slice none 0 0] 40) := ⟨_, rfl⟩
    have hs3 : W3.heap.size = w2.heap.size + 1 := by rw [hW3]; simp
    have hs4 : W4.heap.size = w2.heap.size + 2 := by rw [hW4]; simp [hs3]
    have hb3 : Below w2.heap.size w2 W3 := by rw [hW3]; exact alloc_below _ _
    have hb4 : Below W3.heap.size W3 W4 := by rw [hW4]; exact alloc_below _ _
    have hb24 : Below w2.heap.size w2 W4 := hb3.trans (hb4.mono (by omega))
    have oc3 : OneC W3 w2.heap.size 3 (.int .i64 (-1)) := by rw [hW3]; exact OneC.new _ _ _
    have oc4 : OneC W4 w2.heap.size 3 (.int .i64 (-1)) := oc3.below hb4 oc3.lt
    have ob4 : OneC W4 (w2.heap.size + 1) 40 (.slice none 0 0) := by rw [hW4, ← hs3]; exact OneC.new _ _ _
    have hbx4 := (HB.out.below hb2 HB.out.lt).below hb24 (HB.out.below hb2 HB.out.lt).lt
    have HBX4 := Lib.hid hbx4
    have HU4 := Lib.hid ((HU.out.below hb2 (by omega)).below hb24 (by omega))
    have hh4 : Hid (W.heap.size ≤ w2.heap.size) := hs2
    have q0 := hbx4.c0
    rw [hL] at q0
    rw [hW4, hW3] at q0
    clear hval oc3 hbx4
    have kk := HBX4.out.c0
    go_wp2_with fail
    rw [← hW3, ← hW4]
    clear q0 kk hW3 hW4
    refine (eachValues_any L hL2 76 (fun _ _ => by kernel_rfl) _ W4 (MostInv W4 w.heap.size w2.heap.size (w2.heap.size + 1) L f.letters u f.clauses) (MostInv W4 w.heap.size w2.heap.size (w2.heap.size + 1) L f.letters u f.clauses (2 ^ L)) ⟨HBX4.out, oc4, ⟨_, ob4, fun h => absurd h (by omega)⟩, Below.refl _ _⟩ ?_ ?_ ?_).mono ?_
    · rintro n wr wr' hs ⟨i1, i2, ⟨vv, i3, i4⟩, i5⟩ hb
      exact ⟨i1.below hb i1.lt, i2.below hb i2.lt, ⟨vv, i3.below hb i3.lt, fun h => ((i4 h).below hb (Nat.le_refl _)).mono (Nat.le_refl _) hb.size (Nat.le_refl _)⟩, i5.trans (hb.mono (by have := i2.lt; omega))⟩
    · rintro n wr vv lo hlt hlo ⟨i1, i2, ⟨old, i3, i4⟩, i5⟩ hv
      have hsz := i5.size
      refine (mostClosure_any w.heap.size w2.heap.size (w2.heap.size + 1) L n f.letters u vv old _ f.clauses wr i1 i2 i3 (HU4.out.below i5 (by have := hh4.out; omega)) HLA.out hcl hL2 hL1 hv (by omega)).mono ?_
      rintro e w' ⟨rfl, ⟨hq, rfl⟩ | ⟨hq, rfl⟩⟩
      · have hs5 := setAt_same wr w2.heap.size (.int .i64 (heldN (valuesN L n) f.clauses))
        have ha := i2.set (.int .i64 (heldN (valuesN L n) f.clauses))
        have hb := i3.same hs5 (.inr (Nat.le_refl _))
        have hs6 := setAt_same (wr.setCell ⟨w2.heap.size, 0, none⟩ (.int .i64 (heldN (valuesN L n) f.clauses))) (w2.heap.size + 1) vv
        have hz5 := hs5.size
        have hz6 := hs6.size
        have e : bestN L f.clauses (n + 1) = ((heldN (valuesN L n) f.clauses : Int), n) := by rw [bestN, if_pos hq]
        refine ⟨by omega, .inl ⟨rfl, ((i1.same hs5 (by have := hh4.out; omega)).same hs6 (by have := hh4.out; omega)), by rw [e]; exact ha.same hs6 (by omega), ⟨vv, hb.set vv, fun _ => ?_⟩, ?_⟩⟩
        · rw [e]
          exact ((hv.same hs5 (.inr (by omega))).same hs6 (.inr (by omega))).mono (by omega) (by omega) (Nat.le_refl _)
        · exact (i5.trans (hs5.below (Nat.le_refl _) (by have := i2.lt; omega))).trans (hs6.below (by omega) (by have := i2.lt; omega))
      · have e : bestN L f.clauses (n + 1) = bestN L f.clauses n := by rw [bestN, if_neg hq]
        have hn : 0 < n := by
          rcases Nat.eq_zero_or_pos n with h0 | h0
          · subst h0
            exact absurd (show (bestN L f.clauses 0).1 < (heldN (valuesN L 0) f.clauses : Int) by simp only [bestN]; omega) hq
          · exact h0
        exact ⟨Nat.le_refl _, .inl ⟨rfl, i1, by rw [e]; exact i2, ⟨old, i3, fun _ => by rw [e]; exact i4 hn⟩, i5⟩⟩
    · rintro wr _ hi
      exact hi
    · rintro e w5 ⟨rfl, hs5, i1, i2, ⟨vv, i3, i4⟩, i5⟩
      have hp : 0 < 2 ^ L := Nat.pow_pos (by decide)
      have ho := i4 hp
      obtain ⟨g, gc, rfl⟩ := valuesN_slice ho hL1
      have HO := Lib.hid ho
      have c2 := i2.cell
      have c3 := i3.cell
      clear ho i4
      go_wp2_with fail
      go_quiet (fail)
      go_wp2
      go_ret3
      exact ⟨_, by rw [HE.out]; rfl, by rw [HE.out]; exact (HO.out.mono (by omega) (Nat.le_refl _) (Nat.le_refl _)).drew (Drew.one _ _), (hBW.trans ((hb2.trans ((hb24.trans i5).mono hs2)).mono hBW.size)).trans ((Drew.one _ _).below _)⟩
end Go.Proofs.Ytcpbgjnijhcpkaa

namespace Go.Proofs.Ytcpbgjnijhcpkaa
open Go.RowKit
set_option linter.unusedVariables false
set_option maxRecDepth 100000

theorem firstFrom_iff (L : Nat) (cs : List (List Int)) (k : Nat) : ∀ a, (firstFrom L cs a k = none → ∀ n, a ≤ n → n < a + k → formTrue (valuesN L n) cs = false) ∧ (∀ n, firstFrom L cs a k = some n → a ≤ n ∧ n < a + k ∧ formTrue (valuesN L n) cs = true) := by
  induction k with
  | zero => intro a; exact ⟨fun _ n h1 h2 => (by omega), fun n h => by simp [firstFrom] at h⟩
  | succ k ih =>
    intro a
    cases hf : formTrue (valuesN L a) cs with
    | true => rw [firstFrom_hit L cs a k hf]; exact ⟨fun h => (by cases h), fun n h => by cases h; exact ⟨Nat.le_refl _, by omega, hf⟩⟩
    | false =>
      rw [firstFrom_step L cs a k hf]
      refine ⟨fun h n h1 h2 => ?_, fun n h => ?_⟩
      · by_cases e : n = a
        · rw [e]; exact hf
        · exact (ih (a + 1)).1 h n (by omega) (by omega)
      · obtain ⟨h1, h2, h3⟩ := (ih (a + 1)).2 n h; exact ⟨by omega, by omega, h3⟩
theorem countN_pos (L : Nat) (cs : List (List Int)) (N : Nat) : 0 < countN L cs N ↔ ∃ n, n < N ∧ formTrue (valuesN L n) cs = true := by
  unfold countN
  rw [List.countP_pos_iff]
  simp only [List.mem_range]
theorem fresh_le (M : Nat → Bool) (key : Nat → Nat) (N : Nat) : freshN M key N ≤ (List.range N).countP M := by
  unfold freshN
  apply List.countP_mono_left
  intro x _ h
  rw [Bool.and_eq_true] at h
  exact h.1
theorem fresh_inj (M : Nat → Bool) (key : Nat → Nat) (N : Nat) (h : ∀ a b, a < N → b < N → key a = key b → a = b) : freshN M key N = (List.range N).countP M := by
  unfold freshN
  apply List.countP_congr
  intro k hk
  rw [List.mem_range] at hk
  have : seenBefore M key k (key k) = false := by
    cases hs : seenBefore M key k (key k) with
    | false => rfl
    | true =>
      simp only [seenBefore, List.any_eq_true, List.mem_range, Bool.and_eq_true, beq_iff_eq] at hs
      obtain ⟨m, h1, _, h3⟩ := hs
      have := h m k (by omega) hk h3
      omega
  rw [this]; simp
theorem fresh_pos (M : Nat → Bool) (key : Nat → Nat) (N : Nat) : 0 < freshN M key N ↔ ∃ n, n < N ∧ M n = true := by
  constructor
  · intro h
    have := fresh_le M key N
    have h2 : 0 < (List.range N).countP M := by omega
    rw [List.countP_pos_iff] at h2
    obtain ⟨a, h3, h4⟩ := h2
    exact ⟨a, List.mem_range.1 h3, h4⟩
  · rintro ⟨n, h1, h2⟩
    induction n using Nat.strongRecOn with
    | _ n ih =>
      cases hs : seenBefore M key n (key n) with
      | false =>
        unfold freshN
        rw [List.countP_pos_iff]
        exact ⟨n, List.mem_range.2 h1, by rw [h2, hs]; rfl⟩
      | true =>
        simp only [seenBefore, List.any_eq_true, List.mem_range, Bool.and_eq_true, beq_iff_eq] at hs
        obtain ⟨m, h3, h4, _⟩ := hs
        exact ih m h3 (by omega) h4
theorem fresh_one (M : Nat → Bool) (key : Nat → Nat) (c : Nat) (h : ∀ a, key a = c) (N : Nat) : freshN M key N ≤ 1 := by
  induction N with
  | zero => simp [freshN]
  | succ N ih =>
    rw [freshN_succ]
    cases hs : seenBefore M key N (key N) with
    | true => simpa using ih
    | false =>
      have h0 : freshN M key N = 0 := by
        apply Nat.eq_zero_of_not_pos
        intro hp
        obtain ⟨m, h1, h2⟩ := (fresh_pos M key N).1 hp
        have : seenBefore M key N (key N) = true := by
          simp only [seenBefore, List.any_eq_true, List.mem_range, Bool.and_eq_true, beq_iff_eq]
          exact ⟨m, h1, h2, by rw [h, h]⟩
        rw [hs] at this; cases this
      rw [h0]
      cases M N <;> simp
theorem bestN_spec (L : Nat) (cs : List (List Int)) (N : Nat) : (∀ n, n < N → (heldN (valuesN L n) cs : Int) ≤ (bestN L cs N).1) ∧ (0 < N → (bestN L cs N).1 = (heldN (valuesN L (bestN L cs N).2) cs : Int) ∧ (bestN L cs N).2 < N) := by
  induction N with
  | zero => exact ⟨fun n h => by omega, fun h => by omega⟩
  | succ N ih =>
    rw [bestN]
    split
    · refine ⟨fun n h => ?_, fun _ => ⟨rfl, Nat.lt_succ_self _⟩⟩
      rcases Nat.lt_succ_iff_lt_or_eq.1 h with h | rfl
      · have := ih.1 n h; simp only; omega
      · exact Int.le_refl _
    · rename_i hlt
      refine ⟨fun n h => ?_, fun _ => ?_⟩
      · rcases Nat.lt_succ_iff_lt_or_eq.1 h with h | rfl
        · exact ih.1 n h
        · omega
      · by_cases hN : 0 < N
        · obtain ⟨h1, h2⟩ := ih.2 hN; exact ⟨h1, by omega⟩
        · obtain rfl : N = 0 := by omega
          exfalso; apply hlt; simp [bestN]; omega
/-- the most clauses are all just if there is a model, and then the values told are one -/
theorem bestN_all (L : Nat) (cs : List (List Int)) : decide ((bestN L cs (2 ^ L)).1 = (cs.length : Int)) = decide (0 < countN L cs (2 ^ L)) ∧ formTrue (valuesN L (bestN L cs (2 ^ L)).2) cs = decide (0 < countN L cs (2 ^ L)) := by
  obtain ⟨h1, h2⟩ := bestN_spec L cs (2 ^ L)
  obtain ⟨h3, h4⟩ := h2 (Nat.two_pow_pos L)
  have hb := bestN_bound L cs (2 ^ L)
  have hh := heldN_le (valuesN L (bestN L cs (2 ^ L)).2) cs
  have key : (bestN L cs (2 ^ L)).1 = (cs.length : Int) ↔ 0 < countN L cs (2 ^ L) := by
    rw [countN_pos]
    constructor
    · intro h; exact ⟨_, h4, by unfold formTrue; rw [decide_eq_true]; omega⟩
    · rintro ⟨n, h5, h6⟩
      have := h1 n h5
      unfold formTrue at h6
      have := of_decide_eq_true h6
      omega
  refine ⟨decide_eq_decide.2 key, ?_⟩
  unfold formTrue
  rw [decide_eq_decide, ← key]
  omega
theorem first_one {f : FormD} {L : Nat} (hv : validForm f = true) (hL : f.letters = (L : Int)) :
    (firstModel f).2 = decide (0 < countN L f.clauses (2 ^ L)) ∧ ((firstModel f).2 = true → (firstModel f).1.length = L) := by
  cases h : firstFrom L f.clauses 0 (2 ^ L) with
  | none =>
    rw [firstModel_none hv hL h]
    refine ⟨?_, fun h => by cases h⟩
    symm
    rw [decide_eq_false_iff_not, countN_pos]
    rintro ⟨n, h1, h2⟩
    rw [(firstFrom_iff L f.clauses (2 ^ L) 0).1 h n (Nat.zero_le _) (by omega)] at h2
    cases h2
  | some n =>
    rw [firstModel_some hv hL h]
    obtain ⟨h1, h2, h3⟩ := (firstFrom_iff L f.clauses (2 ^ L) 0).2 n h
    refine ⟨?_, fun _ => valuesN_len L n⟩
    symm
    rw [decide_eq_true_eq, countN_pos]
    exact ⟨n, by omega, h3⟩
/-- the letters from 1 to L -/
def upTo (L : Nat) : List Int := (List.range L).map fun i => ((i + 1 : Nat) : Int)
theorem upTo_succ (L : Nat) : upTo (L + 1) = upTo L ++ [((L + 1 : Nat) : Int)] := by simp [upTo, List.range_succ]
theorem upTo_len (L : Nat) : (upTo L).length = L := by simp [upTo]
/-- the letters up to k that t says -/
def chosen (t : Nat → Bool) (k : Nat) : List Int := ((List.range k).filter fun i => t (i + 1)).map fun i => ((i + 1 : Nat) : Int)
theorem chosen_succ (t : Nat → Bool) (k : Nat) : chosen t (k + 1) = if t (k + 1) then chosen t k ++ [((k + 1 : Nat) : Int)] else chosen t k := by
  unfold chosen
  rw [List.range_succ, List.filter_append, List.map_append]
  cases h : t (k + 1) <;> simp [h]
theorem chosen_len (t : Nat → Bool) (k : Nat) : (chosen t k).length ≤ k := by
  have := List.length_filter_le (fun i => t (i + 1)) (List.range k)
  simpa [chosen] using this
theorem chosen_all (k : Nat) : chosen (fun _ => true) k = upTo k := by
  unfold chosen upTo
  rw [List.filter_eq_self.2 (fun _ _ => rfl)]
theorem onGo_cons (L p x : Int) (xs : List Int) : onGo L p (x :: xs) = (inB 1 L x && (decide (p < x) && onGo L x xs)) := by
  rw [onGo_ok, onGo_ok]
  cases xs with
  | nil => simp [risesI]
  | cons y ys =>
    have e : risesI (x :: y :: ys) = (decide (x < y) && risesI (y :: ys)) := by rfl
    rw [e]
    simp only [List.all_cons]
    cases inB 1 L x <;> cases decide (p < x) <;> cases inB 1 L y <;> cases decide (x < y) <;> simp
theorem onGo_snoc (L : Int) (zs : List Int) (y : Int) : ∀ p, onGo L p zs = true → (∀ x ∈ zs, x < y) → p < y → inB 1 L y = true → onGo L p (zs ++ [y]) = true := by
  induction zs with
  | nil => intro p _ _ h2 h3; rw [List.nil_append, onGo_cons, h3, decide_eq_true h2]; rw [onGo_ok]; rfl
  | cons x xs ih =>
    intro p h h1 h2 h3
    rw [onGo_cons, Bool.and_eq_true, Bool.and_eq_true] at h
    rw [List.cons_append, onGo_cons, h.1, h.2.1, ih x h.2.2 (fun z hz => h1 z (List.mem_cons_of_mem _ hz)) (h1 x (List.mem_cons_self ..)) h3]
    rfl
theorem chosen_mem {t : Nat → Bool} {k : Nat} {x : Int} (h : x ∈ chosen t k) : ∃ i, i < k ∧ x = ((i + 1 : Nat) : Int) ∧ t (i + 1) = true := by
  unfold chosen at h
  rw [List.mem_map] at h
  obtain ⟨i, h1, h2⟩ := h
  rw [List.mem_filter, List.mem_range] at h1
  exact ⟨i, h1.1, h2.symm, h1.2⟩
theorem chosen_on (t : Nat → Bool) (L k : Nat) (h : k ≤ L) : onGo L 0 (chosen t k) = true := by
  induction k with
  | zero => simp [chosen, onGo_ok, risesI]
  | succ k ih =>
    rw [chosen_succ]
    split
    · refine onGo_snoc _ _ _ _ (ih (by omega)) (fun x hx => ?_) (by omega) (by simp [inB]; omega)
      obtain ⟨i, h1, rfl, _⟩ := chosen_mem hx
      omega
    · exact ih (by omega)
theorem bitN_ext {L a b : Nat} (ha : a < 2 ^ L) (hb : b < 2 ^ L) (h : ∀ i, i < L → bitN a i = bitN b i) : a = b := by
  apply Nat.eq_of_testBit_eq
  intro i
  by_cases hi : i < L
  · have := h i hi
    unfold bitN at this
    rw [Nat.testBit_eq_decide_div_mod_eq, Nat.testBit_eq_decide_div_mod_eq, this]
  · rw [Nat.testBit_lt_two_pow (Nat.lt_of_lt_of_le ha (Nat.pow_le_pow_right (by decide) (by omega))), Nat.testBit_lt_two_pow (Nat.lt_of_lt_of_le hb (Nat.pow_le_pow_right (by decide) (by omega)))]
theorem onKey_inj {L a b : Nat} (ha : a < 2 ^ L) (hb : b < 2 ^ L) (h : onKey L (upTo L) a = onKey L (upTo L) b) : a = b := by
  have h1 := numGo_inj _ _ (by simp [projN]) h
  apply bitN_ext ha hb
  intro i hi
  have h2 : ((upTo L).map fun x => bitN a (L - x.toNat)) = ((upTo L).map fun x => bitN b (L - x.toNat)) := h1
  have h3 := List.map_inj_left.1 h2 (((L - i : Nat)) : Int) (by
    unfold upTo
    rw [List.mem_map]
    exact ⟨L - i - 1, List.mem_range.2 (by omega), by omega⟩)
  simpa [show L - (L - i) = i by omega] using h3
/-- what FnModels compares, in numbers -/
structure ModelsOk (f : FormD) (L : Nat) (t : Nat → Bool) (one : Bool) : Prop where
  fst : (firstModel f).2 = one
  len : one = true → (firstModel f).1.length = L
  cnt : ∃ c : Int, countModels f = (c, true) ∧ (0 ≤ c ∧ c ≤ 1024) ∧ (one = true → 0 < c) ∧ (one = false → c = 0) ∧ countOn f (upTo L) = (c, true) ∧ ∃ s : Int, countOn f (chosen t L) = (s, true) ∧ (0 ≤ s ∧ s ≤ c) ∧ (one = true → 0 < s)
  non : ∃ n : Int, countOn f [] = (n, true) ∧ (one = true → n = 1) ∧ (one = false → n = 0)
  mst : ∃ m vs, mostTrue f = (m, vs, true) ∧ vs.length = L ∧ (one = true → m = (f.clauses.length : Int)) ∧ (one = false → m < (f.clauses.length : Int)) ∧ holdsBy f vs = (one, true)
theorem modelsOk {f : FormD} {L : Nat} (hv : validForm f = true) (hL : f.letters = (L : Int)) (t : Nat → Bool) : ModelsOk f L t (firstModel f).2 := by
  have hL10 : L ≤ 10 := by have := (validForm_bounds hv).1; omega
  obtain ⟨h1, h2⟩ := first_one hv hL
  obtain ⟨hb1, hb2⟩ := bestN_all L f.clauses
  have hbb := bestN_bound L f.clauses (2 ^ L)
  have hc : countModels f = (((countN L f.clauses (2 ^ L) : Nat) : Int), true) := by unfold countModels; rw [hv, hL, Int.toNat_natCast]; rfl
  have e0 : (List.range (2 ^ L)).countP (onModels L f.clauses) = countN L f.clauses (2 ^ L) := rfl
  have hon0 : onGo f.letters 0 [] = true := by rw [onGo_ok]; rfl
  have honU : onGo f.letters 0 (upTo L) = true := by rw [hL, ← chosen_all]; exact chosen_on _ L L (Nat.le_refl _)
  have honC : onGo f.letters 0 (chosen t L) = true := by rw [hL]; exact chosen_on t L L (Nat.le_refl _)
  have hpos : ∀ key, 0 < freshN (onModels L f.clauses) key (2 ^ L) ↔ 0 < countN L f.clauses (2 ^ L) := fun key => by
    rw [fresh_pos, countN_pos]; rfl
  have hcl : countN L f.clauses (2 ^ L) ≤ 1024 := Nat.le_trans (countN_le _ _ _) (pow_L hL10)
  refine ⟨rfl, h2, ⟨(countN L f.clauses (2 ^ L) : Nat), hc, ⟨by omega, by omega⟩, ?_, ?_, ?_, (freshN (onModels L f.clauses) (onKey L (chosen t L)) (2 ^ L) : Nat), countOn_valid hv honC hL, ⟨by omega, by have := fresh_le (onModels L f.clauses) (onKey L (chosen t L)) (2 ^ L); omega⟩, ?_⟩, ?_, ⟨_, _, mostTrue_valid hv hL, valuesN_len _ _, ?_, ?_, ?_⟩⟩
  · intro h; rw [h1] at h; have := of_decide_eq_true h; omega
  · intro h; rw [h1] at h; have := of_decide_eq_false h; omega
  · rw [countOn_valid hv honU hL, fresh_inj _ _ _ (fun a b ha hb h => onKey_inj ha hb h), e0]
  · intro h; rw [h1] at h; have := (hpos (onKey L (chosen t L))).2 (of_decide_eq_true h); omega
  · refine ⟨_, countOn_valid hv hon0 hL, fun h => ?_, fun h => ?_⟩
    · rw [h1] at h
      have hle : freshN (onModels L f.clauses) (onKey L []) (2 ^ L) ≤ 1 := fresh_one _ _ (numGo 0 []) (fun a => rfl) _
      have hp := (hpos (onKey L [])).2 (of_decide_eq_true h)
      omega
    · rw [h1] at h
      have hp := hpos (onKey L [])
      have := of_decide_eq_false h
      have e : freshN (onModels L f.clauses) (onKey L []) (2 ^ L) = 0 := by
        apply Nat.eq_zero_of_not_pos; intro h3; exact this (hp.1 h3)
      rw [e]; rfl
  · intro h; rw [h1, ← hb1] at h; exact of_decide_eq_true h
  · intro h; rw [h1, ← hb1] at h; have := of_decide_eq_false h; omega
  · unfold holdsBy
    rw [hv, hL, valuesN_len, decide_eq_true rfl, h1, hb2]
    rfl
end Go.Proofs.Ytcpbgjnijhcpkaa

namespace Go.Proofs.Ytcpbgjnijhcpkaa
open Go.RowKit
set_option linter.unusedVariables false
set_option maxRecDepth 100000

theorem form_allP {bs : List Bool} {cs : List (List Int)} : formTrue bs cs = true ↔ ∀ c ∈ cs, clauseTrue bs c = true := by
  rw [formTrue, decide_eq_true_eq, heldN, List.countP_eq_length]
theorem clause_any {bs : List Bool} {c : List Int} : clauseTrue bs c = true ↔ ∃ y ∈ c, litTrue bs y = true := by
  rw [clauseTrue, List.any_eq_true]
/-- the numbers of values with the letter x turned -/
def flip (L x n : Nat) : Nat := n ^^^ 2 ^ (L - x)
theorem flip_lt {L x n : Nat} (h1 : 1 ≤ x) (h2 : x ≤ L) (hn : n < 2 ^ L) : flip L x n < 2 ^ L :=
  Nat.xor_lt_two_pow hn (Nat.pow_lt_pow_right (by decide) (by omega))
theorem flip_flip (L x n : Nat) : flip L x (flip L x n) = n := by
  unfold flip; rw [Nat.xor_assoc, Nat.xor_self, Nat.xor_zero]
theorem bit_flip (L x n k : Nat) : bitN (flip L x n) k = (bitN n k != decide (L - x = k)) := by
  rw [bitN_test, bitN_test, flip, Nat.testBit_xor, Nat.testBit_two_pow]
theorem flip_ne (L x n : Nat) : flip L x n ≠ n := by
  intro h
  have := bit_flip L x n (L - x)
  rw [h] at this
  cases h2 : bitN n (L - x) <;> rw [h2] at this <;> simp at this
/-- a literal by the values with number n -/
def litN (L n : Nat) (y : Int) : Bool := litTrue (valuesN L n) y
theorem litN_bit {L n : Nat} {y : Int} (h1 : 0 < absI y) (h2 : absI y ≤ (L : Int)) : litN L n y = (bitN n (L - (absI y).toNat) == decide (0 < y)) := by
  unfold litN litTrue
  rw [valuesN_get L n (absI y).toNat (by omega) (by omega)]
theorem litN_neg {L n : Nat} {y : Int} (h1 : 0 < absI y) (h2 : absI y ≤ (L : Int)) : litN L n (-y) = !litN L n y := by
  have e : absI (-y) = absI y := by unfold absI; split <;> split <;> omega
  have h0 : y ≠ 0 := by intro h; rw [h] at h1; exact absurd h1 (by decide)
  rw [litN_bit (by rw [e]; exact h1) (by rw [e]; exact h2), litN_bit h1 h2, e]
  by_cases hy : 0 < y
  · rw [decide_eq_true hy, decide_eq_false (show ¬ 0 < -y by omega)]; cases bitN n (L - (absI y).toNat) <;> rfl
  · rw [decide_eq_false hy, decide_eq_true (show 0 < -y by omega)]; cases bitN n (L - (absI y).toNat) <;> rfl
theorem litN_flip {L x n : Nat} {y : Int} (hx1 : 1 ≤ x) (hx2 : x ≤ L) (h1 : 0 < absI y) (h2 : absI y ≤ (L : Int)) : litN L (flip L x n) y = (litN L n y != decide (absI y = (x : Int))) := by
  rw [litN_bit h1 h2, litN_bit h1 h2, bit_flip]
  have e : decide (L - x = L - (absI y).toNat) = decide (absI y = (x : Int)) := decide_eq_decide.2 (by omega)
  rw [e]
  cases bitN n (L - (absI y).toNat) <;> cases decide (absI y = (x : Int)) <;> cases decide (0 < y) <;> rfl
theorem countP_split (p b : Nat → Bool) (l : List Nat) : l.countP p = l.countP (fun n => p n && b n) + l.countP (fun n => p n && !b n) := by
  induction l with
  | nil => rfl
  | cons a r ih =>
    rw [List.countP_cons, List.countP_cons, List.countP_cons, ih]
    cases p a <;> cases b a <;> simp <;> omega
theorem count_flip {L x : Nat} (h1 : 1 ≤ x) (h2 : x ≤ L) (q : Nat → Bool) : (List.range (2 ^ L)).countP (fun n => q (flip L x n)) = (List.range (2 ^ L)).countP q := by
  have hp : ((List.range (2 ^ L)).map (flip L x)).Perm (List.range (2 ^ L)) := by
    refine (List.perm_ext_iff_of_nodup ?_ List.nodup_range).2 fun a => ?_
    · refine List.pairwise_map.2 (List.Pairwise.imp (fun {a b} hab h => hab ?_) (List.nodup_range (n := 2 ^ L)))
      rw [← flip_flip L x a, h, flip_flip]
    · rw [List.mem_map, List.mem_range]
      constructor
      · rintro ⟨n, hn, rfl⟩; exact flip_lt h1 h2 (List.mem_range.1 hn)
      · intro ha; exact ⟨flip L x a, List.mem_range.2 (flip_lt h1 h2 ha), flip_flip L x a⟩
  have := hp.countP_eq q
  rw [List.countP_map] at this
  exact this
theorem count_congr {p q : Nat → Bool} {N : Nat} (h : ∀ n, n < N → p n = q n) : (List.range N).countP p = (List.range N).countP q := by
  apply List.countP_congr
  intro n hn
  rw [h n (List.mem_range.1 hn)]
theorem count_half {L x : Nat} (h1 : 1 ≤ x) (h2 : x ≤ L) {g b : Nat → Bool} (hg : ∀ n, n < 2 ^ L → g (flip L x n) = g n) (hb : ∀ n, n < 2 ^ L → b (flip L x n) = !b n) :
    (List.range (2 ^ L)).countP g = 2 * (List.range (2 ^ L)).countP (fun n => g n && b n) := by
  have e : (List.range (2 ^ L)).countP (fun n => g n && !b n) = (List.range (2 ^ L)).countP (fun n => g n && b n) := by
    rw [← count_flip h1 h2 (fun n => g n && b n)]
    exact count_congr fun n hn => by rw [hg n hn, hb n hn]
  rw [countP_split g b, e]; omega
/-- the second of a pair -/
def later (L x n : Nat) : Bool := decide (flip L x n < n)
theorem later_flip (L x n : Nat) : later L x (flip L x n) = !later L x n := by
  unfold later
  rw [flip_flip]
  have := flip_ne L x n
  rw [Bool.eq_iff_iff, Bool.not_eq_true', decide_eq_true_eq, decide_eq_false_iff_not]
  omega
theorem fresh_pairs {L x : Nat} (h1 : 1 ≤ x) (h2 : x ≤ L) (M : Nat → Bool) (key : Nat → Nat) (hk : ∀ a b, a < 2 ^ L → b < 2 ^ L → (key a = key b ↔ a = b ∨ a = flip L x b)) :
    freshN M key (2 ^ L) = (List.range (2 ^ L)).countP (fun n => (M n || M (flip L x n)) && !later L x n) := by
  have e1 : freshN M key (2 ^ L) = (List.range (2 ^ L)).countP (fun n => M n && !(later L x n && M (flip L x n))) := by
    unfold freshN
    refine count_congr fun n hn => ?_
    have : seenBefore M key n (key n) = (later L x n && M (flip L x n)) := by
      rw [Bool.eq_iff_iff]
      simp only [seenBefore, List.any_eq_true, List.mem_range, Bool.and_eq_true, beq_iff_eq, later, decide_eq_true_eq]
      constructor
      · rintro ⟨m, g1, g2, g3⟩
        rcases (hk m n (by omega) hn).1 g3 with e | e
        · omega
        · rw [← e]; exact ⟨g1, g2⟩
      · rintro ⟨g1, g2⟩
        exact ⟨flip L x n, g1, g2, (hk _ n (flip_lt h1 h2 hn) hn).2 (.inr rfl)⟩
    rw [this]
  rw [e1, countP_split _ (later L x)]
  have e2 : (List.range (2 ^ L)).countP (fun n => (M n && !(later L x n && M (flip L x n))) && later L x n) = (List.range (2 ^ L)).countP (fun n => (M (flip L x n) && !M n) && !later L x n) := by
    rw [← count_flip h1 h2 (fun n => (M n && !(later L x n && M (flip L x n))) && later L x n)]
    refine count_congr fun n hn => ?_
    rw [later_flip, flip_flip]
    cases M n <;> cases M (flip L x n) <;> cases later L x n <;> rfl
  rw [e2, countP_split (fun n => (M n || M (flip L x n)) && !later L x n) M]
  have e3 : (List.range (2 ^ L)).countP (fun n => (M n && !(later L x n && M (flip L x n))) && !later L x n) = (List.range (2 ^ L)).countP (fun n => ((M n || M (flip L x n)) && !later L x n) && M n) :=
    count_congr fun n hn => by cases M n <;> cases M (flip L x n) <;> cases later L x n <;> rfl
  have e4 : (List.range (2 ^ L)).countP (fun n => (M (flip L x n) && !M n) && !later L x n) = (List.range (2 ^ L)).countP (fun n => ((M n || M (flip L x n)) && !later L x n) && !M n) :=
    count_congr fun n hn => by cases M n <;> cases M (flip L x n) <;> cases later L x n <;> rfl
  rw [e3, e4]; omega
/-- all letters but x -/
def others (L : Nat) (x : Nat) : List Int := chosen (fun k => decide (k ≠ x)) L
theorem others_mem {L x i : Nat} (hi1 : 1 ≤ i) (hi2 : i ≤ L) (h : i ≠ x) : (i : Int) ∈ others L x := by
  unfold others chosen
  rw [List.mem_map]
  refine ⟨i - 1, List.mem_filter.2 ⟨List.mem_range.2 (by omega), ?_⟩, by omega⟩
  rw [decide_eq_true_eq]; omega
theorem others_key {L x : Nat} (h1 : 1 ≤ x) (h2 : x ≤ L) (a b : Nat) (ha : a < 2 ^ L) (hb : b < 2 ^ L) : onKey L (others L x) a = onKey L (others L x) b ↔ a = b ∨ a = flip L x b := by
  constructor
  · intro h
    have g1 := numGo_inj _ _ (by simp [projN]) h
    have g2 : ((others L x).map fun y => bitN a (L - y.toNat)) = ((others L x).map fun y => bitN b (L - y.toNat)) := g1
    have g3 : ∀ i, i < L → i ≠ L - x → bitN a i = bitN b i := by
      intro i hi hne
      have := List.map_inj_left.1 g2 ((L - i : Nat) : Int) (others_mem (by omega) (by omega) (by omega))
      simpa [show L - (L - i) = i by omega] using this
    by_cases hx : bitN a (L - x) = bitN b (L - x)
    · left
      refine bitN_ext ha hb fun i hi => ?_
      by_cases hne : i = L - x
      · rw [hne]; exact hx
      · exact g3 i hi hne
    · right
      refine bitN_ext ha (flip_lt h1 h2 hb) fun i hi => ?_
      rw [bit_flip]
      by_cases hne : i = L - x
      · rw [hne, decide_eq_true rfl]
        cases h3 : bitN a (L - x) <;> cases h4 : bitN b (L - x) <;> rw [h3, h4] at hx <;> simp_all
      · rw [g3 i hi hne, decide_eq_false (fun h => hne h.symm)]; cases bitN b i <;> rfl
  · rintro (rfl | rfl)
    · rfl
    · unfold onKey projN
      congr 1
      refine List.map_congr_left fun y hy => ?_
      rw [bit_flip]
      obtain ⟨i, hi, rfl, ht⟩ := chosen_mem hy
      rw [decide_eq_true_eq] at ht
      rw [Int.toNat_natCast, decide_eq_false (by omega)]
      cases bitN b (L - (i + 1)) <;> rfl
end Go.Proofs.Ytcpbgjnijhcpkaa

namespace Go.Proofs.Ytcpbgjnijhcpkaa
open Go.RowKit
set_option linter.unusedVariables false
set_option maxRecDepth 100000

theorem scan_none (kn : List Int) (cs : List (List Int)) : ∀ (n i : Nat) (u l : Int), i + n = cs.length → (scanU kn cs n i u l).1 = -1 → (scanU kn cs n i u l).2.1 < 0 →
    u < 0 ∧ ∀ j (h : j < cs.length), i ≤ j → giveDone kn cs[j] = true ∨ 2 ≤ (giveRest kn cs[j]).length := by
  intro n
  induction n with
  | zero => intro i u l hi h1 h2; exact ⟨h2, fun j hj hij => by omega⟩
  | succ n ih =>
    intro i u l hi h1 h2
    have hl : i < cs.length := by omega
    rw [scanU, getD_get hl] at h1 h2
    split at h1
    · rename_i hd
      rw [if_pos hd] at h2
      obtain ⟨g1, g2⟩ := ih (i + 1) u l (by omega) h1 h2
      refine ⟨g1, fun j hj hij => ?_⟩
      by_cases e : j = i
      · subst e; exact .inl hd
      · exact g2 j hj (by omega)
    · rename_i hd
      rw [if_neg hd] at h2
      split at h1
      · simp only at h1; omega
      · rename_i h0
        rw [if_neg h0] at h2
        split at h1
        · rename_i h3
          rw [if_pos h3] at h2
          obtain ⟨g1, _⟩ := ih (i + 1) i _ (by omega) h1 h2
          omega
        · rename_i h3
          rw [if_neg h3] at h2
          obtain ⟨g1, g2⟩ := ih (i + 1) u l (by omega) h1 h2
          refine ⟨g1, fun j hj hij => ?_⟩
          by_cases e : j = i
          · subst e
            refine .inr ?_
            have : ¬ ((giveRest kn cs[j]).length = 1) := fun e1 => h3 ⟨e1, g1⟩
            omega
          · exact g2 j hj (by omega)
/-- known literals by which no clause is open in one literal or none -/
structure ClosedU (L : Int) (cs : List (List Int)) (K : List Int) : Prop where
  cons : Cons L K
  open2 : ∀ c ∈ cs, giveDone K c = true ∨ 2 ≤ (giveRest K c).length
theorem units_closed {L : Int} {cs : List (List Int)} (hL : L ≤ 10) (hcl : ∀ c ∈ cs, ∀ x ∈ c, isLit L x = true) : ∀ (n : Nat) (kn by_ : List Int), n + kn.length = 11 → Cons L kn → (unitsGo cs n kn by_).wrong < 0 → ClosedU L cs (unitsGo cs n kn by_).known := by
  intro n
  induction n with
  | zero => intro kn by_ h1 h2 _; have := h2.len hL; omega
  | succ n ih =>
    intro kn by_ h1 h2 h3
    obtain ⟨s1, s2⟩ := scan_spec kn cs cs.length 0 (-1) 0 (by omega) (.inl (by omega))
    rw [unitsGo] at h3 ⊢
    split at h3
    · rename_i h0; simp only at h3; omega
    · rename_i h0
      rw [if_neg h0]
      have h1' : (scanU kn cs cs.length 0 (-1) 0).1 = -1 := by
        rcases s1 with s1 | ⟨j, _, s1, _⟩
        · exact s1
        · rw [s1] at h0; omega
      split at h3
      · rename_i h4
        rw [if_pos h4]
        refine ⟨h2, fun c hc => ?_⟩
        obtain ⟨j, hj, rfl⟩ := List.mem_iff_getElem.1 hc
        exact (scan_none kn cs cs.length 0 (-1) 0 (by omega) h1' h4).2 j hj (Nat.zero_le _)
      · rename_i h4
        rw [if_neg h4]
        rcases s2 with ⟨s2, _⟩ | ⟨j, e, hT⟩
        · exact absurd s2 h4
        · obtain ⟨t1, t2, t3, _⟩ := hT.lit hcl
          exact ih _ _ (by simp; omega) (h2.snoc t1 t2 t3) h3
theorem not_open {kn c : List Int} {y : Int} (hy : y ∈ c) (h : y ∉ giveRest kn c) : -y ∈ kn := by
  cases hk : hasI kn (-y) with
  | true => exact (hasI_iff _ _).1 hk
  | false => exact absurd (List.mem_filter.2 ⟨hy, by rw [hk]; rfl⟩) h
theorem done_mem {kn c : List Int} : giveDone kn c = true ↔ ∃ y ∈ c, y ∈ kn := by
  unfold giveDone
  rw [List.any_eq_true]
  exact ⟨fun ⟨y, h1, h2⟩ => ⟨y, h1, (hasI_iff _ _).1 h2⟩, fun ⟨y, h1, h2⟩ => ⟨y, h1, (hasI_iff _ _).2 h2⟩⟩
theorem open_sub {kn K c : List Int} (h : ∀ x ∈ kn, x ∈ K) {y : Int} (hy : y ∈ giveRest K c) : y ∈ giveRest kn c := by
  unfold giveRest at hy ⊢
  rw [List.mem_filter, Bool.not_eq_true', hasI_false] at hy ⊢
  exact ⟨hy.1, fun hk => hy.2 (h _ hk)⟩
theorem open_len {kn K c : List Int} (h : ∀ x ∈ kn, x ∈ K) : (giveRest K c).length ≤ (giveRest kn c).length := by
  unfold giveRest
  rw [← List.countP_eq_length_filter, ← List.countP_eq_length_filter]
  refine List.countP_mono_left fun y _ hy => ?_
  rw [Bool.not_eq_true', hasI_false] at hy ⊢
  exact fun hk => hy (h _ hk)
/-- units found from less, by fewer clauses, are among closed ones, and without a conflict -/
theorem units_under {L : Int} {cs cs' : List (List Int)} {K : List Int} (hK : ClosedU L cs' K) (hsub : ∀ c ∈ cs, c ∈ cs') : ∀ (n : Nat) (kn by_ : List Int), (∀ x ∈ kn, x ∈ K) → (unitsGo cs n kn by_).wrong < 0 := by
  intro n
  induction n with
  | zero => intro kn by_ _; show (-1 : Int) < 0; decide
  | succ n ih =>
    intro kn by_ h
    obtain ⟨s1, s2⟩ := scan_spec kn cs cs.length 0 (-1) 0 (by omega) (.inl (by omega))
    rw [unitsGo]
    have hneg : ¬ 0 ≤ (scanU kn cs cs.length 0 (-1) 0).1 := by
      rcases s1 with s1 | ⟨j, hj, s1, s3, s4⟩
      · rw [s1]; decide
      · exfalso
        have hop := hK.open2 _ (hsub _ (List.getElem_mem hj))
        have hle := open_len (c := cs[j]) h
        rw [s4] at hle
        rcases hop with hop | hop
        · obtain ⟨y, hy1, hy2⟩ := done_mem.1 hop
          exact hK.cons.not_both hy2 (h _ (not_open hy1 (by rw [s4]; exact List.not_mem_nil)))
        · simp at hle; rw [hle] at hop; simp at hop
    rw [if_neg hneg]
    split
    · show (-1 : Int) < 0; decide
    · rename_i h4
      rcases s2 with ⟨s2, _⟩ | ⟨j, e, hj, hd, hr⟩
      · exact absurd s2 h4
      · refine ih _ _ fun x hx => ?_
        rcases List.mem_append.1 hx with hx | hx
        · exact h x hx
        · rw [List.mem_singleton.1 hx]
          have hle := open_len (c := cs[j]) h
          rw [hr] at hle
          rcases hK.open2 _ (hsub _ (List.getElem_mem hj)) with hop | hop
          · obtain ⟨y, hy1, hy2⟩ := done_mem.1 hop
            by_cases hyr : y ∈ giveRest kn cs[j]
            · rw [hr, List.mem_singleton] at hyr; rw [← hyr]; exact hy2
            · exact absurd (hK.cons.not_both hy2 (h _ (not_open hy1 hyr))) id
          · simp at hle; omega
theorem lits_len {L : Int} {g : List Int} (h : Cons L g) (hL : L ≤ 10) : (11 - g.length) + g.length = 11 := by have := h.len hL; omega
/-- a conflict from some known literals is one from more of them, and with more clauses -/
theorem units_mono {L : Int} {cs cs' : List (List Int)} {g g' : List Int} (hL : L ≤ 10) (hcl : ∀ c ∈ cs', ∀ x ∈ c, isLit L x = true) (hsub : ∀ c ∈ cs, c ∈ cs') (hg' : Cons L g') (hgg : ∀ x ∈ g, x ∈ g')
    (h : 0 ≤ (unitsF cs g).wrong) : 0 ≤ (unitsF cs' g').wrong := by
  by_cases hw : (unitsF cs' g').wrong < 0
  · exfalso
    have hC := units_closed hL hcl _ _ _ (lits_len hg' hL) hg' hw
    have := units_under (cs := cs) hC hsub (11 - g.length) g (List.replicate g.length (-1)) (fun x hx => unitsF_sub cs' g' x (hgg x hx))
    have h' : 0 ≤ (unitsGo cs (11 - g.length) g (List.replicate g.length (-1))).wrong := h
    omega
  · omega
theorem proofGo_snoc (L : Int) (c : List Int) : ∀ (P cs : List (List Int)), proofGo L cs (P ++ [c]) = (proofGo L cs P && (isClause L c && decide (0 ≤ (unitsF (cs ++ P) (negs c)).wrong))) := by
  intro P
  induction P with
  | nil => intro cs; simp [proofGo]
  | cons d r ih =>
    intro cs
    rw [List.cons_append, proofGo, proofGo, ih, List.append_assoc]
    simp only [List.singleton_append]
    cases isClause L d <;> cases decide (0 ≤ (unitsF cs (negs d)).wrong) <;> simp
theorem negs_mem {d : List Int} {y : Int} : y ∈ negs d ↔ -y ∈ d := by
  unfold negs
  rw [List.mem_map]
  constructor
  · rintro ⟨x, hx, rfl⟩; rw [Int.neg_neg]; exact hx
  · intro h; exact ⟨-y, h, Int.neg_neg y⟩
theorem clauseOf_mem {d : List Int} {y : Int} : y ∈ clauseOf d ↔ -y ∈ d := by
  unfold clauseOf; rw [srtL_mem, negs_mem]
theorem clauseOf_ok {L : Int} {d : List Int} (hL : inB 1 10 L = true) (h : Cons L d) : isClause L (clauseOf d) = true :=
  clause_of_ris hL (fun x hx => (cons_negs h).1 x ((srtL_mem _ _).1 hx)) (srtL_ris (cons_negs h).2)
theorem nodup_one {c : List Int} {a : Int} (hd : c.Pairwise (fun x y => x ≠ y)) (h : ∀ y ∈ c, y = a) : c.length ≤ 1 := by
  match c, hd, h with
  | [], _, _ => simp
  | [_], _, _ => simp
  | x :: y :: r, hd, h =>
    exfalso
    rw [List.pairwise_cons] at hd
    exact hd.1 y (List.mem_cons_self ..) (by rw [h x (List.mem_cons_self ..), h y (List.mem_cons_of_mem _ (List.mem_cons_self ..))])
/-- a clause of the opposites of known literals and of one more tells that one -/
theorem closed_tells {L : Int} {cs : List (List Int)} {K d : List Int} {a : Int} (hK : ClosedU L cs K) (hd : ∀ x ∈ d, x ∈ K) (hc : isClause L (clauseOf (d ++ [-a])) = true) (hm : clauseOf (d ++ [-a]) ∈ cs) : a ∈ K := by
  have hmem : ∀ y ∈ clauseOf (d ++ [-a]), -y ∈ K ∨ y = a := by
    intro y hy
    rcases List.mem_append.1 (clauseOf_mem.1 hy) with h | h
    · exact .inl (hd _ h)
    · right; rw [List.mem_singleton] at h; omega
  rcases hK.open2 _ hm with h | h
  · obtain ⟨y, hy1, hy2⟩ := done_mem.1 h
    rcases hmem y hy1 with h3 | h3
    · exact absurd (hK.cons.not_both hy2 h3) id
    · rw [← h3]; exact hy2
  · exfalso
    have hr : ∀ y ∈ giveRest K (clauseOf (d ++ [-a])), y = a := by
      intro y hy
      unfold giveRest at hy
      rw [List.mem_filter, Bool.not_eq_true', hasI_false] at hy
      rcases hmem y hy.1 with h3 | h3
      · exact absurd h3 hy.2
      · exact h3
    have hp : (giveRest K (clauseOf (d ++ [-a]))).Pairwise (fun x y => x ≠ y) := ((clause_ris hc).imp fun h e => by rw [e] at h; omega).sublist List.filter_sublist
    have := nodup_one hp hr
    omega
theorem prove_ok {L : Nat} {cs : List (List Int)} (hL : inB 1 10 (L : Int) = true) (hcl : ∀ c ∈ cs, ∀ x ∈ c, isLit (L : Int) x = true) : ∀ (n : Nat) (d : List Int) (P P' : List (List Int)), Cons (L : Int) d → (∀ c ∈ P, isClause (L : Int) c = true) → proofGo (L : Int) cs P = true → proveGo L cs n d P = some P' →
    proofGo (L : Int) cs P' = true ∧ (∀ c ∈ P', isClause (L : Int) c = true) ∧ (∀ c ∈ P, c ∈ P') ∧ ∃ P2, P' = P2 ++ [clauseOf d] ∧ (P2 = P ∨ ∃ Q a, P2 = Q ++ [clauseOf (d ++ [a])]) := by
  have hL10 : (L : Int) ≤ 10 := (inB_true hL).2
  intro n
  induction n with
  | zero => intro d P P' _ _ _ h; rw [proveGo] at h; cases h
  | succ n ih =>
    intro d P P' hd hP hgo h
    rw [proveGo, Option.bind_eq_some_iff] at h
    obtain ⟨P2, h1, h2⟩ := h
    have h2' : P' = P2 ++ [clauseOf d] := by
      split at h2
      · injection h2 with h2; exact h2.symm
      · cases h2
    have hneg : Cons (L : Int) (negs (clauseOf d)) := cons_negs (cons_clause (clauseOf_ok hL hd))
    have hdn : ∀ x ∈ d, x ∈ negs (clauseOf d) := fun x hx => by rw [negs_mem, clauseOf_mem, Int.neg_neg]; exact hx
    have fin : proofGo (L : Int) cs P2 = true → (∀ c ∈ P2, isClause (L : Int) c = true) → 0 ≤ (unitsF (cs ++ P2) (negs (clauseOf d))).wrong → proofGo (L : Int) cs P' = true ∧ (∀ c ∈ P', isClause (L : Int) c = true) := by
      intro g1 g2 g3
      subst h2'
      refine ⟨by rw [proofGo_snoc, g1, clauseOf_ok hL hd, decide_eq_true g3]; rfl, fun c hc => ?_⟩
      rcases List.mem_append.1 hc with hc | hc
      · exact g2 c hc
      · rw [List.mem_singleton.1 hc]; exact clauseOf_ok hL hd
    have hclP : ∀ (R : List (List Int)), (∀ c ∈ R, isClause (L : Int) c = true) → ∀ c ∈ cs ++ R, ∀ x ∈ c, isLit (L : Int) x = true := by
      intro R hR c hc
      rcases List.mem_append.1 hc with hc | hc
      · exact hcl c hc
      · exact clause_lits (hR c hc)
    split at h1
    · rename_i hw
      split at h1
      · rename_i hfree
        rw [Option.bind_eq_some_iff] at h1
        obtain ⟨P1, k1, k2⟩ := h1
        obtain ⟨c1, c2⟩ := free_cons hd hfree
        generalize freeOf L (unitsF cs d).known = a at *
        obtain ⟨i1, i2, i3, Q1, i4, _⟩ := ih _ P P1 c1 hP hgo k1
        obtain ⟨j1, j2, j3, Q2, j4, _⟩ := ih _ P1 P2 c2 i2 i1 k2
        have m1 : clauseOf (d ++ [-(a : Int)]) ∈ P2 := j3 _ (by rw [i4]; exact List.mem_append_right _ (List.mem_singleton.2 rfl))
        have m2 : clauseOf (d ++ [(a : Int)]) ∈ P2 := by rw [j4]; exact List.mem_append_right _ (List.mem_singleton.2 rfl)
        have hconf : 0 ≤ (unitsF (cs ++ P2) (negs (clauseOf d))).wrong := by
          by_cases hwn : (unitsF (cs ++ P2) (negs (clauseOf d))).wrong < 0
          · exfalso
            have hC := units_closed hL10 (hclP P2 j2) _ _ _ (lits_len hneg hL10) hneg hwn
            have hdK : ∀ x ∈ d, x ∈ (unitsGo (cs ++ P2) (11 - (negs (clauseOf d)).length) (negs (clauseOf d)) (List.replicate (negs (clauseOf d)).length (-1))).known := fun x hx => unitsF_sub _ _ x (hdn x hx)
            have t1 := closed_tells hC hdK (j2 _ m1) (List.mem_append_right _ m1)
            have m2' : clauseOf (d ++ [-(-(a : Int))]) ∈ P2 := by rw [Int.neg_neg]; exact m2
            have t2 := closed_tells hC hdK (j2 _ m2') (List.mem_append_right _ m2')
            exact hC.cons.not_both t1 t2
          · omega
        obtain ⟨f1, f2⟩ := fin j1 j2 hconf
        refine ⟨f1, f2, fun c hc => by rw [h2']; exact List.mem_append_left _ (j3 c (i3 c hc)), P2, h2', .inr ⟨Q2, (a : Int), j4⟩⟩
      · cases h1
    · rename_i hw
      injection h1 with h1
      subst h1
      have hconf : 0 ≤ (unitsF (cs ++ P) (negs (clauseOf d))).wrong :=
        units_mono hL10 (hclP P hP) (fun c hc => List.mem_append_left _ hc) hneg hdn (by omega)
      obtain ⟨f1, f2⟩ := fin hgo hP hconf
      exact ⟨f1, f2, fun c hc => by rw [h2']; exact List.mem_append_left _ hc, P, h2', .inl rfl⟩
/-- ProveNo's outcome, as FnProofs reads it -/
theorem proof_facts {f : FormD} {L : Nat} (hv : validForm f = true) (hL : f.letters = (L : Int)) (h : (proveNoF f).2 = true) :
    ∃ P2, (proveNoF f).1 = P2 ++ [[]] ∧ P2.length < 128 ∧ isProof f (proveNoF f).1 = true ∧ isProof f P2 = false ∧ countN L f.clauses (2 ^ L) = 0 ∧ ∀ c ∈ (proveNoF f).1, isClause (L : Int) c = true := by
  obtain ⟨b1, b2, b3⟩ := validForm_bounds hv
  have hin : inB 1 10 (L : Int) = true := by rw [← hL]; unfold inB; rw [decide_eq_true b1.1, decide_eq_true b1.2]; rfl
  have hcl : ∀ c ∈ f.clauses, ∀ x ∈ c, isLit (L : Int) x = true := by rw [← hL]; exact valid_lits hv
  cases hok : okCore f with
  | false => rw [proveNo_no hok] at h; cases h
  | true =>
    have hLn : f.letters.toNat = L := by rw [hL]; rfl
    rw [proveNo_yes hok hLn] at h ⊢
    cases hp : proveGo L f.clauses 11 [] [] with
    | none => rw [hp] at h; cases h
    | some P =>
      have hlen := prove_len _ _ _ _ hp
      obtain ⟨g1, g2, _, P2, g4, g5⟩ := prove_ok hin hcl 11 [] [] P (Cons.nil _) (by simp) rfl hp
      have hc0 : clauseOf [] = [] := rfl
      rw [hc0] at g4
      have hl2 : P.length = P2.length + 1 := by rw [g4]; simp
      have hcnt : countN L f.clauses (2 ^ L) = 0 := by
        unfold okCore at hok
        rw [Bool.and_eq_true, Bool.not_eq_true', hLn] at hok
        apply Nat.eq_zero_of_not_pos
        intro hpos
        obtain ⟨n, hn, hm⟩ := (countN_pos _ _ _).1 hpos
        cases hf : firstFrom L f.clauses 0 (2 ^ L) with
        | none => rw [(firstFrom_iff L f.clauses (2 ^ L) 0).1 hf n (Nat.zero_le _) (by omega)] at hm; cases hm
        | some m => have := hok.2; unfold hasM at this; rw [hf] at this; cases this
      refine ⟨P2, g4, by omega, ?_, ?_, hcnt, g2⟩
      · show isProof f P = true
        unfold isProof okProof
        rw [hv, hL, g1]
        have e1 : inB 1 128 (P.length : Int) = true := by unfold inB; rw [decide_eq_true (by omega), decide_eq_true (by omega)]; rfl
        have e2 : (P.getD (P.length - 1) []).length = 0 := by rw [g4]; simp
        rw [e1, decide_eq_true e2]; rfl
      · unfold isProof okProof
        rcases g5 with g5 | ⟨Q, a, g5⟩
        · rw [g5]; simp [inB]
        · have e2 : (P2.getD (P2.length - 1) []).length = 1 := by
            rw [g5]
            simp [clauseOf_len]
          rw [e2]; simp
end Go.Proofs.Ytcpbgjnijhcpkaa

namespace Go.Proofs.Ytcpbgjnijhcpkaa
open Go.RowKit
set_option linter.unusedVariables false
set_option maxRecDepth 100000

def resolveN (a b : List Int) (l : Int) : List Int × Bool := if clash a b l then joinAll l (outOfL l a) b else ([], false)
theorem outOfL_snoc (l : Int) (a : List Int) (x : Int) : outOfL l (a ++ [x]) = outOfL l a ++ (if absI x = l then [] else [x]) := by
  rw [outOfL, outOfL, List.filter_append]
  by_cases h : absI x = l <;> simp [h]
theorem joinAll_skip {l x : Int} {S r : List Int} (h : absI x = l) : joinAll l S (x :: r) = joinAll l S r := by rw [joinAll, if_pos h]
theorem joinAll_bad {l x : Int} {S r : List Int} (h : absI x ≠ l) (hj : (joinN S x).2 = false) : joinAll l S (x :: r) = ([], false) := by rw [joinAll, if_neg h, hj]; rfl
theorem joinAll_next {l x : Int} {S r : List Int} (h : absI x ≠ l) (hj : (joinN S x).2 = true) : joinAll l S (x :: r) = joinAll l (joinN S x).1 r := by rw [joinAll, if_neg h, hj]; rfl
set_option maxHeartbeats 2000000 in
set_option maxRecDepth 100000 in
theorem l05Resolve_any (w : World) {l' h' l'' h'' : Nat} (va vb : Value) (a b : List Int) (l : Int) (ha : Ints w l' h' va a) (hha : h' ≤ w.heap.size) (hb : Ints w l'' h'' vb b) (hhb : h'' ≤ w.heap.size) (hra : ∀ x ∈ a, -10 ≤ x ∧ x ≤ 10) (hrb : ∀ x ∈ b, -10 ≤ x ∧ x ≤ 10) (hla : a.length ≤ 100) (hlb : b.length ≤ 100) (hl1 : 1 ≤ l) (hl2 : l ≤ 10) :
    Calls Try.prog 101 #[va, vb, .int .i64 l] w fun e w' => ∃ u, e = .returned (.tuple #[u, .bool (resolveN a b l).2]) ∧ OwnI w' w.heap.size w'.heap.size u (resolveN a b l).1 ∧ Below w.heap.size w w' := by
  have HA := Lib.hid ha
  have HB := Lib.hid hb
  obtain ⟨aa, ac, rfl, ac1, ac2, ad⟩ := ha.out
  obtain ⟨ba, bc, rfl, bc1, bc2, bd⟩ := hb.out
  have HRA := Lib.hid hra
  have HRB := Lib.hid hrb
  have AC : Hid (∀ (wx : World) (j : Nat), Below w.heap.size w wx → j < a.length → ∃ b o, aa = some ⟨b, o, none⟩ ∧ wx.cell? ⟨b, o + j, none⟩ = some (.int .i64 (a.getD j 0))) := fun wx j hbx hj => by
    rcases ad with rfl | ⟨g, o, e, r1, r2, r3, hc⟩
    · simp at hj
    · exact ⟨g, o, e, by rw [hbx.cell (p := ⟨g, o + j, none⟩) (show g < w.heap.size by omega)]; exact hc j hj⟩
  have BC : Hid (∀ (wx : World) (j : Nat), Below w.heap.size w wx → j < b.length → ∃ g o, ba = some ⟨g, o, none⟩ ∧ wx.cell? ⟨g, o + j, none⟩ = some (.int .i64 (b.getD j 0))) := fun wx j hbx hj => by
    rcases bd with rfl | ⟨g, o, e, r1, r2, r3, hc⟩
    · simp at hj
    · exact ⟨g, o, e, by rw [hbx.cell (p := ⟨g, o + j, none⟩) (show g < w.heap.size by omega)]; exact hc j hj⟩
  have h0 := emptySlice w
  have hs0 : (w.alloc (.cells #[] 2)).heap.size = w.heap.size + 1 := by simp
  have H0 : Hid (OwnI (w.alloc (.cells #[] 2)) w.heap.size (w.alloc (.cells #[] 2)).heap.size (.slice (some ⟨w.heap.size, 0, none⟩) 0 0) []) := h0.mono (Nat.le_refl _) (by omega) (Nat.le_refl _)
  have HB0 := Lib.hid (alloc_below w (.cells #[] 2))
  clear ha hb ad bd hra hrb h0 hs0
  go_enter Try.func101, Try.ntmps101
  go_upto_region 1 with fail
  go_cut [33] from 13 to 33 (fun s wx => s = .bool (!clash a b l) ∧ wx = w)
  case first =>
    cases h1 : hasI a l <;> cases h2 : hasI b (-l) <;> cases h3 : hasI a (-l) <;> cases h4 : hasI b l
    all_goals
      have HC : Hid (clash a b l = ((hasI a l && hasI b (-l)) || (hasI a (-l) && hasI b l))) := rfl
      rw [h1, h2, h3, h4] at HC
      go_wp2_with (first | (go_at_call_of 100 (Value.slice aa a.length ac); refine (l00Has_any _ a _ _ HA.out).mono ?_; rintro e w' ⟨rfl, rfl⟩) | (go_at_call_of 100 (Value.slice ba b.length bc); refine (l00Has_any _ b _ _ HB.out).mono ?_; rintro e w' ⟨rfl, rfl⟩))
      go_meet
      exact ⟨by rw [HC.out]; rfl, rfl⟩
  case rest =>
    obtain ⟨rfl, rfl⟩ := hcut
    cases hcl : clash a b l
    · have HE : Hid (resolveN a b l = ([], false)) := by rw [Hid, resolveN, hcl]; rfl
      clear hcl
      go_wp2
      go_ret2
      exact ⟨_, by rw [HE.out]; rfl, by rw [HE.out]; exact OwnI.nil _ _ _ (Nat.le_refl _), Below.refl _ _⟩
    have HE : Hid (resolveN a b l = joinAll l (outOfL l a) b) := by rw [Hid, resolveN, hcl]; rfl
    clear hcl
    go_wp2_with fail
    go_loopw [8, 37] (fun ov i wr => ∃ k : Nat, k ≤ a.length ∧ i = .int .i64 k ∧ OwnI wr wc.heap.size wr.heap.size ov (outOfL l (a.take k)) ∧ Below wc.heap.size wc wr) (fun _ i _ => a.length - (intOf i).toNat)
    case atStart => exact ⟨0, Nat.zero_le _, rfl, H0.out, HB0.out⟩
    case round =>
      clear H0 HB0
      obtain ⟨k, hk, rfl, ho, hb⟩ := hrel
      have hs := hb.size
      have HO := Lib.hid ho
      have HBB := Lib.hid hb
      clear ho
      by_cases hlt : k < a.length
      · obtain ⟨g, o, rfl, hck⟩ := AC.out wr k hb hlt
        have hge : a.getD k 0 = a[k] := by simp [List.getD, hlt]
        rw [hge] at hck
        have HT : Hid (outOfL l (a.take (k + 1)) = outOfL l (a.take k) ++ (if absI a[k] = l then [] else [a[k]])) := by rw [Hid, List.take_succ_eq_append_getElem hlt, outOfL_snoc]
        have hxr := HRA.out a[k] (List.getElem_mem hlt)
        obtain ⟨x, hx⟩ : ∃ x, x = a[k] := ⟨_, rfl⟩
        rw [← hx] at hck HT hxr
        have hx1 := hxr.1
        have hx2 := hxr.2
        have HLN : Hid ((outOfL l (a.take k)).length + 1 ≤ 1099511627776) := by
          have h1 : (outOfL l (a.take k)).length ≤ (a.take k).length := List.length_filter_le _ _
          rw [List.length_take] at h1
          rw [Hid]; omega
        have HLX := Lib.hid (l05Letter_any x (by omega) (by omega) wr)
        obtain ⟨ax, hax⟩ : ∃ z, z = absI x := ⟨_, rfl⟩
        rw [← hax] at HLX HT
        clear hge hx hxr hax hb
        by_cases hal : ax = l
        · have hne : (ax != l) = false := by simpa using hal
          rw [if_pos hal, List.append_nil] at HT
          clear hal
          go_wp2_with fail
          refine HLX.out.mono ?_
          rintro e w' ⟨rfl, rfl⟩
          go_wp2
          go_roundw
          case rel => (repeat apply Exists.intro); exact ⟨⟨k + 1, by omega, by go_num, by rw [HT.out]; exact HO.out, HBB.out⟩, rfl⟩
          case measure => simp [intOf]; omega
        · have hne : (ax != l) = true := by simpa using hal
          rw [if_neg hal] at HT
          clear hal
          go_wp2_with fail
          refine HLX.out.mono ?_
          rintro e w' ⟨rfl, rfl⟩
          go_wp2_with (at_builtin; refine wpList_app1 rfl _ _ rfl _ (outOfL l (a.take k)) rfl x _ HO.out rfl (by unfold I64; omega) HLN.out hs ?_)
          intro v2 w3 ho2 hsm hz3 _
          have HO2 : Hid (OwnI w3 wc.heap.size w3.heap.size v2 (outOfL l (a.take (k + 1)))) := by rw [Hid, HT.out]; exact ho2
          have HB2 := Lib.hid (HBB.out.trans (hsm.below (Nat.le_refl _) hs))
          clear ho2
          go_wp2
          go_roundw
          case rel => (repeat apply Exists.intro); exact ⟨⟨k + 1, by omega, by go_num, HO2.out, HB2.out⟩, rfl⟩
          case measure => simp [intOf]; omega
      · obtain rfl : k = a.length := by omega
        rw [List.take_length] at HO
        have HOL : Hid ((outOfL l a).length ≤ a.length) := List.length_filter_le _ _
        have HORG : Hid (∀ y ∈ outOfL l a, -10 ≤ y ∧ y ≤ 10) := fun y hy => HRA.out y (List.mem_filter.1 hy).1
        obtain ⟨A0, hA0⟩ : ∃ A0, A0 = outOfL l a := ⟨_, rfl⟩
        rw [← hA0] at HO HE HOL HORG
        clear hA0 hb
        go_wp2_with fail
        go_loopw [8, 57] (fun ov i wr => ∃ (k : Nat) (S : List Int), k ≤ b.length ∧ i = .int .i64 k ∧ S.length ≤ a.length + k ∧ Hid (∀ y ∈ S, -10 ≤ y ∧ y ≤ 10) ∧ Hid (joinAll l S (b.drop k) = joinAll l A0 b) ∧ OwnI wr wc.heap.size wr.heap.size ov S ∧ Below wc.heap.size wc wr) (fun _ i _ => b.length - (intOf i).toNat)
        case atStart => exact ⟨0, A0, Nat.zero_le _, rfl, HOL.out, HORG, Lib.hid rfl, HO.out, HBB.out⟩
        case round =>
          clear HO HBB HOL HORG
          obtain ⟨k, S, hk, rfl, hSl, HSR, H, ho, hb⟩ := hrel
          have hs := hb.size
          have HO := Lib.hid ho
          have HBB := Lib.hid hb
          clear ho
          by_cases hlt : k < b.length
          · obtain ⟨g, o, rfl, hck⟩ := BC.out wr k hb hlt
            have hge : b.getD k 0 = b[k] := by simp [List.getD, hlt]
            rw [hge] at hck
            have HD : Hid (b.drop k = b[k] :: b.drop (k + 1)) := drop_cons b k hlt
            have hxr := HRB.out b[k] (List.getElem_mem hlt)
            obtain ⟨x, hx⟩ : ∃ x, x = b[k] := ⟨_, rfl⟩
            rw [← hx] at hck HD hxr
            have hx1 := hxr.1
            have hx2 := hxr.2
            have HLX := Lib.hid (l05Letter_any x (by omega) (by omega) wr)
            have HJ := Lib.hid (l05Join_any wr _ S x HO.out hs (by omega) HSR.out hx1 hx2)
            have HJM : Hid (∀ y ∈ (joinN S x).1, -10 ≤ y ∧ y ≤ 10) := fun y hy => by
              rcases joinN_mem hy with rfl | hy
              · exact ⟨hx1, hx2⟩
              · exact HSR.out y hy
            have hjl := joinN_len x S
            have HSK : Hid (absI x = l → joinAll l S (x :: b.drop (k + 1)) = joinAll l S (b.drop (k + 1))) := fun h => joinAll_skip h
            have HBD : Hid (absI x ≠ l → (joinN S x).2 = false → joinAll l S (x :: b.drop (k + 1)) = ([], false)) := fun h1 h2 => joinAll_bad h1 h2
            have HNX : Hid (absI x ≠ l → (joinN S x).2 = true → joinAll l S (x :: b.drop (k + 1)) = joinAll l (joinN S x).1 (b.drop (k + 1))) := fun h1 h2 => joinAll_next h1 h2
            obtain ⟨ax, hax⟩ : ∃ z, z = absI x := ⟨_, rfl⟩
            rw [← hax] at HLX HSK HBD HNX
            obtain ⟨J, hJ⟩ : ∃ J, J = (joinN S x).1 := ⟨_, rfl⟩
            rw [← hJ] at HJ HJM hjl HNX
            obtain ⟨t, ht⟩ : ∃ t, t = (joinN S x).2 := ⟨_, rfl⟩
            rw [← ht] at HJ HBD HNX
            clear hge hx hxr hax hb hJ ht
            by_cases hal : ax = l
            · have hne : (ax == l) = true := by simpa using hal
              have HN : Hid (joinAll l S (b.drop (k + 1)) = joinAll l A0 b) := by rw [Hid, ← H.out, HD.out]; exact (HSK.out hal).symm
              clear hal
              go_wp2_with fail
              refine HLX.out.mono ?_
              rintro e w' ⟨rfl, rfl⟩
              go_wp2
              go_roundw
              case rel => (repeat apply Exists.intro); exact ⟨⟨k + 1, S, by omega, by go_num, by omega, HSR, HN, HO.out, HBB.out⟩, rfl⟩
              case measure => simp [intOf]; omega
            · have hne : (ax == l) = false := by simpa using hal
              cases t
              · have HN : Hid (resolveN a b l = ([], false)) := by rw [Hid, HE.out, ← H.out, HD.out]; exact HBD.out hal rfl
                clear hal
                go_wp2_with fail
                refine HLX.out.mono ?_
                rintro e w' ⟨rfl, rfl⟩
                go_wp2_with fail
                refine HJ.out.mono ?_
                rintro e w2 ⟨u, rfl, hou, hb2⟩
                have HB2 := Lib.hid (HBB.out.trans (hb2.mono hs))
                clear hou hb2
                go_wp2
                go_ret2
                exact ⟨_, by rw [HN.out]; rfl, by rw [HN.out]; exact OwnI.nil _ _ _ (Nat.le_refl _), HB2.out⟩
              · have HN : Hid (joinAll l J (b.drop (k + 1)) = joinAll l A0 b) := by rw [Hid, ← H.out, HD.out]; exact (HNX.out hal rfl).symm
                clear hal
                go_wp2_with fail
                refine HLX.out.mono ?_
                rintro e w' ⟨rfl, rfl⟩
                go_wp2_with fail
                refine HJ.out.mono ?_
                rintro e w2 ⟨u, rfl, hou, hb2⟩
                have HB2 := Lib.hid (HBB.out.trans (hb2.mono hs))
                have HO2 := Lib.hid hou
                clear hou hb2
                go_wp2
                go_roundw
                case rel => (repeat apply Exists.intro); exact ⟨⟨k + 1, J, by omega, by go_num, by omega, HJM, HN, HO2.out, HB2.out⟩, rfl⟩
                case measure => simp [intOf]; omega
          · obtain rfl : k = b.length := by omega
            have HN : Hid (resolveN a b l = (S, true)) := by rw [Hid, HE.out, ← H.out, drop_len _ _ (Nat.le_refl _)]; rfl
            clear hb
            go_wp2
            go_ret2
            exact ⟨_, by rw [HN.out]; rfl, by rw [HN.out]; exact HO.out, HBB.out⟩
end Go.Proofs.Ytcpbgjnijhcpkaa

namespace Go.Proofs.Ytcpbgjnijhcpkaa
open Go.RowKit
set_option linter.unusedVariables false
set_option maxRecDepth 100000

def resS (l : Int) (a b : List Int) : List Int := insUp ltL (resD l a b).length (resD l a b)
theorem resolve_same {L l : Int} {a b : List Int} (ha : isClause L a = true) (hb : isClause L b = true) (hc : clash a b l = true) : resolveN a b l = if isClause L (resS l a b) then (resS l a b, true) else ([], false) := by
  rw [resolveN, if_pos hc]; exact resolve_eq ha hb
theorem dedup_take {l x : Int} {S r : List Int} (h : absI x ≠ l) (hh : hasI S x = false) : dedupGo l S (x :: r) = dedupGo l (S ++ [x]) r := by rw [dedupGo, if_pos ⟨h, hh⟩]
theorem dedup_skip {l x : Int} {S r : List Int} (h : ¬ (absI x ≠ l ∧ hasI S x = false)) : dedupGo l S (x :: r) = dedupGo l S r := by rw [dedupGo, if_neg h]
set_option maxHeartbeats 2000000 in
set_option maxRecDepth 100000 in
theorem resolveI_any (w : World) {l' h' l'' h'' : Nat} (L : Int) (va vb : Value) (a b : List Int) (l : Int) (kL : I64 L) (ha : Ints w l' h' va a) (hha : h' ≤ w.heap.size) (hb : Ints w l'' h'' vb b) (hhb : h'' ≤ w.heap.size) (hra : ∀ x ∈ a, -10 ≤ x ∧ x ≤ 10) (hrb : ∀ x ∈ b, -10 ≤ x ∧ x ≤ 10) (hla : a.length ≤ 100) (hlb : b.length ≤ 100) (hl1 : 1 ≤ l) (hl2 : l ≤ 10) (hD : (resD l a b).length ≤ 18) :
    Calls Try.prog 103 #[.int .i64 L, va, vb, .int .i64 l] w fun e w' => ∃ u, e = .returned (.tuple #[u, .bool (isClause L (resS l a b))]) ∧ OwnI w' w.heap.size w'.heap.size u (resS l a b) ∧ Below w.heap.size w w' := by
  have HC := Lib.hid (copyInts_any va a w ha hha (by omega))
  have HB := Lib.hid hb
  have HRG : Hid (∀ x ∈ a ++ b, -10 ≤ x ∧ x ≤ 10) := fun x hx => by
    rcases List.mem_append.1 hx with h | h
    · exact hra x h
    · exact hrb x h
  have hab : (a ++ b).length ≤ 200 := by rw [List.length_append]; omega
  have HRS : Hid (dedupGo l [] (a ++ b) = resD l a b) := rfl
  have HDL := Lib.hid hD
  have HSS : Hid (insUp ltL (resD l a b).length (resD l a b) = resS l a b) := rfl
  clear ha hb hra hrb hD
  go_enter Try.func103, Try.ntmps103
  go_wp2_with fail
  refine HC.out.mono ?_
  rintro e w1 ⟨u, rfl, ho, hb1⟩
  have hs1 := hb1.size
  have HO1 := Lib.hid ho
  have HB1 := Lib.hid hb1
  have HBV := Lib.hid (HB.out.below hb1 hhb)
  clear ho hb1 HC
  go_wp2_with (at_builtin; refine wpList_appIs rfl _ _ rfl _ a rfl HO1.out _ b rfl HBV.out (by omega) hs1 ?_)
  intro v2 w2 ho2 hsm2 hz2 _
  have HO2 := Lib.hid ho2
  have HB2 := Lib.hid (HB1.out.trans (hsm2.below (Nat.le_refl _) hs1))
  have hs2 := HB2.out.size
  obtain ⟨c, hc⟩ : ∃ c, c = a ++ b := ⟨_, rfl⟩
  rw [← hc] at HO2 hab HRS HRG
  obtain ⟨ca, cc, rfl, cc1, cc2, cd⟩ := HO2.out.rd.out
  have CC : Hid (∀ (wx : World) (j : Nat), Below w2.heap.size w2 wx → j < c.length → ∃ g o, ca = some ⟨g, o, none⟩ ∧ wx.cell? ⟨g, o + j, none⟩ = some (.int .i64 (c.getD j 0))) := fun wx j hbx hj => by
    rcases cd with e | ⟨g, o, e, r1, r2, r3, hcl⟩
    · rw [e] at hj; simp at hj
    · exact ⟨g, o, e, by rw [hbx.cell (p := ⟨g, o + j, none⟩) (show g < w2.heap.size by omega)]; exact hcl j hj⟩
  clear ho2 hsm2 cd hc
  go_wp2_with fail
  go_loopw [10, 18] (fun ov i wr => ∃ (k : Nat) (S : List Int), k ≤ c.length ∧ i = .int .i64 k ∧ S.length ≤ k ∧ Hid (∀ y ∈ S, -10 ≤ y ∧ y ≤ 10) ∧ Hid (dedupGo l S (c.drop k) = resD l a b) ∧ OwnI wr w2.heap.size wr.heap.size ov S ∧ Below w2.heap.size w2 wr) (fun _ i _ => c.length - (intOf i).toNat)
  case atStart => exact ⟨0, [], Nat.zero_le _, rfl, Nat.le_refl _, Lib.hid (by simp), HRS, OwnI.nil _ _ _ (Nat.le_refl _), Below.refl _ _⟩
  case round =>
    obtain ⟨k, S, hk, rfl, hSl, HSR, H, ho, hb⟩ := hrel
    have hs := hb.size
    have HO := Lib.hid ho
    have HBB := Lib.hid hb
    clear ho
    by_cases hlt : k < c.length
    · obtain ⟨g, o, rfl, hck⟩ := CC.out wr k hb hlt
      have hge : c.getD k 0 = c[k] := by simp [List.getD, hlt]
      rw [hge] at hck
      have HD : Hid (c.drop k = c[k] :: c.drop (k + 1)) := drop_cons c k hlt
      have hxr := HRG.out c[k] (List.getElem_mem hlt)
      obtain ⟨x, hx⟩ : ∃ x, x = c[k] := ⟨_, rfl⟩
      rw [← hx] at hck HD hxr
      have hx1 := hxr.1
      have hx2 := hxr.2
      have HLX := Lib.hid (letterOf_any x (by omega) (by omega) wr)
      have HHS := Lib.hid (has_any _ S x wr HO.out.rd)
      have HTK : Hid (absI x ≠ l → hasI S x = false → dedupGo l (S ++ [x]) (c.drop (k + 1)) = resD l a b) := fun h1 h2 => by rw [← H.out, HD.out]; exact (dedup_take h1 h2).symm
      have HSK : Hid (¬ (absI x ≠ l ∧ hasI S x = false) → dedupGo l S (c.drop (k + 1)) = resD l a b) := fun h => by rw [← H.out, HD.out]; exact (dedup_skip h).symm
      obtain ⟨ax, hax⟩ : ∃ z, z = absI x := ⟨_, rfl⟩
      rw [← hax] at HLX HTK HSK
      obtain ⟨t, ht⟩ : ∃ t, t = hasI S x := ⟨_, rfl⟩
      rw [← ht] at HHS HTK HSK
      clear hge hx hxr hax hb ht
      by_cases hal : ax = l
      · have hne : (ax != l) = false := by simpa using hal
        have HN : Hid (dedupGo l S (c.drop (k + 1)) = resD l a b) := HSK.out (fun h => h.1 hal)
        clear hal
        go_wp2_with fail
        refine HLX.out.mono ?_
        rintro e w' ⟨rfl, rfl⟩
        go_wp2
        go_roundw
        case rel => exact ⟨k + 1, S, by omega, by go_num, by omega, HSR, HN, HO.out, HBB.out⟩
        case measure => simp [intOf]; omega
      · have hne : (ax != l) = true := by simpa using hal
        cases t
        · have HN : Hid (dedupGo l (S ++ [x]) (c.drop (k + 1)) = resD l a b) := HTK.out hal rfl
          have HSR2 : Hid (∀ y ∈ S ++ [x], -10 ≤ y ∧ y ≤ 10) := fun y hy => by
            rcases List.mem_append.1 hy with hy | hy
            · exact HSR.out y hy
            · rw [List.mem_singleton] at hy; subst hy; exact ⟨hx1, hx2⟩
          clear hal
          go_wp2_with fail
          refine HLX.out.mono ?_
          rintro e w' ⟨rfl, rfl⟩
          go_wp2_with fail
          refine HHS.out.mono ?_
          rintro e w' ⟨rfl, rfl⟩
          go_wp2_with (at_builtin; refine wpList_app1 rfl _ _ rfl _ S rfl x _ HO.out rfl (by unfold I64; omega) (by omega) hs ?_)
          intro v3 w3 ho3 hsm hz3 _
          have HO3 := Lib.hid ho3
          have HB3 := Lib.hid (HBB.out.trans (hsm.below (Nat.le_refl _) hs))
          clear ho3
          go_wp2
          go_roundw
          case rel => exact ⟨k + 1, S ++ [x], by omega, by go_num, by simp; omega, HSR2, HN, HO3.out, HB3.out⟩
          case measure => simp [intOf]; omega
        · have HN : Hid (dedupGo l S (c.drop (k + 1)) = resD l a b) := HSK.out (fun h => by cases h.2)
          clear hal
          go_wp2_with fail
          refine HLX.out.mono ?_
          rintro e w' ⟨rfl, rfl⟩
          go_wp2_with fail
          refine HHS.out.mono ?_
          rintro e w' ⟨rfl, rfl⟩
          go_wp2
          go_roundw
          case rel => exact ⟨k + 1, S, by omega, by go_num, by omega, HSR, HN, HO.out, HBB.out⟩
          case measure => simp [intOf]; omega
    · obtain rfl : k = c.length := by omega
      have hSD : S = resD l a b := by rw [← H.out, drop_len _ _ (Nat.le_refl _)]; rfl
      have HSD := Lib.hid hSD
      have hS18 : S.length ≤ 18 := by rw [hSD]; exact HDL.out
      clear hSD hb
      have HBY := Lib.hid (byLetter_any _ S wr HO.out.rd (Nat.le_refl _) HSR.out (by omega))
      rw [HSD.out, HSS.out] at HBY
      go_wp2_with fail
      refine HBY.out.mono ?_
      rintro e w4 ⟨u4, rfl, ho4, hb4⟩
      have hs4 := hb4.size
      have HO4 := Lib.hid ho4
      have HB4 := Lib.hid (HB2.out.trans ((HBB.out.trans (hb4.mono hs)).mono hs2))
      have hrl : (resS l a b).length ≤ 18 := by rw [← HSS.out, insUp_len]; exact HDL.out
      have HCL := Lib.hid (implIsClause_any w4 L _ (resS l a b) kL ho4.rd (Nat.le_refl _) (by omega))
      clear ho4 hb4
      go_wp2_with fail
      refine HCL.out.mono ?_
      rintro e w5 ⟨rfl, hb5⟩
      have HO5 := Lib.hid (HO4.out.below hb5 (Nat.le_refl _))
      have hs5 := hb5.size
      have HB5 := Lib.hid (HB4.out.trans (hb5.mono (by omega)))
      clear hb5
      go_wp2
      go_ret2
      exact ⟨_, rfl, HO5.out.mono (by omega) hs5 (Nat.le_refl _), HB5.out⟩
end Go.Proofs.Ytcpbgjnijhcpkaa

namespace Go.Proofs.Ytcpbgjnijhcpkaa
open Go.RowKit
set_option linter.unusedVariables false
set_option maxRecDepth 100000

def checkedF (f : FormD) : FormD × Bool := if validForm f then (f, true) else (⟨0, []⟩, false)
set_option maxHeartbeats 1000000 in
set_option maxRecDepth 100000 in
theorem l05Give_any (w : World) {l h : Nat} (v : Value) (f : FormD) (hv : FormR w l h v f) (hh : h ≤ w.heap.size) :
    Calls Try.prog 102 #[v] w fun e w' => ∃ r, e = .returned (.tuple #[r, .bool (validForm f)]) ∧ (validForm f = true → r = v) ∧ (validForm f = false → r = .agg #[.int .i64 0, .slice none 0 0]) ∧ Below w.heap.size w w' := by
  obtain ⟨u, rfl, hu⟩ := hv.ex
  have kL := hv.rng
  obtain ⟨a0, cap0, V0, e0, _⟩ := hu.out
  subst e0
  obtain ⟨W1, hW1⟩ : ∃ W, W = w.alloc (.cells #[.int .i64 f.letters, .slice a0 f.clauses.length cap0] 26) := ⟨_, rfl⟩
  obtain ⟨W, hW⟩ : ∃ W, W = W1.alloc (.cells #[.int .i64 0, .slice none 0 0] 26) := ⟨_, rfl⟩
  have hs1 : W1.heap.size = w.heap.size + 1 := by rw [hW1]; simp
  have hsW : W.heap.size = w.heap.size + 2 := by rw [hW]; simp [hs1]
  have hB1 : Below w.heap.size w W1 := by rw [hW1]; exact alloc_below _ _
  have hBW : Below w.heap.size w W := by rw [hW]; exact hB1.alloc (by omega) _
  have hbx : TwoC W w.heap.size 26 (.int .i64 f.letters) (.slice a0 f.clauses.length cap0) := by rw [hW]; refine TwoC.alloc ?_ _; rw [hW1]; exact TwoC.new _ _ _ _
  have hbr : TwoC W (w.heap.size + 1) 26 (.int .i64 0) (.slice none 0 0) := by rw [hW, ← hs1]; exact TwoC.new _ _ _ _
  have HU := Lib.hid (hu.below hBW hh)
  have HB := Lib.hid hbx
  have HR := Lib.hid hbr
  clear hbx hu hv hbr hB1
  go_enter Try.func102, Try.ntmps102
  go_wp2_with fail
  rw [← hW1, ← hW]
  clear hW hW1
  refine (l05Is_any W _ _ f HB.out.c0 HB.out.c1 (by omega) kL HU.out (by omega)).mono ?_
  rintro e w2 ⟨rfl, hb2⟩
  have hs2 := hb2.size
  have hbr2 := HR.out.below hb2 HR.out.lt
  have r0 := hbr2.c0
  have r1 := hbr2.c1
  have g0 := hbr2.f0
  have g1 := hbr2.f1
  have hbx2 := HB.out.below hb2 HB.out.lt
  have q0 := hbx2.c0
  have q1 := hbx2.c1
  clear hbr2 hbx2
  cases hval : validForm f
  · go_wp2_with fail
    refine bodyPost_ret (v := .tuple #[.agg #[.int .i64 0, .slice none 0 0], .bool false]) (by simp [results, Try.results102, go_sem, r0, r1]) rfl ⟨_, by rw [hval], (fun h => by rw [hval] at h; cases h), fun _ => rfl, ?_⟩
    exact ((hBW.trans (hb2.mono hBW.size)).setCell (by simp) _).setCell (by simp) _
  · go_wp2_with fail
    refine bodyPost_ret (v := .tuple #[.agg #[.int .i64 f.letters, .slice a0 f.clauses.length cap0], .bool true]) (by simp [results, Try.results102, go_sem, r0, r1]) rfl ⟨_, by rw [hval], fun _ => rfl, (fun h => by rw [hval] at h; cases h), ?_⟩
    exact ((hBW.trans (hb2.mono hBW.size)).setCell (by simp) _).setCell (by simp) _
set_option maxHeartbeats 1000000 in
set_option maxRecDepth 100000 in
theorem checked_any (w : World) {l h : Nat} (v : Value) (f : FormD) (hv : FormR w l h v f) (hh : h ≤ w.heap.size) (hz : SmallII f.clauses) :
    Calls Try.prog 95 #[v] w fun e w' => ∃ r, e = .returned (.tuple #[r, .bool (validForm f)]) ∧ (validForm f = true → r = v) ∧ (validForm f = false → r = .agg #[.int .i64 0, .slice none 0 0]) ∧ Below w.heap.size w w' := by
  obtain ⟨u, rfl, hu⟩ := hv.ex
  have kL := hv.rng
  obtain ⟨a0, cap0, V0, e0, _⟩ := hu.out
  subst e0
  obtain ⟨W1, hW1⟩ : ∃ W, W = w.alloc (.cells #[.int .i64 f.letters, .slice a0 f.clauses.length cap0] 26) := ⟨_, rfl⟩
  obtain ⟨W, hW⟩ : ∃ W, W = W1.alloc (.cells #[.int .i64 0, .slice none 0 0] 26) := ⟨_, rfl⟩
  have hs1 : W1.heap.size = w.heap.size + 1 := by rw [hW1]; simp
  have hsW : W.heap.size = w.heap.size + 2 := by rw [hW]; simp [hs1]
  have hB1 : Below w.heap.size w W1 := by rw [hW1]; exact alloc_below _ _
  have hBW : Below w.heap.size w W := by rw [hW]; exact hB1.alloc (by omega) _
  have hbx : TwoC W w.heap.size 26 (.int .i64 f.letters) (.slice a0 f.clauses.length cap0) := by rw [hW]; refine TwoC.alloc ?_ _; rw [hW1]; exact TwoC.new _ _ _ _
  have hbr : TwoC W (w.heap.size + 1) 26 (.int .i64 0) (.slice none 0 0) := by rw [hW, ← hs1]; exact TwoC.new _ _ _ _
  have HF := Lib.hid (hv.below hBW hh)
  have HB := Lib.hid hbx
  have HR := Lib.hid hbr
  have HZ := Lib.hid hz
  have q0 := hbx.c0
  have q1 := hbx.c1
  clear hu hv hbr hB1 hbx hz
  go_enter Try.func95, Try.ntmps95
  go_wp2_with fail
  rw [← hW1, ← hW]
  clear hW hW1
  go_wp2_with fail
  refine (implValidForm_any W _ _ HF.out (by omega) HZ.out).mono ?_
  rintro e w2 ⟨rfl, hb2⟩
  clear q0 q1
  have hs2 := hb2.size
  have hbr2 := HR.out.below hb2 HR.out.lt
  have r0 := hbr2.c0
  have r1 := hbr2.c1
  have g0 := hbr2.f0
  have g1 := hbr2.f1
  have hbx2 := HB.out.below hb2 HB.out.lt
  have q0 := hbx2.c0
  have q1 := hbx2.c1
  clear hbr2 hbx2
  cases hval : validForm f
  · go_wp2_with fail
    refine bodyPost_ret (v := .tuple #[.agg #[.int .i64 0, .slice none 0 0], .bool false]) (by simp [results, Try.results95, go_sem, r0, r1]) rfl ⟨_, by rw [hval], (fun h => by rw [hval] at h; cases h), fun _ => rfl, ?_⟩
    exact ((hBW.trans (hb2.mono hBW.size)).setCell (by simp) _).setCell (by simp) _
  · go_wp2_with fail
    refine bodyPost_ret (v := .tuple #[.agg #[.int .i64 f.letters, .slice a0 f.clauses.length cap0], .bool true]) (by simp [results, Try.results95, go_sem, r0, r1]) rfl ⟨_, by rw [hval], fun _ => rfl, (fun h => by rw [hval] at h; cases h), ?_⟩
    exact ((hBW.trans (hb2.mono hBW.size)).setCell (by simp) _).setCell (by simp) _
end Go.Proofs.Ytcpbgjnijhcpkaa

namespace Go.Proofs.Ytcpbgjnijhcpkaa
open Go.RowKit
set_option linter.unusedVariables false
set_option maxRecDepth 100000

def leaveKeep (x : Int) (cs : List (List Int)) (n : Nat) : List (List Int) := (cs.take n).filter fun c => !hasI c x && !hasI c (-x)
def leavePair (x : Int) (a b : List Int) : List (List Int) := if hasI b (-x) && (resolveN a b x).2 then [(resolveN a b x).1] else []
def leaveRow (x : Int) (a : List Int) (cs : List (List Int)) (m : Nat) : List (List Int) := (cs.take m).flatMap (leavePair x a)
def leaveRows (x : Int) (cs : List (List Int)) (n : Nat) : List (List Int) := (cs.take n).flatMap fun a => if hasI a x then leaveRow x a cs cs.length else []
def leaveAll (x : Int) (cs : List (List Int)) : List (List Int) := leaveKeep x cs cs.length ++ leaveRows x cs cs.length
def leaveF (f : FormD) (x : Int) : FormD × Bool := if validForm f && inB 1 f.letters x then checkedF ⟨f.letters, leaveAll x f.clauses⟩ else (⟨0, []⟩, false)
theorem leave_no {f : FormD} {x : Int} (h : (validForm f && inB 1 f.letters x) = false) : leaveF f x = (⟨0, []⟩, false) := by rw [leaveF, h]; rfl
theorem leave_yes {f : FormD} {x : Int} (h : (validForm f && inB 1 f.letters x) = true) : leaveF f x = checkedF ⟨f.letters, leaveAll x f.clauses⟩ := by rw [leaveF, h]; rfl
section
variable {x : Int} {cs : List (List Int)} {a : List Int} {n : Nat}
theorem keep_no (hn : n < cs.length) (h : (!hasI cs[n] x && !hasI cs[n] (-x)) = false) : leaveKeep x cs (n + 1) = leaveKeep x cs n := by
  rw [leaveKeep, List.take_succ_eq_append_getElem hn, List.filter_append]; simp only [List.filter_cons, h, List.filter_nil]; simp [leaveKeep]
theorem keep_yes (hn : n < cs.length) (h : (!hasI cs[n] x && !hasI cs[n] (-x)) = true) : leaveKeep x cs (n + 1) = leaveKeep x cs n ++ [cs[n]] := by
  rw [leaveKeep, List.take_succ_eq_append_getElem hn, List.filter_append]; simp only [List.filter_cons, h, List.filter_nil]; simp [leaveKeep]
theorem row_succ (hn : n < cs.length) : leaveRow x a cs (n + 1) = leaveRow x a cs n ++ leavePair x a cs[n] := by
  rw [leaveRow, List.take_succ_eq_append_getElem hn, List.flatMap_append]; simp [leaveRow]
theorem rows_succ (hn : n < cs.length) : leaveRows x cs (n + 1) = leaveRows x cs n ++ (if hasI cs[n] x then leaveRow x cs[n] cs cs.length else []) := by
  rw [leaveRows, List.take_succ_eq_append_getElem hn, List.flatMap_append]; simp [leaveRows]
theorem rows_no (hn : n < cs.length) (h : hasI cs[n] x = false) : leaveRows x cs (n + 1) = leaveRows x cs n := by rw [rows_succ hn, h]; simp
theorem rows_yes (hn : n < cs.length) (h : hasI cs[n] x = true) : leaveRows x cs (n + 1) = leaveRows x cs n ++ leaveRow x cs[n] cs cs.length := by rw [rows_succ hn, h]; rfl
theorem pair_no {b : List Int} (h : hasI b (-x) = false) : leavePair x a b = [] := by rw [leavePair, h]; rfl
theorem pair_none {b : List Int} (h : (resolveN a b x).2 = false) : leavePair x a b = [] := by rw [leavePair, h, Bool.and_false]; rfl
theorem pair_yes {b : List Int} (h : hasI b (-x) = true) (h2 : (resolveN a b x).2 = true) : leavePair x a b = [(resolveN a b x).1] := by rw [leavePair, h, h2]; rfl
end
theorem sum_le {K : Nat} {l : List (List Int)} (h : ∀ c ∈ l, c.length ≤ K) : (l.map List.length).sum ≤ K * l.length := by
  induction l with
  | nil => simp
  | cons a r ih =>
    have h1 := h a (by simp)
    have h2 := ih fun c hc => h c (by simp [hc])
    rw [List.map_cons, List.sum_cons, List.length_cons, Nat.mul_succ]
    omega
/-- rows that are short, and not too many -/
def Few (n : Nat) (l : List (List Int)) : Prop := l.length ≤ n ∧ ∀ c ∈ l, c.length ≤ 20
theorem Few.sum {n : Nat} {l : List (List Int)} (h : Few n l) (hn : n ≤ 10000) : (l.map List.length).sum ≤ 200000 := by
  have h1 := sum_le h.2
  have h2 := h.1
  omega
theorem Few.app {n m : Nat} {l r : List (List Int)} (h : Few n l) (k : Few m r) : Few (n + m) (l ++ r) := by
  refine ⟨by rw [List.length_append]; have := h.1; have := k.1; omega, fun c hc => ?_⟩
  rcases List.mem_append.1 hc with hc | hc
  · exact h.2 c hc
  · exact k.2 c hc
theorem Few.mono {n m : Nat} {l : List (List Int)} (h : Few n l) (hm : n ≤ m) : Few m l := ⟨Nat.le_trans h.1 hm, h.2⟩
theorem Few.small {n : Nat} {l : List (List Int)} (h : Few n l) (hn : n ≤ 10000) : SmallII l := ⟨by have := h.1; omega, by have := h.sum hn; omega⟩
section
variable {L x : Int} {cs : List (List Int)} {a : List Int}
theorem keep_few (n : Nat) (h48 : cs.length ≤ 48) (hc : ∀ c ∈ cs, isClause L c = true) : Few 48 (leaveKeep x cs n) := by
  refine ⟨?_, fun c h => ?_⟩
  · have h1 := List.length_filter_le (fun c => !hasI c x && !hasI c (-x)) (cs.take n)
    rw [List.length_take] at h1
    unfold leaveKeep; omega
  · rw [leaveKeep, List.mem_filter] at h
    have hm := List.mem_of_mem_take h.1
    have := (cons_clause (hc c hm)).len (inB_true (clause_in (hc c hm))).2
    omega
theorem pair_few {b : List Int} (hx : 1 ≤ x) (ha : isClause L a = true) (hb : isClause L b = true) (hxa : hasI a x = true) : Few 1 (leavePair x a b) := by
  rw [leavePair]
  split
  · rename_i h
    rw [Bool.and_eq_true] at h
    refine ⟨by simp, fun c hc => ?_⟩
    rw [List.mem_singleton] at hc
    subst hc
    have hcl : clash a b x = true := by rw [clash, hxa, h.1]; rfl
    have h18 := clash_len hx ha hb hcl
    have h2 := h.2
    rw [resolveN, hcl, if_pos rfl, resolve_eq ha hb] at h2 ⊢
    split
    · rw [insUp_len]; omega
    · simp
  · exact ⟨by simp, by simp⟩
theorem row_few (hx : 1 ≤ x) (ha : isClause L a = true) (hc : ∀ c ∈ cs, isClause L c = true) (hxa : hasI a x = true) (n : Nat) (hn : n ≤ cs.length) : Few n (leaveRow x a cs n) := by
  induction n with
  | zero => exact ⟨by simp [leaveRow], by simp [leaveRow]⟩
  | succ n ih =>
    rw [row_succ (by omega)]
    exact (ih (by omega)).app (pair_few hx ha (hc _ (List.getElem_mem _)) hxa)
theorem rows_few (hx : 1 ≤ x) (h48 : cs.length ≤ 48) (hc : ∀ c ∈ cs, isClause L c = true) (n : Nat) (hn : n ≤ cs.length) : Few (48 * n) (leaveRows x cs n) := by
  induction n with
  | zero => exact ⟨by simp [leaveRows], by simp [leaveRows]⟩
  | succ n ih =>
    rw [rows_succ (by omega)]
    refine ((ih (by omega)).app (m := 48) ?_).mono (by omega)
    split
    · rename_i h
      exact (row_few hx (hc _ (List.getElem_mem _)) hc h _ (Nat.le_refl _)).mono h48
    · exact ⟨by simp, by simp⟩
/-- all that can lie there on the way -/
theorem way_few (hx : 1 ≤ x) (h48 : cs.length ≤ 48) (hc : ∀ c ∈ cs, isClause L c = true) (ha : isClause L a = true) (hxa : hasI a x = true) {n m : Nat} (hn : n ≤ cs.length) (hm : m ≤ cs.length) : Few 2400 (leaveKeep x cs cs.length ++ leaveRows x cs n ++ leaveRow x a cs m) := by
  refine (((keep_few cs.length h48 hc).app (rows_few hx h48 hc n hn)).app (row_few hx ha hc hxa m hm)).mono ?_
  omega
theorem all_few (hx : 1 ≤ x) (h48 : cs.length ≤ 48) (hc : ∀ c ∈ cs, isClause L c = true) : Few 2400 (leaveAll x cs) :=
  ((keep_few cs.length h48 hc).app (rows_few hx h48 hc cs.length (Nat.le_refl _))).mono (by omega)
/-- the two ways agree -/
theorem res_clash {b : List Int} (hxa : hasI a x = true) (hb : hasI b (-x) = true) : clash a b x = true := by rw [clash, hxa, hb]; rfl
theorem resS_eq {b : List Int} (ha : isClause L a = true) (hb : isClause L b = true) (hcl : clash a b x = true) : resolveN a b x = if isClause L (resS x a b) then (resS x a b, true) else ([], false) := by
  rw [resolveN, hcl, if_pos rfl, resolve_eq ha hb]; rfl
end
/-! ### How far the two loops have come -/
def leaveMid (x : Int) (cs : List (List Int)) (i : Nat) : List (List Int) := leaveKeep x cs cs.length ++ leaveRows x cs i
def leaveWay (x : Int) (cs : List (List Int)) (i : Nat) (a : List Int) (k : Nat) : List (List Int) := leaveMid x cs i ++ (if hasI a x then leaveRow x a cs k else [])
section
variable {L x : Int} {cs : List (List Int)} {a R : List Int} {i k : Nat}
theorem leaveMid_zero : leaveMid x cs 0 = leaveKeep x cs cs.length := by simp [leaveMid, leaveRows]
theorem leaveMid_all : leaveMid x cs cs.length = leaveAll x cs := rfl
theorem leaveWay_zero : leaveWay x cs i a 0 = leaveMid x cs i := by simp [leaveWay, leaveRow]
theorem mid_no (hi : i < cs.length) (h : hasI cs[i] x = false) : leaveMid x cs (i + 1) = leaveMid x cs i := by rw [leaveMid, rows_no hi h]; rfl
theorem leaveWay_end (hi : i < cs.length) : leaveWay x cs i cs[i] cs.length = leaveMid x cs (i + 1) := by rw [leaveWay, leaveMid, leaveMid, rows_succ hi, List.append_assoc]
theorem leaveWay_noA (h : hasI a x = false) : leaveWay x cs i a (k + 1) = leaveWay x cs i a k := by rw [leaveWay, leaveWay, h]; rfl
theorem leaveWay_noB (hk : k < cs.length) (h : hasI cs[k] (-x) = false) : leaveWay x cs i a (k + 1) = leaveWay x cs i a k := by
  rw [leaveWay, leaveWay, row_succ hk, pair_no h, List.append_nil]
theorem leaveWay_none (hk : k < cs.length) (h : (resolveN a cs[k] x).2 = false) : leaveWay x cs i a (k + 1) = leaveWay x cs i a k := by
  rw [leaveWay, leaveWay, row_succ hk, pair_none h, List.append_nil]
theorem leaveWay_put (hk : k < cs.length) (ha : hasI a x = true) (hb : hasI cs[k] (-x) = true) (h : resolveN a cs[k] x = (R, true)) : leaveWay x cs i a (k + 1) = leaveWay x cs i a k ++ [R] := by
  rw [leaveWay, leaveWay, row_succ hk, pair_yes hb (by rw [h]), h, ha, if_pos rfl, if_pos rfl, List.append_assoc]
theorem leaveWay_few (hx : 1 ≤ x) (h48 : cs.length ≤ 48) (hc : ∀ c ∈ cs, isClause L c = true) (ha : isClause L a = true) (hi : i ≤ cs.length) (hk : k ≤ cs.length) : Few 2400 (leaveWay x cs i a k) := by
  rw [leaveWay, leaveMid]
  split
  · rename_i h
    exact way_few hx h48 hc ha h hi hk
  · rw [List.append_nil]
    exact ((keep_few cs.length h48 hc).app (rows_few hx h48 hc i hi)).mono (by omega)
end
end Go.Proofs.Ytcpbgjnijhcpkaa

namespace Go.Proofs.Ytcpbgjnijhcpkaa
open Go.RowKit
set_option linter.unusedVariables false
set_option maxRecDepth 100000

theorem len_subset {l1 l2 : List Int} (hd : l1.Pairwise (fun a b => a ≠ b)) (hs : ∀ a ∈ l1, a ∈ l2) : l1.length ≤ l2.length := by
  induction l1 generalizing l2 with
  | nil => exact Nat.zero_le _
  | cons a r ih =>
    rw [List.pairwise_cons] at hd
    have ha := hs a (List.mem_cons_self ..)
    have := ih (l2 := l2.erase a) hd.2 (fun b hb => (List.mem_erase_of_ne (fun e => hd.1 b hb e.symm)).2 (hs b (List.mem_cons_of_mem _ hb)))
    rw [List.length_erase_of_mem ha] at this
    have h2 : 0 < l2.length := List.length_pos_of_mem ha
    simp only [List.length_cons]; omega
theorem part_iff {xs bs : List Int} : isPart xs bs = true ↔ ∀ y ∈ xs, y ∈ bs := by
  unfold isPart
  rw [List.all_eq_true]
  exact ⟨fun h y hy => (hasI_iff _ _).1 (h y hy), fun h y hy => (hasI_iff _ _).2 (h y hy)⟩
theorem clause_nodup {L : Int} {c : List Int} (h : isClause L c = true) : c.Pairwise (fun a b => a ≠ b) := (clause_ris h).imp fun hab e => by rw [e] at hab; omega
theorem thin_same {L : Int} {bs : List Bool} {cs : List (List Int)} (hc : ∀ c ∈ cs, isClause L c = true) : formTrue bs (thinTo cs cs.length) = formTrue bs cs := by
  rw [Bool.eq_iff_iff, form_allP, form_allP]
  constructor
  · intro h
    have key : ∀ m i, (hi : i < cs.length) → cs[i].length * (cs.length + 1) + i = m → clauseTrue bs cs[i] = true := by
      intro m
      induction m using Nat.strongRecOn with
      | _ m ih =>
        intro i hi hm
        cases ht : thinAny cs i cs.length with
        | false =>
          refine h _ ?_
          unfold thinTo
          rw [List.mem_map]
          exact ⟨i, List.mem_filter.2 ⟨List.mem_range.2 hi, by rw [ht]; rfl⟩, getD_get hi⟩
        | true =>
          unfold thinAny at ht
          rw [List.any_eq_true] at ht
          obtain ⟨k, hk, hkt⟩ := ht
          rw [List.mem_range] at hk
          by_cases hki : k = i
          · rw [told_same hki] at hkt; cases hkt
          rw [told_apart hi hk hki, Bool.and_eq_true, Bool.or_eq_true, decide_eq_true_eq, decide_eq_true_eq] at hkt
          have hp := part_iff.1 hkt.1
          have hle := len_subset (clause_nodup (hc _ (List.getElem_mem hk))) hp
          have hlt : cs[k].length * (cs.length + 1) + k < m := by
            rw [← hm]
            rcases Nat.lt_or_ge cs[k].length cs[i].length with h1 | h1
            · have : cs[k].length * (cs.length + 1) + (cs.length + 1) ≤ cs[i].length * (cs.length + 1) := by
                rw [← Nat.succ_mul]; exact Nat.mul_le_mul_right _ h1
              omega
            · have e : cs[k].length = cs[i].length := by omega
              rw [e]; omega
          have := ih _ hlt k hk rfl
          rw [clause_any] at this ⊢
          obtain ⟨y, hy, hyt⟩ := this
          exact ⟨y, hp y hy, hyt⟩
    intro c hcm
    obtain ⟨i, hi, rfl⟩ := List.mem_iff_getElem.1 hcm
    exact key _ i hi rfl
  · intro h c hcm
    unfold thinTo at hcm
    rw [List.mem_map] at hcm
    obtain ⟨i, hi, rfl⟩ := hcm
    have hi' := List.mem_range.1 (List.mem_filter.1 hi).1
    rw [getD_get hi']
    exact h _ (List.getElem_mem hi')
/-! ### a form without a letter -/
theorem clause_litN {L n : Nat} {c : List Int} : clauseTrue (valuesN L n) c = true ↔ ∃ y ∈ c, litN L n y = true := clause_any
theorem no_both {L : Int} {c : List Int} {y z : Int} (h : isClause L c = true) (hy : y ∈ c) (hz : z ∈ c) (hne : y ≠ z) : absI y ≠ absI z :=
  pairwise_mem (fun _ _ h => Ne.symm h) (clause_ris h).dist y hy z hz hne
theorem absI_cases {y : Int} {x : Nat} (h : absI y = (x : Int)) : y = (x : Int) ∨ y = -(x : Int) := by unfold absI at h; split at h <;> omega
theorem absI_of_nat (x : Nat) : absI (x : Int) = (x : Int) := by unfold absI; rw [if_neg (by omega)]
theorem absI_of_neg (x : Nat) : absI (-(x : Int)) = (x : Int) := by unfold absI; split <;> omega
theorem litN_same {L x n : Nat} {y : Int} (hx1 : 1 ≤ x) (hx2 : x ≤ L) (h1 : 0 < absI y ∧ absI y ≤ (L : Int)) (h : absI y ≠ (x : Int)) : litN L (flip L x n) y = litN L n y := by
  rw [litN_flip hx1 hx2 h1.1 h1.2, decide_eq_false h]; cases litN L n y <;> rfl
theorem res_mem {L : Int} {a b : List Int} {x : Int} (ha : isClause L a = true) (hb : isClause L b = true) (y : Int) : y ∈ resS x a b ↔ (y ∈ a ∨ y ∈ b) ∧ absI y ≠ x := by
  have hp := insUp_perm ltL (resD x a b) (resD x a b).length (Nat.le_refl _)
  have e : y ∈ resS x a b ↔ y ∈ resD x a b := hp.mem_iff
  rw [e, resD_eq (clause_ris ha).dist (clause_ris hb).dist, List.mem_append, outOfL, List.mem_filter, List.mem_filter, Bool.and_eq_true, decide_eq_true_eq, Bool.not_eq_true']
  constructor
  · rintro (⟨h1, h2⟩ | ⟨h1, h2, _⟩)
    · exact ⟨.inl h1, h2⟩
    · exact ⟨.inr h1, h2⟩
  · rintro ⟨h1, h2⟩
    by_cases hya : y ∈ a
    · exact .inl ⟨hya, h2⟩
    · rcases h1 with h1 | h1
      · exact absurd h1 hya
      · refine .inr ⟨h1, h2, ?_⟩
        rw [hasI_false]
        intro h3
        exact hya (List.mem_filter.1 h3).1
theorem res_none {L : Int} {a b : List Int} {x : Int} (ha : isClause L a = true) (hb : isClause L b = true) (hcl : clash a b x = true) (h : (resolveN a b x).2 = false) : ∃ y ∈ b, absI y ≠ x ∧ -y ∈ a := by
  have hra := clause_ris ha
  have hro : Ris (outOfL x a) := List.Pairwise.sublist List.filter_sublist hra
  by_cases hc : Conf x (outOfL x a) b
  · obtain ⟨y, h1, h2, h3⟩ := hc
    exact ⟨y, h1, h2, (List.mem_filter.1 h3).1⟩
  · exfalso
    rw [resolveN, if_pos hcl, joinAll_no x b _ hro (clause_ris hb).dist hc] at h
    cases h
theorem leave_mem {x : Int} {cs : List (List Int)} {d : List Int} : d ∈ leaveAll x cs ↔ (d ∈ cs ∧ x ∉ d ∧ -x ∉ d) ∨ ∃ a ∈ cs, ∃ b ∈ cs, x ∈ a ∧ -x ∈ b ∧ (resolveN a b x).2 = true ∧ d = (resolveN a b x).1 := by
  unfold leaveAll leaveKeep leaveRows
  rw [List.mem_append, List.take_length, List.mem_filter, Bool.and_eq_true, Bool.not_eq_true', Bool.not_eq_true', hasI_false, hasI_false, List.mem_flatMap]
  refine or_congr Iff.rfl ⟨?_, ?_⟩
  · rintro ⟨a, ha, hd⟩
    split at hd
    · rename_i hxa
      unfold leaveRow at hd
      rw [List.take_length, List.mem_flatMap] at hd
      obtain ⟨b, hb, hd⟩ := hd
      unfold leavePair at hd
      split at hd
      · rename_i h
        rw [Bool.and_eq_true] at h
        exact ⟨a, ha, b, hb, (hasI_iff _ _).1 hxa, (hasI_iff _ _).1 h.1, h.2, List.mem_singleton.1 hd⟩
      · simp at hd
    · simp at hd
  · rintro ⟨a, ha, b, hb, h1, h2, h3, rfl⟩
    refine ⟨a, ha, ?_⟩
    rw [if_pos ((hasI_iff _ _).2 h1)]
    unfold leaveRow
    rw [List.take_length, List.mem_flatMap]
    refine ⟨b, hb, ?_⟩
    rw [pair_yes ((hasI_iff _ _).2 h2) h3]
    exact List.mem_singleton.2 rfl
theorem leave_models {L x n : Nat} {cs : List (List Int)} (hc : ∀ c ∈ cs, isClause (L : Int) c = true) (hx1 : 1 ≤ x) (hx2 : x ≤ L) :
    formTrue (valuesN L n) (leaveAll (x : Int) cs) = (formTrue (valuesN L n) cs || formTrue (valuesN L (flip L x n)) cs) := by
  have hl : ∀ c ∈ cs, ∀ y ∈ c, 0 < absI y ∧ absI y ≤ (L : Int) := fun c h => lits_of_clause rfl (hc c h)
  have hxl : 0 < absI (x : Int) ∧ absI (x : Int) ≤ (L : Int) := by rw [absI_of_nat]; omega
  have hclash : ∀ a b, (x : Int) ∈ a → -(x : Int) ∈ b → clash a b (x : Int) = true := fun a b h1 h2 => res_clash ((hasI_iff _ _).2 h1) ((hasI_iff _ _).2 h2)
  have hres : ∀ a ∈ cs, ∀ b ∈ cs, (x : Int) ∈ a → -(x : Int) ∈ b → (resolveN a b x).2 = true → (resolveN a b x).1 = resS (x : Int) a b := by
    intro a ha b hb h1 h2 h3
    rw [resS_eq (hc a ha) (hc b hb) (hclash a b h1 h2)] at h3 ⊢
    split at h3
    · rename_i h; rw [if_pos h]
    · cases h3
  have hsame : ∀ e, e = n ∨ e = flip L x n → ∀ y, 0 < absI y ∧ absI y ≤ (L : Int) → absI y ≠ (x : Int) → litN L e y = litN L n y := by
    rintro e (rfl | rfl) y h1 h2
    · rfl
    · exact litN_same hx1 hx2 h1 h2
  rw [Bool.eq_iff_iff, Bool.or_eq_true]
  constructor
  · intro h
    rw [form_allP] at h
    -- the two values
    obtain ⟨n0, n1, h0, h1, hl0, hl1, hor⟩ : ∃ n0 n1, (n0 = n ∨ n0 = flip L x n) ∧ (n1 = n ∨ n1 = flip L x n) ∧ litN L n0 (x : Int) = false ∧ litN L n1 (x : Int) = true ∧
        ((formTrue (valuesN L n0) cs = true ∨ formTrue (valuesN L n1) cs = true) → (formTrue (valuesN L n) cs = true ∨ formTrue (valuesN L (flip L x n)) cs = true)) := by
      have hf := litN_flip (n := n) hx1 hx2 hxl.1 hxl.2
      rw [absI_of_nat, decide_eq_true rfl] at hf
      cases hb : litN L n (x : Int) with
      | false => rw [hb] at hf; exact ⟨n, flip L x n, .inl rfl, .inr rfl, hb, hf, id⟩
      | true => rw [hb] at hf; exact ⟨flip L x n, n, .inr rfl, .inl rfl, hf, hb, Or.symm⟩
    apply hor
    cases hm0 : formTrue (valuesN L n0) cs with
    | true => exact .inl rfl
    | false =>
      cases hm1 : formTrue (valuesN L n1) cs with
      | true => exact .inr rfl
      | false =>
        exfalso
        have hfalse : ∀ e, formTrue (valuesN L e) cs = false → ∃ a ∈ cs, ∀ y ∈ a, litN L e y = false := by
          intro e he
          have : ¬ ∀ c ∈ cs, clauseTrue (valuesN L e) c = true := fun hh => by rw [form_allP.2 hh] at he; cases he
          simp only [Classical.not_forall] at this
          obtain ⟨a, ha, hna⟩ := this
          refine ⟨a, ha, fun y hy => ?_⟩
          cases hyv : litN L e y with
          | false => rfl
          | true => exact absurd (clause_litN.2 ⟨y, hy, hyv⟩) hna
        obtain ⟨a, ha, hfa⟩ := hfalse n0 hm0
        obtain ⟨b, hb, hfb⟩ := hfalse n1 hm1
        have hxn0 : litN L n0 (-(x : Int)) = true := by rw [litN_neg hxl.1 hxl.2, hl0]; rfl
        have hxa : (x : Int) ∈ a := by
          apply Classical.byContradiction
          intro hna
          have hnx : -(x : Int) ∉ a := fun hh => by rw [hfa _ hh] at hxn0; cases hxn0
          have := h a (leave_mem.2 (.inl ⟨ha, hna, hnx⟩))
          obtain ⟨y, hy, hyt⟩ := clause_litN.1 this
          have hne : absI y ≠ (x : Int) := fun e => by rcases absI_cases e with rfl | rfl; exact hna hy; exact hnx hy
          have e := hsame n0 h0 y (hl a ha y hy) hne
          rw [hfa y hy] at e; rw [← e] at hyt; cases hyt
        have hxb : -(x : Int) ∈ b := by
          apply Classical.byContradiction
          intro hnx
          have hna : (x : Int) ∉ b := fun hh => by rw [hfb _ hh] at hl1; cases hl1
          have := h b (leave_mem.2 (.inl ⟨hb, hna, hnx⟩))
          obtain ⟨y, hy, hyt⟩ := clause_litN.1 this
          have hne : absI y ≠ (x : Int) := fun e => by rcases absI_cases e with rfl | rfl; exact hna hy; exact hnx hy
          have e := hsame n1 h1 y (hl b hb y hy) hne
          rw [hfb y hy] at e; rw [← e] at hyt; cases hyt
        cases hr : (resolveN a b (x : Int)).2 with
        | true =>
          have := h _ (leave_mem.2 (.inr ⟨a, ha, b, hb, hxa, hxb, hr, rfl⟩))
          rw [hres a ha b hb hxa hxb hr] at this
          obtain ⟨y, hy, hyt⟩ := clause_litN.1 this
          obtain ⟨hy1, hy2⟩ := (res_mem (hc a ha) (hc b hb) y).1 hy
          rcases hy1 with hy1 | hy1
          · have e := hsame n0 h0 y (hl a ha y hy1) hy2
            rw [hfa y hy1] at e; rw [← e] at hyt; cases hyt
          · have e := hsame n1 h1 y (hl b hb y hy1) hy2
            rw [hfb y hy1] at e; rw [← e] at hyt; cases hyt
        | false =>
          obtain ⟨y, hy1, hy2, hy3⟩ := res_none (hc a ha) (hc b hb) (hclash a b hxa hxb) hr
          have g := hl b hb y hy1
          have e0 := hsame n0 h0 y g hy2
          have e1 := hsame n1 h1 y g hy2
          rw [hfb y hy1] at e1
          have g2 := hfa _ hy3
          rw [litN_neg g.1 g.2, e0, ← e1] at g2
          cases g2
  · intro hM
    obtain ⟨e, he, hme⟩ : ∃ e, (e = n ∨ e = flip L x n) ∧ formTrue (valuesN L e) cs = true := by
      rcases hM with hM | hM
      · exact ⟨n, .inl rfl, hM⟩
      · exact ⟨_, .inr rfl, hM⟩
    rw [form_allP] at hme ⊢
    intro d hd
    rcases leave_mem.1 hd with ⟨h1, h2, h3⟩ | ⟨a, ha, b, hb, h1, h2, h3, rfl⟩
    · obtain ⟨y, hy, hyt⟩ := clause_litN.1 (hme d h1)
      have hne : absI y ≠ (x : Int) := fun e => by rcases absI_cases e with rfl | rfl; exact h2 hy; exact h3 hy
      exact clause_litN.2 ⟨y, hy, by rw [← hsame e he y (hl d h1 y hy) hne]; exact hyt⟩
    · rw [hres a ha b hb h1 h2 h3]
      cases hv : litN L e (x : Int) with
      | false =>
        obtain ⟨y, hy, hyt⟩ := clause_litN.1 (hme a ha)
        have hyx : y ≠ (x : Int) := fun q => by rw [q, hv] at hyt; cases hyt
        have hne : absI y ≠ (x : Int) := by have := no_both (hc a ha) hy h1 hyx; rwa [absI_of_nat] at this
        exact clause_litN.2 ⟨y, (res_mem (hc a ha) (hc b hb) y).2 ⟨.inl hy, hne⟩, by rw [← hsame e he y (hl a ha y hy) hne]; exact hyt⟩
      | true =>
        obtain ⟨y, hy, hyt⟩ := clause_litN.1 (hme b hb)
        have hyx : y ≠ -(x : Int) := fun q => by rw [q, litN_neg hxl.1 hxl.2, hv] at hyt; cases hyt
        have hne : absI y ≠ (x : Int) := by have := no_both (hc b hb) hy h2 hyx; rwa [absI_of_neg] at this
        exact clause_litN.2 ⟨y, (res_mem (hc a ha) (hc b hb) y).2 ⟨.inr hy, hne⟩, by rw [← hsame e he y (hl b hb y hy) hne]; exact hyt⟩
theorem leave_count {L x : Nat} {cs : List (List Int)} (hc : ∀ c ∈ cs, isClause (L : Int) c = true) (hx1 : 1 ≤ x) (hx2 : x ≤ L) :
    countN L (leaveAll (x : Int) cs) (2 ^ L) = 2 * freshN (onModels L cs) (onKey L (others L x)) (2 ^ L) := by
  rw [fresh_pairs hx1 hx2 _ _ (others_key hx1 hx2)]
  have e : countN L (leaveAll (x : Int) cs) (2 ^ L) = (List.range (2 ^ L)).countP (fun n => onModels L cs n || onModels L cs (flip L x n)) :=
    count_congr fun n hn => leave_models hc hx1 hx2
  rw [e, count_half (b := fun n => !later L x n) hx1 hx2 (fun n hn => by rw [flip_flip, Bool.or_comm]) (fun n hn => by rw [later_flip])]
end Go.Proofs.Ytcpbgjnijhcpkaa

namespace Go.Proofs.Ytcpbgjnijhcpkaa
open Go.RowKit
set_option linter.unusedVariables false
set_option maxRecDepth 100000

theorem give_mem {g : List Int} {cs : List (List Int)} {d : List Int} : d ∈ giveTo g cs cs.length ↔ ∃ c ∈ cs, giveDone g c = false ∧ d = giveRest g c := by
  unfold giveTo
  rw [List.take_length, List.mem_map]
  constructor
  · rintro ⟨c, hc, rfl⟩
    have := List.mem_filter.1 hc
    exact ⟨c, this.1, by simpa using this.2, rfl⟩
  · rintro ⟨c, hc, h, rfl⟩
    exact ⟨c, List.mem_filter.2 ⟨hc, by rw [h]; rfl⟩, rfl⟩
theorem done_one {y : Int} {c : List Int} : giveDone [y] c = true ↔ y ∈ c := by
  unfold giveDone
  rw [List.any_eq_true]
  constructor
  · rintro ⟨z, hz, h⟩
    have := (hasI_iff _ _).1 h
    rw [List.mem_singleton] at this
    rw [← this]; exact hz
  · intro h; exact ⟨y, h, (hasI_iff _ _).2 (List.mem_singleton.2 rfl)⟩
theorem rest_one {y z : Int} {c : List Int} : z ∈ giveRest [y] c ↔ z ∈ c ∧ z ≠ -y := by
  unfold giveRest
  rw [List.mem_filter, Bool.not_eq_true', hasI_false, List.mem_singleton]
  constructor
  · rintro ⟨h1, h2⟩; exact ⟨h1, by omega⟩
  · rintro ⟨h1, h2⟩; exact ⟨h1, by omega⟩
/-- the literal of letter x -/
def IsLet (x : Nat) (y : Int) : Prop := y = (x : Int) ∨ y = -(x : Int)
theorem IsLet.abs {x : Nat} {y : Int} (h : IsLet x y) : absI y = (x : Int) := by
  rcases h with rfl | rfl
  · exact absI_of_nat x
  · exact absI_of_neg x
theorem give_same {L x n : Nat} {y : Int} {cs : List (List Int)} (hc : ∀ c ∈ cs, isClause (L : Int) c = true) (hx1 : 1 ≤ x) (hx2 : x ≤ L) (hy : IsLet x y) :
    formTrue (valuesN L (flip L x n)) (giveTo [y] cs cs.length) = formTrue (valuesN L n) (giveTo [y] cs cs.length) := by
  have hl : ∀ c ∈ cs, ∀ z ∈ c, 0 < absI z ∧ absI z ≤ (L : Int) := fun c h => lits_of_clause rfl (hc c h)
  have key : ∀ d ∈ giveTo [y] cs cs.length, clauseTrue (valuesN L (flip L x n)) d = clauseTrue (valuesN L n) d := by
    intro d hd
    obtain ⟨c, hcm, hdn, rfl⟩ := give_mem.1 hd
    rw [Bool.eq_iff_iff, clause_litN, clause_litN]
    have : ∀ z ∈ giveRest [y] c, litN L (flip L x n) z = litN L n z := by
      intro z hz
      obtain ⟨hz1, hz2⟩ := rest_one.1 hz
      refine litN_same hx1 hx2 (hl c hcm z hz1) fun e => ?_
      have hzy : z ≠ y := fun q => by rw [q] at hz1; rw [done_one.2 hz1] at hdn; cases hdn
      rcases absI_cases e with h1 | h1 <;> rcases hy with h2 | h2 <;> omega
    constructor
    · rintro ⟨z, hz, ht⟩; exact ⟨z, hz, by rw [← this z hz]; exact ht⟩
    · rintro ⟨z, hz, ht⟩; exact ⟨z, hz, by rw [this z hz]; exact ht⟩
  rw [Bool.eq_iff_iff, form_allP, form_allP]
  constructor
  · intro h d hd; rw [← key d hd]; exact h d hd
  · intro h d hd; rw [key d hd]; exact h d hd
theorem give_with {L x n : Nat} {y : Int} {cs : List (List Int)} (hc : ∀ c ∈ cs, isClause (L : Int) c = true) (hx1 : 1 ≤ x) (hx2 : x ≤ L) (hy : IsLet x y) (ht : litN L n y = true) :
    formTrue (valuesN L n) (giveTo [y] cs cs.length) = formTrue (valuesN L n) cs := by
  have hyl : 0 < absI y ∧ absI y ≤ (L : Int) := by rw [hy.abs]; omega
  rw [Bool.eq_iff_iff, form_allP, form_allP]
  constructor
  · intro h c hcm
    cases hd : giveDone [y] c with
    | true => exact clause_litN.2 ⟨y, done_one.1 hd, ht⟩
    | false =>
      obtain ⟨z, hz, hzt⟩ := clause_litN.1 (h _ (give_mem.2 ⟨c, hcm, hd, rfl⟩))
      exact clause_litN.2 ⟨z, (rest_one.1 hz).1, hzt⟩
  · intro h d hd
    obtain ⟨c, hcm, hdn, rfl⟩ := give_mem.1 hd
    obtain ⟨z, hz, hzt⟩ := clause_litN.1 (h c hcm)
    refine clause_litN.2 ⟨z, rest_one.2 ⟨hz, fun e => ?_⟩, hzt⟩
    rw [e, litN_neg hyl.1 hyl.2, ht] at hzt; cases hzt
/-- the form with one more clause of one literal -/
theorem form_snoc {bs : List Bool} {cs : List (List Int)} {c : List Int} : formTrue bs (cs ++ [c]) = (formTrue bs cs && clauseTrue bs c) := by
  rw [Bool.eq_iff_iff, Bool.and_eq_true, form_allP, form_allP]
  constructor
  · intro h; exact ⟨fun d hd => h d (List.mem_append_left _ hd), h c (List.mem_append_right _ (List.mem_singleton.2 rfl))⟩
  · rintro ⟨h1, h2⟩ d hd
    rcases List.mem_append.1 hd with hd | hd
    · exact h1 d hd
    · rw [List.mem_singleton.1 hd]; exact h2
theorem clause_one {L n : Nat} {y : Int} : clauseTrue (valuesN L n) [y] = litN L n y := by
  rw [Bool.eq_iff_iff, clause_litN]
  constructor
  · rintro ⟨z, hz, h⟩; rw [List.mem_singleton] at hz; rw [← hz]; exact h
  · intro h; exact ⟨y, List.mem_singleton.2 rfl, h⟩
theorem give_count {L x : Nat} {y : Int} {cs : List (List Int)} (hc : ∀ c ∈ cs, isClause (L : Int) c = true) (hx1 : 1 ≤ x) (hx2 : x ≤ L) (hy : IsLet x y) :
    countN L (giveTo [y] cs cs.length) (2 ^ L) = 2 * countN L (cs ++ [[y]]) (2 ^ L) := by
  have hyl : 0 < absI y ∧ absI y ≤ (L : Int) := by rw [hy.abs]; omega
  have e1 := count_half (g := fun n => formTrue (valuesN L n) (giveTo [y] cs cs.length)) (b := fun n => litN L n y) hx1 hx2 (fun n hn => give_same hc hx1 hx2 hy)
    (fun n hn => by rw [litN_flip hx1 hx2 hyl.1 hyl.2, hy.abs, decide_eq_true rfl]; cases litN L n y <;> rfl)
  show (List.range (2 ^ L)).countP _ = 2 * (List.range (2 ^ L)).countP _
  rw [e1]
  congr 1
  refine count_congr fun n hn => ?_
  rw [form_snoc, clause_one]
  cases ht : litN L n y with
  | true => rw [give_with hc hx1 hx2 hy ht]
  | false => rw [Bool.and_false, Bool.and_false]
/-! ### units -/
theorem rest_false {L n : Nat} {kn c : List Int} (hl : ∀ y ∈ c, 0 < absI y ∧ absI y ≤ (L : Int)) (hk : ∀ z ∈ kn, litN L n z = true) {y : Int} (hy : y ∈ c) (hr : y ∉ giveRest kn c) : litN L n y = false := by
  have h1 : hasI kn (-y) = true := by
    cases h : hasI kn (-y) with
    | true => rfl
    | false => exact absurd (List.mem_filter.2 ⟨hy, by rw [h]; rfl⟩) hr
  have h2 := hk _ ((hasI_iff _ _).1 h1)
  rw [litN_neg (hl y hy).1 (hl y hy).2] at h2
  cases h3 : litN L n y with
  | false => rfl
  | true => rw [h3] at h2; cases h2
theorem units_sound {L n : Nat} {cs : List (List Int)} (hc : ∀ c ∈ cs, isClause (L : Int) c = true) (hm : formTrue (valuesN L n) cs = true) :
    ∀ (m : Nat) (kn by_ : List Int), (∀ z ∈ kn, litN L n z = true) → (unitsGo cs m kn by_).wrong < 0 ∧ ∀ z ∈ (unitsGo cs m kn by_).known, litN L n z = true := by
  have hl : ∀ c ∈ cs, ∀ z ∈ c, 0 < absI z ∧ absI z ≤ (L : Int) := fun c h => lits_of_clause rfl (hc c h)
  rw [form_allP] at hm
  intro m
  induction m with
  | zero => intro kn by_ hk; exact ⟨by show (-1 : Int) < 0; decide, hk⟩
  | succ m ih =>
    intro kn by_ hk
    obtain ⟨s1, s2⟩ := scan_spec kn cs cs.length 0 (-1) 0 (by omega) (.inl (by omega))
    rw [unitsGo]
    have hneg : ¬ 0 ≤ (scanU kn cs cs.length 0 (-1) 0).1 := by
      rcases s1 with s1 | ⟨j, hj, s1, s3, s4⟩
      · rw [s1]; decide
      · exfalso
        obtain ⟨y, hy, hyt⟩ := clause_litN.1 (hm _ (List.getElem_mem hj))
        have := rest_false (hl _ (List.getElem_mem hj)) hk hy (by rw [s4]; exact List.not_mem_nil)
        rw [this] at hyt; cases hyt
    rw [if_neg hneg]
    split
    · exact ⟨by show (-1 : Int) < 0; decide, hk⟩
    · rename_i h4
      rcases s2 with ⟨s2, _⟩ | ⟨j, e, hj, hd, hr⟩
      · exact absurd s2 h4
      · refine ih _ _ fun z hz => ?_
        rcases List.mem_append.1 hz with hz | hz
        · exact hk z hz
        · rw [List.mem_singleton.1 hz]
          obtain ⟨y, hy, hyt⟩ := clause_litN.1 (hm _ (List.getElem_mem hj))
          by_cases hyr : y ∈ giveRest kn cs[j]
          · rw [hr, List.mem_singleton] at hyr; rw [← hyr]; exact hyt
          · rw [rest_false (hl _ (List.getElem_mem hj)) hk hy hyr] at hyt; cases hyt
theorem units_pre {cs : List (List Int)} : ∀ (m : Nat) (kn by_ : List Int), kn <+: (unitsGo cs m kn by_).known := by
  intro m
  induction m with
  | zero => intro kn by_; exact List.prefix_refl _
  | succ m ih =>
    intro kn by_
    rw [unitsGo]
    split
    · exact List.prefix_refl _
    · split
      · exact List.prefix_refl _
      · exact (List.prefix_append _ _).trans (ih _ _)
/-! ### pure literals -/
theorem pure_mem {cs : List (List Int)} : ∀ (k : Nat) (x : Int) (y : Int), y ∈ pureFrom cs x k → ∃ i, i < k ∧ (y = x + (i : Nat) ∨ y = -(x + (i : Nat))) ∧ hasAny cs (-y) = false := by
  intro k
  induction k with
  | zero => intro x y h; simp [pureFrom] at h
  | succ k ih =>
    intro x y h
    rw [pureFrom, List.mem_append] at h
    rcases h with h | h
    · refine ⟨0, by omega, ?_⟩
      unfold pureOf at h
      split at h
      · rename_i h1
        rw [Bool.and_eq_true, Bool.not_eq_true'] at h1
        rw [List.mem_singleton] at h
        subst h
        exact ⟨.inl (by omega), h1.2⟩
      · split at h
        · rename_i h1
          rw [Bool.and_eq_true, Bool.not_eq_true'] at h1
          rw [List.mem_singleton] at h
          subst h
          exact ⟨.inr (by omega), by rw [Int.neg_neg]; exact h1.2⟩
        · simp at h
    · obtain ⟨i, hi, h1, h2⟩ := ih (x + 1) y h
      exact ⟨i + 1, by omega, by rcases h1 with h1 | h1 <;> omega, h2⟩
theorem pure_count {L x : Nat} {y : Int} {cs : List (List Int)} (hc : ∀ c ∈ cs, isClause (L : Int) c = true) (hx1 : 1 ≤ x) (hx2 : x ≤ L) (hy : IsLet x y) (hp : hasAny cs (-y) = false) :
    0 < countN L (cs ++ [[y]]) (2 ^ L) ↔ 0 < countN L cs (2 ^ L) := by
  have hl : ∀ c ∈ cs, ∀ z ∈ c, 0 < absI z ∧ absI z ≤ (L : Int) := fun c h => lits_of_clause rfl (hc c h)
  have hyl : 0 < absI y ∧ absI y ≤ (L : Int) := by rw [hy.abs]; omega
  have hno : ∀ c ∈ cs, -y ∉ c := by
    intro c hcm h
    have : hasAny cs (-y) = true := by unfold hasAny; rw [List.any_eq_true]; exact ⟨c, hcm, (hasI_iff _ _).2 h⟩
    rw [this] at hp; cases hp
  rw [countN_pos, countN_pos]
  constructor
  · rintro ⟨n, hn, h⟩
    rw [form_snoc, Bool.and_eq_true] at h
    exact ⟨n, hn, h.1⟩
  · rintro ⟨n, hn, h⟩
    cases ht : litN L n y with
    | true => exact ⟨n, hn, by rw [form_snoc, clause_one, h, ht]; rfl⟩
    | false =>
      refine ⟨flip L x n, flip_lt hx1 hx2 hn, ?_⟩
      have hf : litN L (flip L x n) y = true := by rw [litN_flip hx1 hx2 hyl.1 hyl.2, hy.abs, decide_eq_true rfl, ht]; rfl
      rw [form_snoc, clause_one, hf, Bool.and_true, form_allP]
      rw [form_allP] at h
      intro c hcm
      obtain ⟨z, hz, hzt⟩ := clause_litN.1 (h c hcm)
      refine clause_litN.2 ⟨z, hz, ?_⟩
      rw [litN_same hx1 hx2 (hl c hcm z hz) (fun e => ?_)]; exact hzt
      have hzy : z ≠ y := fun q => by rw [q, ht] at hzt; cases hzt
      have hzn : z ≠ -y := fun q => hno c hcm (by rw [← q]; exact hz)
      rcases absI_cases e with h1 | h1 <;> rcases hy with h2 | h2 <;> omega
/-! ### what FnClauses compares -/
theorem valid_one {L x : Nat} {y : Int} {cs : List (List Int)} (hv : validForm ⟨(L : Int), cs⟩ = true) (hx1 : 1 ≤ x) (hx2 : x ≤ L) (hy : IsLet x y) (h9 : cs.length ≤ 9) : validForm ⟨(L : Int), cs ++ [[y]]⟩ = true := by
  obtain ⟨h1, h2, h3⟩ := validForm_bounds hv
  simp only at h1 h2 h3
  unfold validForm
  simp only
  have hin : inB 1 10 (L : Int) = true := by unfold inB; rw [decide_eq_true h1.1, decide_eq_true h1.2]; rfl
  rw [hin, decide_eq_true (show (cs ++ [[y]]).length ≤ 48 by simp; omega), List.all_append, List.all_eq_true.2 h3]
  have : isClause (L : Int) [y] = true := by
    refine clause_of_ris hin (fun z hz => ?_) (List.pairwise_singleton _ _)
    rw [List.mem_singleton] at hz
    subst hz
    exact isLit_iff.2 (by rcases hy with rfl | rfl <;> omega)
  simp [this]
theorem count_val {L : Nat} {cs : List (List Int)} (hv : validForm ⟨(L : Int), cs⟩ = true) : countModels ⟨(L : Int), cs⟩ = (((countN L cs (2 ^ L) : Nat) : Int), true) := by
  unfold countModels; rw [hv]; rfl
theorem countN_le5 {L : Nat} (h : L ≤ 5) (cs : List (List Int)) : countN L cs (2 ^ L) ≤ 32 := by
  have h1 := countN_le L cs (2 ^ L)
  have h2 : 2 ^ L ≤ 2 ^ 5 := Nat.pow_le_pow_right (by decide) h
  omega
theorem small_few {cs : List (List Int)} {n : Nat} (h1 : cs.length ≤ n) (hn : n ≤ 10) (h2 : ∀ c ∈ cs, c.length ≤ 3) : SmallII cs := by
  have := sum_le h2
  exact ⟨by omega, by omega⟩
structure ThinOk (L : Nat) (cs : List (List Int)) (T : List (List Int)) : Prop where
  eq : thinForm ⟨(L : Int), cs⟩ = (⟨(L : Int), T⟩, true)
  len : T.length ≤ cs.length
  small : SmallII T
  cnt : countModels ⟨(L : Int), T⟩ = countModels ⟨(L : Int), cs⟩
theorem thinOk {L : Nat} {cs : List (List Int)} (hv : validForm ⟨(L : Int), cs⟩ = true) (h9 : cs.length ≤ 9) (h3 : ∀ c ∈ cs, c.length ≤ 3) : ∃ T, ThinOk L cs T := by
  obtain ⟨b1, b2, b3⟩ := validForm_bounds hv
  simp only at b1 b2 b3
  have hsub : ∀ c ∈ thinTo cs cs.length, c ∈ cs := by
    intro c hcm
    unfold thinTo at hcm
    rw [List.mem_map] at hcm
    obtain ⟨i, hi, rfl⟩ := hcm
    have hi' := List.mem_range.1 (List.mem_filter.1 hi).1
    rw [getD_get hi']
    exact List.getElem_mem hi'
  have hlen := thinTo_len cs cs.length
  have hvT : validForm ⟨(L : Int), thinTo cs cs.length⟩ = true := by
    unfold validForm
    simp only
    rw [show inB 1 10 (L : Int) = true by (unfold inB; rw [decide_eq_true b1.1, decide_eq_true b1.2]; rfl), decide_eq_true (show (thinTo cs cs.length).length ≤ 48 by omega), List.all_eq_true.2 (fun c hc => b3 c (hsub c hc))]
    rfl
  refine ⟨thinTo cs cs.length, by unfold thinForm; rw [hv]; rfl, hlen, small_few (n := 9) (by omega) (by omega) (fun c hc => h3 c (hsub c hc)), ?_⟩
  rw [count_val hv, count_val hvT]
  have : countN L (thinTo cs cs.length) (2 ^ L) = countN L cs (2 ^ L) := count_congr fun n _ => thin_same b3
  rw [this]
theorem leaveOk {L x : Nat} {cs : List (List Int)} (hv : validForm ⟨(L : Int), cs⟩ = true) (hx1 : 1 ≤ x) (hx2 : x ≤ L) (h5 : L ≤ 5) :
    (leaveF ⟨(L : Int), cs⟩ (x : Int)).2 = false ∨ ∃ (T : List (List Int)) (s : Nat), leaveF ⟨(L : Int), cs⟩ (x : Int) = (⟨(L : Int), T⟩, true) ∧ SmallII T ∧ s ≤ 32 ∧ countModels ⟨(L : Int), T⟩ = (((2 * s : Nat) : Int), true) ∧ countOn ⟨(L : Int), cs⟩ (others L x) = ((s : Int), true) := by
  obtain ⟨b1, b2, b3⟩ := validForm_bounds hv
  simp only at b1 b2 b3
  have hin : (validForm ⟨(L : Int), cs⟩ && inB 1 (L : Int) (x : Int)) = true := by
    rw [hv]; unfold inB; rw [decide_eq_true (by omega), decide_eq_true (by omega)]; rfl
  rw [leave_yes hin]
  unfold checkedF
  simp only
  split
  · rename_i hvT
    right
    have hon : onGo (L : Int) 0 (others L x) = true := chosen_on _ L L (Nat.le_refl _)
    have hfs : freshN (onModels L cs) (onKey L (others L x)) (2 ^ L) ≤ 32 := by
      have h1 := fresh_le (onModels L cs) (onKey L (others L x)) (2 ^ L)
      have h2 := countN_le5 h5 cs
      exact Nat.le_trans h1 h2
    have hfew := all_few (x := (x : Int)) (cs := cs) (L := (L : Int)) (by omega) b2 b3
    refine ⟨_, _, rfl, ⟨Nat.le_trans hfew.1 (by decide), by have := hfew.sum (by decide); omega⟩, hfs, ?_, countOn_valid hv hon rfl⟩
    rw [count_val hvT, leave_count b3 hx1 hx2]
  · left; rfl
structure GiveOk (L : Nat) (cs : List (List Int)) (y : Int) (T : List (List Int)) (U : List Int) (wr : Bool) (s : Nat) : Prop where
  give : giveForm ⟨(L : Int), cs⟩ [y] = (⟨(L : Int), T⟩, true)
  small : SmallII T
  units : unitsOfF ⟨(L : Int), cs⟩ [y] = (U, wr, true)
  fst : ∃ r, U = y :: r
  cnt : countModels ⟨(L : Int), T⟩ = (((2 * s : Nat) : Int), true)
  both : countModels ⟨(L : Int), cs ++ [[y]]⟩ = ((s : Int), true)
  wrong : wr = true → s = 0
  le : s ≤ 32
theorem giveOk {L x : Nat} {y : Int} {cs : List (List Int)} (hv : validForm ⟨(L : Int), cs⟩ = true) (hx1 : 1 ≤ x) (hx2 : x ≤ L) (h5 : L ≤ 5) (hy : IsLet x y) (h9 : cs.length ≤ 9) (h3 : ∀ c ∈ cs, c.length ≤ 3) : ∃ T U wr s, GiveOk L cs y T U wr s := by
  obtain ⟨b1, b2, b3⟩ := validForm_bounds hv
  simp only at b1 b2 b3
  have hlit : litsGo (L : Int) [] [y] = true := by
    have : isLit (L : Int) y = true := isLit_iff.2 (by rcases hy with rfl | rfl <;> omega)
    simp [litsGo, this]
  have hok : (validForm ⟨(L : Int), cs⟩ && litsGo (L : Int) [] [y]) = true := by rw [hv, hlit]; rfl
  have hrl : ∀ d ∈ giveTo [y] cs cs.length, d.length ≤ 3 ∧ isClause (L : Int) d = true := by
    intro d hd
    obtain ⟨c, hcm, _, rfl⟩ := give_mem.1 hd
    have hl := List.length_filter_le (fun z => !hasI [y] (-z)) c
    refine ⟨Nat.le_trans hl (h3 c hcm), ?_⟩
    exact clause_of_ris (clause_in (b3 c hcm)) (fun z hz => clause_lits (b3 c hcm) z (List.mem_filter.1 hz).1) ((clause_ris (b3 c hcm)).sublist List.filter_sublist)
  have hlen := giveTo_len [y] cs cs.length
  have hvT : validForm ⟨(L : Int), giveTo [y] cs cs.length⟩ = true := by
    unfold validForm
    simp only
    rw [show inB 1 10 (L : Int) = true by (unfold inB; rw [decide_eq_true b1.1, decide_eq_true b1.2]; rfl), decide_eq_true (show (giveTo [y] cs cs.length).length ≤ 48 by omega), List.all_eq_true.2 (fun c hc => (hrl c hc).2)]
    rfl
  refine ⟨giveTo [y] cs cs.length, _, _, countN L (cs ++ [[y]]) (2 ^ L), by unfold giveForm; simp only; rw [hok]; rfl, small_few (n := 9) (by omega) (by omega) (fun c hc => (hrl c hc).1), unitsOf_yes hok, ?_, ?_, count_val (valid_one hv hx1 hx2 hy h9), ?_, countN_le5 h5 _⟩
  · obtain ⟨r, hr⟩ := units_pre (cs := cs) (11 - [y].length) [y] (List.replicate [y].length (-1))
    exact ⟨r, hr.symm⟩
  · rw [count_val hvT, give_count b3 hx1 hx2 hy]
  · intro hw
    rw [decide_eq_true_eq] at hw
    apply Nat.eq_zero_of_not_pos
    intro hpos
    obtain ⟨n, hn, hm⟩ := (countN_pos L (cs ++ [[y]]) (2 ^ L)).1 hpos
    rw [form_snoc, Bool.and_eq_true, clause_one] at hm
    have := (units_sound b3 hm.1 (11 - [y].length) [y] (List.replicate [y].length (-1)) (fun z hz => by rw [List.mem_singleton] at hz; rw [hz]; exact hm.2)).1
    have hw' : 0 ≤ (unitsGo cs (11 - [y].length) [y] (List.replicate [y].length (-1))).wrong := hw
    omega
theorem pureOk {L : Nat} {cs : List (List Int)} (hv : validForm ⟨(L : Int), cs⟩ = true) (h9 : cs.length ≤ 9) (h5 : L ≤ 5) : ∃ P : List Int, pureIn ⟨(L : Int), cs⟩ = (P, true) ∧ P.length ≤ 1048576 ∧
    ∀ y ∈ P, I64 y ∧ ∃ s : Nat, s ≤ 32 ∧ countModels ⟨(L : Int), cs ++ [[y]]⟩ = ((s : Int), true) ∧ (0 < s ↔ 0 < countN L cs (2 ^ L)) := by
  obtain ⟨b1, b2, b3⟩ := validForm_bounds hv
  simp only at b1 b2 b3
  refine ⟨pureFrom cs 1 L, by unfold pureIn; rw [hv]; rfl, ?_, fun y hy => ?_⟩
  · have hl : ∀ (k : Nat) (x : Int), (pureFrom cs x k).length ≤ k := by
      intro k
      induction k with
      | zero => intro x; exact Nat.le_refl _
      | succ k ih =>
        intro x
        rw [pureFrom, List.length_append]
        have h1 : (pureOf cs x).length ≤ 1 := by unfold pureOf; split; exact Nat.le_refl _; split; exact Nat.le_refl _; exact Nat.zero_le _
        have := ih (x + 1)
        omega
    have := hl L 1
    omega
  · obtain ⟨i, hi, h1, h2⟩ := pure_mem _ _ _ hy
    have hlet : IsLet (i + 1) y := by
      rcases h1 with h1 | h1
      · exact .inl (by omega)
      · exact .inr (by omega)
    refine ⟨by rcases hlet with h | h <;> constructor <;> omega, _, countN_le5 h5 _, count_val (valid_one hv (by omega) (by omega) hlet h9), pure_count b3 (by omega) (by omega) hlet h2⟩
end Go.Proofs.Ytcpbgjnijhcpkaa

namespace Go.Proofs.Ytcpbgjnijhcpkaa
open Go.RowKit
set_option linter.unusedVariables false
set_option maxRecDepth 100000

theorem giveRest_nil_mem {kn c : List Int} (h : giveRest kn c = []) {l : Int} (hl : l ∈ c) : -l ∈ kn := by
  rw [giveRest, List.filter_eq_nil_iff] at h
  have h1 := h l hl
  rw [← hasI_iff]
  simpa using h1
theorem giveRest_one_mem {kn c : List Int} {y : Int} (h : giveRest kn c = [y]) {l : Int} (hl : l ∈ c) (hn : l ≠ y) : -l ∈ kn := by
  rw [← hasI_iff]
  refine Classical.byContradiction fun hh => hn ?_
  have h1 : l ∈ giveRest kn c := by
    rw [giveRest, List.mem_filter]
    exact ⟨hl, by simpa using hh⟩
  rw [h] at h1
  simpa using h1
/-- the reasons of what is known -/
structure UnitsWhy (cs : List (List Int)) (U : UnitD) : Prop where
  why : ∀ k, k < U.known.length → 0 ≤ U.why.getD k 0 → ∀ l ∈ cs.getD (U.why.getD k 0).toNat [], l ≠ U.known.getD k 0 → -l ∈ U.known
  wrong : 0 ≤ U.wrong → ∀ l ∈ cs.getD U.wrong.toNat [], -l ∈ U.known
theorem getD_app {α : Type} (a b : List α) (k : Nat) (d : α) (h : k < a.length) : (a ++ b).getD k d = a.getD k d := by
  simp only [List.getD, List.getElem?_append_left h]
theorem getD_app_last {α : Type} (a : List α) (x d : α) : (a ++ [x]).getD a.length d = x := by simp [List.getD]
theorem unitsGo_why {L : Int} {cs : List (List Int)} (hcl : ∀ c ∈ cs, ∀ x ∈ c, isLit L x = true) : ∀ (n : Nat) (kn by_ : List Int), by_.length = kn.length →
    (∀ k, k < kn.length → 0 ≤ by_.getD k 0 → ∀ l ∈ cs.getD (by_.getD k 0).toNat [], l ≠ kn.getD k 0 → -l ∈ kn) → UnitsWhy cs (unitsGo cs n kn by_) := by
  intro n
  induction n with
  | zero => intro kn by_ h1 h2; exact ⟨h2, fun h => absurd h (show ¬ (0 : Int) ≤ -1 by decide)⟩
  | succ n ih =>
    intro kn by_ h1 h2
    obtain ⟨s1, s2⟩ := scan_spec kn cs cs.length 0 (-1) 0 (by omega) (.inl (by omega))
    rw [unitsGo]
    split
    · rename_i h0
      refine ⟨h2, fun _ l hl => ?_⟩
      rcases s1 with s1 | ⟨j, hj, s1, s3, s4⟩
      · rw [s1] at h0; omega
      · have hl' : l ∈ cs.getD (scanU kn cs cs.length 0 (-1) 0).1.toNat [] := hl
        rw [s1, Int.toNat_natCast, getD_get hj] at hl'
        exact giveRest_nil_mem s4 hl'
    · split
      · exact ⟨h2, fun h => absurd h (show ¬ (0 : Int) ≤ -1 by decide)⟩
      · rename_i h4
        rcases s2 with ⟨s2, _⟩ | ⟨j, e, hj, hd, hr⟩
        · exact absurd s2 h4
        · refine ih _ _ (by simp [h1]) fun k hk hw l hl hne => ?_
          rw [List.length_append] at hk
          by_cases hkl : k < kn.length
          · rw [getD_app _ _ _ _ (by omega)] at hw hl
            rw [getD_app _ _ _ _ hkl] at hne
            exact List.mem_append.2 (.inl (h2 k hkl hw l hl hne))
          · have hk2 : k = kn.length := by simp at hk; omega
            rw [hk2, getD_app_last] at hne
            rw [hk2, ← h1, getD_app_last, e, Int.toNat_natCast, getD_get hj] at hl
            exact List.mem_append.2 (.inl (giveRest_one_mem hr hl hne))
theorem replicate_neg (n k : Nat) (h : k < n) : (List.replicate n (-1 : Int)).getD k 0 = -1 := by
  rw [List.getD_eq_getElem?_getD, List.getElem?_replicate, if_pos h]; rfl
theorem unitsF_why {L : Int} {cs : List (List Int)} {g : List Int} (hcl : ∀ c ∈ cs, ∀ x ∈ c, isLit L x = true) : UnitsWhy cs (unitsF cs g) :=
  unitsGo_why hcl _ _ _ (by simp) fun k hk hw => by rw [replicate_neg _ _ hk] at hw; omega

/-! ### Where an element lies first -/
def posI : List Int → Int → Nat
  | [], _ => 0
  | y :: r, x => if y = x then 0 else posI r x + 1
theorem posI_spec {L : List Int} {x : Int} (h : x ∈ L) : posI L x < L.length ∧ L.getD (posI L x) 0 = x ∧ ∀ j, j < posI L x → L.getD j 0 ≠ x := by
  induction L with
  | nil => simp at h
  | cons y r ih =>
    rw [posI]
    split
    · rename_i e; subst e
      exact ⟨by simp, by simp [List.getD], fun j hj => by omega⟩
    · rename_i hne
      have h' : x ∈ r := by
        rcases List.mem_cons.1 h with e | h'
        · exact absurd e.symm hne
        · exact h'
      obtain ⟨h1, h2, h3⟩ := ih h'
      refine ⟨by simp; omega, by simpa [List.getD] using h2, fun j hj => ?_⟩
      cases j with
      | zero => simpa [List.getD] using hne
      | succ j => simpa [List.getD] using h3 j (by omega)
theorem Cons.getD_ne {L : Int} {kn : List Int} (h : Cons L kn) {i j : Nat} (hi : i < kn.length) (hj : j < kn.length) (hne : i ≠ j) : absI (kn.getD i 0) ≠ absI (kn.getD j 0) := by
  have e : ∀ k (hk : k < kn.length), kn.getD k 0 = kn[k] := fun k hk => by simp [List.getD, hk]
  rw [e i hi, e j hj]
  rcases Nat.lt_or_gt_of_ne hne with h1 | h1
  · exact List.pairwise_iff_getElem.1 h.2 i j hi hj h1
  · exact Ne.symm (List.pairwise_iff_getElem.1 h.2 j i hj hi h1)

/-! ### The literals that are looked at -/
def hasL (lk : List Int) (a : Int) : Bool := lk.any fun y => absI y == a
def learnAdd (x : Int) : List Int → List Int → List Int
  | lk, [] => lk
  | lk, l :: r => learnAdd x (if (l == -x) || hasI lk l then lk else lk ++ [l]) r
def learnGo (cs : List (List Int)) (U : UnitD) : Nat → Nat → List Int → List Int → List Int
  | 0, _, _, out => out
  | n + 1, i, lk, out =>
    if i < lk.length then
      if U.why.getD (posI U.known (-(lk.getD i 0))) 0 < 0 then learnGo cs U n (i + 1) lk (out ++ [lk.getD i 0])
      else learnGo cs U n (i + 1) (learnAdd (lk.getD i 0) lk (cs.getD (U.why.getD (posI U.known (-(lk.getD i 0))) 0).toNat [])) out
    else out
def learnOut (cs : List (List Int)) (U : UnitD) : List Int := learnGo cs U 11 0 (cs.getD U.wrong.toNat []) []
def learnF (f : FormD) (g : List Int) : List Int × Bool :=
  if validForm f && litsGo f.letters [] g then
    if (unitsF f.clauses g).wrong < 0 then ([], false) else (srtL (learnOut f.clauses (unitsF f.clauses g)), true)
  else ([], false)
structure LkOk (L : Int) (kn lk : List Int) : Prop where
  opp : ∀ l ∈ lk, -l ∈ kn
  cons : Cons L lk
theorem known_letter {L : Int} {kn : List Int} (h : Cons L kn) {x y : Int} (hx : -x ∈ kn) (hy : -y ∈ kn) (e : absI x = absI y) : x = y := by
  rcases (absI_eq x y).1 e with e | e
  · exact e
  · subst e
    exact absurd (show False from h.not_both hy hx) id
section
variable {L : Int} {kn lk : List Int}
theorem LkOk.snoc (hk : Cons L kn) (h : LkOk L kn lk) {l : Int} (hl : -l ∈ kn) (hn : hasI lk l = false) : LkOk L kn (lk ++ [l]) := by
  refine ⟨fun y hy => ?_, h.cons.snoc ?_ ((hasI_false _ _).1 hn) fun hm => ?_⟩
  · rcases List.mem_append.1 hy with hy | hy
    · exact h.opp y hy
    · rw [List.mem_singleton] at hy; rw [hy]; exact hl
  · have h1 := isLit_neg (hk.1 _ hl); rwa [Int.neg_neg] at h1
  · have h1 := h.opp _ hm
    exact hk.not_both hl h1
theorem LkOk.seen (hk : Cons L kn) (h : LkOk L kn lk) {l : Int} (hl : -l ∈ kn) : hasL lk (absI l) = hasI lk l := by
  have h1 : hasL lk (absI l) = true ↔ hasI lk l = true := by
    rw [hasI_iff, hasL, List.any_eq_true]
    constructor
    · rintro ⟨y, hy, e⟩
      have e' : absI y = absI l := by simpa using e
      rw [known_letter hk hl (h.opp y hy) e'.symm]; exact hy
    · intro hm; exact ⟨l, hm, by simp⟩
  cases h2 : hasI lk l
  · cases h3 : hasL lk (absI l)
    · rfl
    · rw [h1.1 h3] at h2; cases h2
  · exact h1.2 h2
end
/-- the clause that is looked through may be put behind -/
def OppOk (kn : List Int) (x : Int) (c : List Int) : Prop := ∀ l ∈ c, l ≠ -x → -l ∈ kn
theorem learnAdd_ok {L : Int} {kn : List Int} (hk : Cons L kn) {x : Int} (c : List Int) : ∀ lk, LkOk L kn lk → OppOk kn x c → LkOk L kn (learnAdd x lk c) := by
  induction c with
  | nil => intro lk h _; exact h
  | cons l r ih =>
    intro lk h ho
    rw [learnAdd]
    refine ih _ ?_ fun y hy => ho y (List.mem_cons_of_mem _ hy)
    split
    · exact h
    · rename_i hn
      have hn' : ((l == -x) || hasI lk l) = false := by simpa using hn
      rw [Bool.or_eq_false_iff] at hn'
      exact h.snoc hk (ho l (by simp) (by simpa using hn'.1)) hn'.2
theorem learnAdd_pre (x : Int) (c : List Int) : ∀ lk, ∃ t, learnAdd x lk c = lk ++ t := by
  induction c with
  | nil => intro lk; exact ⟨[], by simp [learnAdd]⟩
  | cons l r ih =>
    intro lk
    rw [learnAdd]
    obtain ⟨t, ht⟩ := ih (if (l == -x) || hasI lk l then lk else lk ++ [l])
    rw [ht]
    split
    · exact ⟨t, rfl⟩
    · exact ⟨l :: t, by simp⟩
/-- how it stands at a round -/
structure LearnInv (L : Int) (kn lk : List Int) (i : Nat) (out : List Int) : Prop where
  ok : LkOk L kn lk
  le : i ≤ lk.length
  sub : out.Sublist (lk.take i)
section
variable {L : Int} {kn lk out : List Int} {i : Nat}
theorem LearnInv.dist (h : LearnInv L kn lk i out) : Cons L out := ⟨fun x hx => h.ok.cons.1 x (List.mem_of_mem_take (h.sub.subset hx)), (h.ok.cons.2.sublist (List.take_sublist _ _)).sublist h.sub⟩
theorem LearnInv.take (h : LearnInv L kn lk i out) (hi : i < lk.length) : LearnInv L kn lk (i + 1) (out ++ [lk.getD i 0]) := by
  refine ⟨h.ok, hi, ?_⟩
  have e : lk.getD i 0 = lk[i] := by simp [List.getD, hi]
  rw [e, List.take_succ_eq_append_getElem hi]
  exact List.Sublist.append h.sub (List.Sublist.refl _)
theorem LearnInv.add (hk : Cons L kn) (h : LearnInv L kn lk i out) (hi : i < lk.length) {x : Int} {c : List Int} (ho : OppOk kn x c) : LearnInv L kn (learnAdd x lk c) (i + 1) out := by
  obtain ⟨t, ht⟩ := learnAdd_pre x c lk
  refine ⟨learnAdd_ok hk c lk h.ok ho, by rw [ht, List.length_append]; omega, ?_⟩
  rw [ht, List.take_append_of_le_length hi]
  rw [List.take_succ_eq_append_getElem hi]
  exact h.sub.trans (List.sublist_append_left _ _)
theorem LearnInv.fresh (h : LearnInv L kn lk i out) (hi : i < lk.length) : ∀ y ∈ out, absI y ≠ absI (lk.getD i 0) := by
  intro y hy
  obtain ⟨k, hk, e⟩ := List.mem_iff_getElem.1 (h.sub.subset hy)
  rw [List.length_take] at hk
  have e2 : y = lk.getD k 0 := by rw [← e, List.getElem_take]; simp [List.getD, show k < lk.length by omega]
  rw [e2]
  exact h.ok.cons.getD_ne (by omega) hi (by omega)
end
theorem learn_take {cs : List (List Int)} {U : UnitD} {i : Nat} {lk out : List Int} (h11 : lk.length ≤ 10) (hi : i < lk.length) (hw : U.why.getD (posI U.known (-(lk.getD i 0))) 0 < 0) :
    learnGo cs U (11 - i) i lk out = learnGo cs U (11 - (i + 1)) (i + 1) lk (out ++ [lk.getD i 0]) := by
  rw [show 11 - i = (11 - (i + 1)) + 1 by omega, learnGo, if_pos hi, if_pos hw]
theorem learn_add {cs : List (List Int)} {U : UnitD} {i : Nat} {lk out : List Int} (h11 : lk.length ≤ 10) (hi : i < lk.length) (hw : ¬ U.why.getD (posI U.known (-(lk.getD i 0))) 0 < 0) :
    learnGo cs U (11 - i) i lk out = learnGo cs U (11 - (i + 1)) (i + 1) (learnAdd (lk.getD i 0) lk (cs.getD (U.why.getD (posI U.known (-(lk.getD i 0))) 0).toNat [])) out := by
  rw [show 11 - i = (11 - (i + 1)) + 1 by omega, learnGo, if_pos hi, if_neg hw]
theorem learn_end {cs : List (List Int)} {U : UnitD} {n i : Nat} {lk out : List Int} (hi : ¬ i < lk.length) : learnGo cs U n i lk out = out := by
  cases n with
  | zero => rfl
  | succ n => rw [learnGo, if_neg hi]
theorem srtL_put {out : List Int} {x : Int} (hr : Dist out) (hf : ∀ y ∈ out, absI y ≠ absI x) : joinN (srtL out) x = (srtL (out ++ [x]), true) := by
  rw [joinN_no fun y hy => hf y ((srtL_mem out y).1 hy), srtL_snoc]
/-- the clause of a known literal that was not given -/
theorem why_clause {L : Int} {cs : List (List Int)} {g : List Int} {U : UnitD} (hu : UnitsOk L cs g U) (hy : UnitsWhy cs U) {x : Int} (hx : -x ∈ U.known) (h0 : ¬ U.why.getD (posI U.known (-x)) 0 < 0) :
    ∃ j, ∃ h : j < cs.length, U.why.getD (posI U.known (-x)) 0 = (j : Int) ∧ OppOk U.known x cs[j] := by
  obtain ⟨p1, p2, p3⟩ := posI_spec hx
  have hlt : posI U.known (-x) < U.why.length := by rw [hu.len]; exact p1
  have hm : U.why.getD (posI U.known (-x)) 0 ∈ U.why := by simp [List.getD, hlt]
  have hr := hu.why _ hm
  obtain ⟨j, hj⟩ := Int.eq_ofNat_of_zero_le (show 0 ≤ U.why.getD (posI U.known (-x)) 0 by omega)
  have hjl : j < cs.length := by omega
  refine ⟨j, hjl, hj, fun l hl hne => ?_⟩
  refine hy.why _ p1 (by omega) l ?_ (by rw [p2]; exact hne)
  rw [hj, Int.toNat_natCast, getD_get hjl]; exact hl
end Go.Proofs.Ytcpbgjnijhcpkaa

namespace Go.Proofs.Ytcpbgjnijhcpkaa
open Go.RowKit
set_option linter.unusedVariables false
set_option maxRecDepth 100000

theorem hasM_iff {L : Nat} {cs : List (List Int)} : hasM L cs = true ↔ ∃ n, n < 2 ^ L ∧ formTrue (valuesN L n) cs = true := by
  unfold hasM
  cases hf : firstFrom L cs 0 (2 ^ L) with
  | none =>
    refine ⟨fun h => (by cases h), ?_⟩
    rintro ⟨n, h1, h2⟩
    rw [(firstFrom_iff L cs (2 ^ L) 0).1 hf n (Nat.zero_le _) (by omega)] at h2; cases h2
  | some n =>
    obtain ⟨h1, h2, h3⟩ := (firstFrom_iff L cs (2 ^ L) 0).2 n hf
    exact ⟨fun _ => ⟨n, by omega, h3⟩, fun _ => rfl⟩
theorem hasM_count {L : Nat} {cs : List (List Int)} : hasM L cs = decide (0 < countN L cs (2 ^ L)) := by
  rw [Bool.eq_iff_iff, hasM_iff, decide_eq_true_eq, countN_pos]
theorem hasM_sub {L : Nat} {A B : List (List Int)} (h : ∀ c ∈ A, c ∈ B) (hB : hasM L B = true) : hasM L A = true := by
  obtain ⟨n, h1, h2⟩ := hasM_iff.1 hB
  rw [form_allP] at h2
  exact hasM_iff.2 ⟨n, h1, form_allP.2 fun c hc => h2 c (h c hc)⟩
theorem pick_sub {cs : List (List Int)} {A B : List Int} (h : ∀ x ∈ A, x ∈ B) : ∀ c ∈ pick cs A, c ∈ pick cs B := by
  intro c hc
  unfold pick at hc ⊢
  rw [List.mem_map] at hc ⊢
  obtain ⟨x, h1, h2⟩ := hc
  exact ⟨x, h x h1, h2⟩
theorem core_sub {L : Nat} {cs : List (List Int)} : ∀ (m i : Nat) (S : List Int), (coreGo L cs m i S).Sublist S := by
  intro m
  induction m with
  | zero => intro i S; exact List.Sublist.refl _
  | succ m ih =>
    intro i S
    rw [coreGo]
    refine (ih _ _).trans ?_
    split
    · exact List.Sublist.refl _
    · exact List.filter_sublist
theorem core_none {L : Nat} {cs : List (List Int)} : ∀ (m i : Nat) (S : List Int), hasM L (pick cs S) = false → hasM L (pick cs (coreGo L cs m i S)) = false := by
  intro m
  induction m with
  | zero => intro i S h; exact h
  | succ m ih =>
    intro i S h
    rw [coreGo]
    refine ih _ _ ?_
    split
    · exact h
    · rename_i h2; simpa using h2
theorem core_least {L : Nat} {cs : List (List Int)} : ∀ (m i : Nat) (S : List Int) (x : Nat), i ≤ x → x < i + m → (x : Int) ∈ coreGo L cs m i S → hasM L (pick cs ((coreGo L cs m i S).filter fun y => decide (y ≠ (x : Int)))) = true := by
  intro m
  induction m with
  | zero => intro i S x h1 h2 _; omega
  | succ m ih =>
    intro i S x h1 h2 hx
    rw [coreGo] at hx ⊢
    by_cases hxi : x = i
    · subst hxi
      have hin := (core_sub _ _ _).subset hx
      split at hin
      · rename_i hM
        rw [if_pos hM]
        refine hasM_sub (pick_sub fun y hy => ?_) hM
        rw [List.mem_filter] at hy ⊢
        exact ⟨(core_sub _ _ _).subset hy.1, hy.2⟩
      · rw [List.mem_filter] at hin
        simp at hin
    · exact ih _ _ x (by omega) (by omega) hx
/-- the clauses of a core but the one at place leave -/
def partTo (cs : List (List Int)) (core : List Int) (leave : Int) (k : Nat) : List (List Int) := ((List.range k).filter fun (i : Nat) => decide ((i : Int) ≠ leave)).map fun i => cs.getD (core.getD i 0).toNat []
theorem partTo_succ (cs : List (List Int)) (core : List Int) (leave : Int) (k : Nat) : partTo cs core leave (k + 1) = if (k : Int) = leave then partTo cs core leave k else partTo cs core leave k ++ [cs.getD (core.getD k 0).toNat []] := by
  unfold partTo
  rw [List.range_succ, List.filter_append, List.map_append]
  by_cases h : (k : Int) = leave
  · rw [if_pos h]; simp [h]
  · rw [if_neg h]; simp [h]
theorem partTo_len (cs : List (List Int)) (core : List Int) (leave : Int) (k : Nat) : (partTo cs core leave k).length ≤ k := by
  have := List.length_filter_le (fun (i : Nat) => decide ((i : Int) ≠ leave)) (List.range k)
  simpa [partTo] using this
structure CoreOk (L : Nat) (cs : List (List Int)) (core : List Int) : Prop where
  rng : ∀ i, i < core.length → 0 ≤ core.getD i 0 ∧ core.getD i 0 < (cs.length : Int)
  up : ∀ i, 0 < i → i < core.length → core.getD (i - 1) 0 < core.getD i 0
  len : core.length ≤ cs.length
  all : countN L (partTo cs core (-1) core.length) (2 ^ L) = 0
  less : ∀ j : Nat, j < core.length → 0 < countN L (partTo cs core (j : Int) core.length) (2 ^ L)
theorem coreOk {L : Nat} {cs : List (List Int)} (h : hasM L cs = false) : CoreOk L cs (coreOf L cs) := by
  obtain ⟨C, hC⟩ : ∃ C, C = coreOf L cs := ⟨_, rfl⟩
  have hsub : C.Sublist (ups cs.length) := by rw [hC]; exact core_sub _ _ _
  have hup : (ups cs.length).Pairwise (· < ·) := by
    unfold ups
    exact List.pairwise_map.2 (List.pairwise_lt_range.imp fun h => by omega)
  have hpw : C.Pairwise (· < ·) := hup.sublist hsub
  have hmem : ∀ x ∈ C, 0 ≤ x ∧ x < (cs.length : Int) := by
    intro x hx
    have := hsub.subset hx
    unfold ups at this
    rw [List.mem_map] at this
    obtain ⟨k, hk, rfl⟩ := this
    have := List.mem_range.1 hk
    omega
  have hg : ∀ i (hi : i < C.length), C.getD i 0 = C[i] := fun i hi => by simp [List.getD, hi]
  have hall : pick cs (ups cs.length) = cs := by
    unfold pick ups
    rw [List.map_map]
    refine List.ext_getElem (by simp) fun i h1 h2 => ?_
    simp [List.getD, h2]
  have hnone : hasM L (pick cs C) = false := by rw [hC]; exact core_none _ _ _ (by rw [hall]; exact h)
  rw [← hC]
  refine ⟨fun i hi => by rw [hg i hi]; exact hmem _ (List.getElem_mem hi), fun i h0 hi => ?_, by have := hsub.length_le; unfold ups at this; simpa using this, ?_, fun j hj => ?_⟩
  · rw [hg i hi, hg (i - 1) (by omega)]
    exact (List.pairwise_iff_getElem.1 hpw) (i - 1) i (by omega) hi (by omega)
  · apply Nat.eq_zero_of_not_pos
    intro hpos
    have h1 : hasM L (partTo cs C (-1) C.length) = true := by rw [hasM_count, decide_eq_true hpos]
    have h2 : hasM L (pick cs C) = true := by
      refine hasM_sub (fun c hc => ?_) h1
      unfold pick at hc
      rw [List.mem_map] at hc
      obtain ⟨x, hx, rfl⟩ := hc
      obtain ⟨i, hi, rfl⟩ := List.mem_iff_getElem.1 hx
      unfold partTo
      rw [List.mem_map]
      exact ⟨i, List.mem_filter.2 ⟨List.mem_range.2 hi, by rw [decide_eq_true_eq]; omega⟩, by rw [hg i hi]⟩
    rw [hnone] at h2; cases h2
  · have hx := hmem _ (List.getElem_mem hj)
    obtain ⟨x, hxe⟩ : ∃ x : Nat, C[j] = (x : Int) := ⟨C[j].toNat, by omega⟩
    have hxl : x < cs.length := by omega
    have hl : hasM L (pick cs (C.filter fun y => decide (y ≠ (x : Int)))) = true := by
      have := core_least cs.length 0 (ups cs.length) x (Nat.zero_le _) (by omega) (by
        show (x : Int) ∈ coreOf L cs
        rw [← hC, ← hxe]; exact List.getElem_mem hj)
      rw [hC]; exact this
    have h1 : hasM L (partTo cs C (j : Int) C.length) = true := by
      refine hasM_sub (fun c hc => ?_) hl
      unfold partTo at hc
      rw [List.mem_map] at hc
      obtain ⟨i, hi, rfl⟩ := hc
      rw [List.mem_filter, List.mem_range, decide_eq_true_eq] at hi
      unfold pick
      rw [List.mem_map]
      refine ⟨C[i], List.mem_filter.2 ⟨List.getElem_mem hi.1, ?_⟩, by rw [hg i hi.1]⟩
      rw [decide_eq_true_eq, ← hxe]
      intro e
      rcases Nat.lt_trichotomy i j with h3 | h3 | h3
      · have := (List.pairwise_iff_getElem.1 hpw) i j hi.1 hj h3; omega
      · exact hi.2 (by omega)
      · have := (List.pairwise_iff_getElem.1 hpw) j i hj hi.1 h3; omega
    rw [hasM_count, decide_eq_true_eq] at h1
    exact h1
/-! ### what is learned -/
def WhyS (cs : List (List Int)) (kn by_ : List Int) : Prop := ∀ k, k < kn.length → 0 ≤ by_.getD k 0 → ∀ l ∈ cs.getD (by_.getD k 0).toNat [], l ≠ kn.getD k 0 → -l ∈ kn.take k
theorem units_whyS {L : Int} {cs : List (List Int)} : ∀ (n : Nat) (kn by_ : List Int), by_.length = kn.length → WhyS cs kn by_ → WhyS cs (unitsGo cs n kn by_).known (unitsGo cs n kn by_).why := by
  intro n
  induction n with
  | zero => intro kn by_ _ h; exact h
  | succ n ih =>
    intro kn by_ h1 h2
    obtain ⟨s1, s2⟩ := scan_spec kn cs cs.length 0 (-1) 0 (by omega) (.inl (by omega))
    rw [unitsGo]
    split
    · exact h2
    · split
      · exact h2
      · rename_i h4
        rcases s2 with ⟨s2, _⟩ | ⟨j, e, hj, hd, hr⟩
        · exact absurd s2 h4
        · refine ih _ _ (by simp [h1]) fun k hk hw l hl hne => ?_
          rw [List.length_append] at hk
          by_cases hkl : k < kn.length
          · rw [getD_app _ _ _ _ (by omega)] at hw hl
            rw [getD_app _ _ _ _ hkl] at hne
            rw [List.take_append_of_le_length (by omega)]
            exact h2 k hkl hw l hl hne
          · have hk2 : k = kn.length := by simp at hk; omega
            rw [hk2, getD_app_last] at hne
            rw [hk2, ← h1, getD_app_last, e, Int.toNat_natCast, getD_get hj] at hl
            rw [hk2, List.take_append_of_le_length (Nat.le_refl _), List.take_length]
            exact giveRest_one_mem hr hl hne
theorem pos_take {K : List Int} {x : Int} {k : Nat} (h : x ∈ K.take k) : posI K x < k := by
  have hx := List.mem_of_mem_take h
  obtain ⟨p1, p2, p3⟩ := posI_spec hx
  obtain ⟨j, hj, e⟩ := List.mem_iff_getElem.1 h
  rw [List.length_take] at hj
  rw [List.getElem_take] at e
  have hjK : j < K.length := by omega
  by_cases hlt : j < posI K x
  · have := p3 j hlt
    simp [List.getD, hjK, e] at this
  · omega
theorem learnAdd_mem {x : Int} : ∀ (c lk : List Int), (∀ y ∈ lk, y ∈ learnAdd x lk c) ∧ ∀ l ∈ c, l ≠ -x → l ∈ learnAdd x lk c := by
  intro c
  induction c with
  | nil => intro lk; exact ⟨fun y hy => hy, fun l hl => by simp at hl⟩
  | cons a r ih =>
    intro lk
    rw [learnAdd]
    obtain ⟨g1, g2⟩ := ih (if (a == -x) || hasI lk a then lk else lk ++ [a])
    refine ⟨fun y hy => g1 y ?_, fun l hl hne => ?_⟩
    · split
      · exact hy
      · exact List.mem_append_left _ hy
    · rcases List.mem_cons.1 hl with rfl | hl
      · apply g1
        split
        · rename_i h
          rw [Bool.or_eq_true, beq_iff_eq] at h
          rcases h with h | h
          · exact absurd h hne
          · exact (hasI_iff _ _).1 h
        · exact List.mem_append_right _ (List.mem_singleton.2 rfl)
      · exact g2 l hl hne
structure LearnDone (cs : List (List Int)) (U : UnitD) (C F out : List Int) : Prop where
  beg : ∀ x ∈ C, x ∈ F
  opp : ∀ x ∈ F, -x ∈ U.known
  why : ∀ x ∈ F, (U.why.getD (posI U.known (-x)) 0 < 0 ∧ x ∈ out) ∨ (0 ≤ U.why.getD (posI U.known (-x)) 0 ∧ ∀ l ∈ cs.getD (U.why.getD (posI U.known (-x)) 0).toNat [], l ≠ -x → l ∈ F)
theorem learn_done {L : Int} {cs : List (List Int)} {g : List Int} {U : UnitD} (hL : L ≤ 10) (hu : UnitsOk L cs g U) (hy : UnitsWhy cs U) (C : List Int) : ∀ (n i : Nat) (lk out : List Int), n + i = 11 → LearnInv L U.known lk i out → (∀ x ∈ C, x ∈ lk) →
    (∀ j, j < i → ∀ x, x = lk.getD j 0 → (U.why.getD (posI U.known (-x)) 0 < 0 ∧ x ∈ out) ∨ (0 ≤ U.why.getD (posI U.known (-x)) 0 ∧ ∀ l ∈ cs.getD (U.why.getD (posI U.known (-x)) 0).toNat [], l ≠ -x → l ∈ lk)) →
    ∃ F, LearnDone cs U C F (learnGo cs U n i lk out) ∧ Cons L (learnGo cs U n i lk out) := by
  intro n
  induction n with
  | zero => intro i lk out hn hI _ _; have h1 := hI.ok.cons.len hL; have := hI.le; omega
  | succ n ih =>
    intro i lk out hn hI hC hW
    by_cases hi : i < lk.length
    · have hxm : lk.getD i 0 ∈ lk := by simp [List.getD, hi]
      rw [learnGo, if_pos hi]
      split
      · rename_i hw
        refine ih (i + 1) lk _ (by omega) (hI.take hi) hC fun j hj x hx => ?_
        by_cases hji : j = i
        · subst hji
          rw [hx]
          exact .inl ⟨hw, List.mem_append_right _ (List.mem_singleton.2 rfl)⟩
        · rcases hW j (by omega) x hx with ⟨h1, h2⟩ | h1
          · exact .inl ⟨h1, List.mem_append_left _ h2⟩
          · exact .inr h1
      · rename_i hw
        obtain ⟨j0, hj0, hje, hop⟩ := why_clause hu hy (hI.ok.opp _ hxm) hw
        have ecl : cs.getD (U.why.getD (posI U.known (-(lk.getD i 0))) 0).toNat [] = cs[j0] := by rw [hje, Int.toNat_natCast, getD_get hj0]
        obtain ⟨m1, m2⟩ := learnAdd_mem (x := lk.getD i 0) (cs.getD (U.why.getD (posI U.known (-(lk.getD i 0))) 0).toNat []) lk
        obtain ⟨t, ht⟩ := learnAdd_pre (lk.getD i 0) (cs.getD (U.why.getD (posI U.known (-(lk.getD i 0))) 0).toNat []) lk
        refine ih (i + 1) _ out (by omega) (hI.add hu.cons hi (by rw [ecl]; exact hop)) (fun x hx => m1 x (hC x hx)) fun j hj x hx => ?_
        rw [ht, getD_app _ _ _ _ (by omega)] at hx
        by_cases hji : j = i
        · subst hji
          rw [hx]
          exact .inr ⟨by omega, m2⟩
        · rcases hW j (by omega) x hx with h1 | ⟨h1, h2⟩
          · exact .inl h1
          · exact .inr ⟨h1, fun l hl hne => m1 l (h2 l hl hne)⟩
    · rw [learnGo, if_neg hi]
      refine ⟨lk, ⟨hC, hI.ok.opp, fun x hx => ?_⟩, hI.dist⟩
      obtain ⟨j, hj, e⟩ := List.mem_iff_getElem.1 hx
      exact hW j (by omega) x (by rw [← e]; simp [List.getD, hj])
theorem learn_true {L : Nat} {cs : List (List Int)} {U : UnitD} {C F out : List Int} (hcl : ∀ c ∈ cs, isClause (L : Int) c = true) (hS : WhyS cs U.known U.why) (hD : LearnDone cs U C F out) (hl : ∀ x ∈ F, 0 < absI x ∧ absI x ≤ (L : Int)) (hw : ∀ b ∈ U.why, b < (cs.length : Int)) (hwl : U.why.length = U.known.length) {n : Nat} (hm : formTrue (valuesN L n) cs = true) :
    ∀ p x, x ∈ F → posI U.known (-x) = p → litN L n x = true → ∃ y ∈ out, litN L n y = true := by
  rw [form_allP] at hm
  intro p
  induction p using Nat.strongRecOn with
  | _ p ih =>
    intro x hx hp ht
    rcases hD.why x hx with ⟨_, h2⟩ | ⟨h1, h2⟩
    · exact ⟨x, h2, ht⟩
    · obtain ⟨p1, p2, _⟩ := posI_spec (hD.opp x hx)
      have hwm : U.why.getD (posI U.known (-x)) 0 ∈ U.why := by
        have : posI U.known (-x) < U.why.length := by omega
        simp [List.getD, this]
      have hwb := hw _ hwm
      obtain ⟨j, hj⟩ := Int.eq_ofNat_of_zero_le h1
      have hjl : j < cs.length := by omega
      have ecl : cs.getD (U.why.getD (posI U.known (-x)) 0).toNat [] = cs[j] := by rw [hj, Int.toNat_natCast, getD_get hjl]
      obtain ⟨l, hlm, hlt⟩ := clause_litN.1 (hm _ (List.getElem_mem hjl))
      have hne : l ≠ -x := fun e => by rw [e, litN_neg (hl x hx).1 (hl x hx).2, ht] at hlt; cases hlt
      have hlF := h2 l (by rw [ecl]; exact hlm) hne
      have htk := hS _ p1 h1 l (by rw [ecl]; exact hlm) (by rw [p2]; exact hne)
      exact ih _ (by rw [← hp]; exact pos_take htk) l hlF rfl hlt
theorem learn_facts {f : FormD} {L : Nat} {g : List Int} (hv : validForm f = true) (hL : f.letters = (L : Int)) (h : (learnF f g).2 = true) :
    isClause (L : Int) (learnF f g).1 = true ∧ (learnF f g).1.length ≤ 10 ∧ countN L (f.clauses ++ [(learnF f g).1]) (2 ^ L) = countN L f.clauses (2 ^ L) := by
  obtain ⟨b1, b2, b3⟩ := validForm_bounds hv
  have hin : inB 1 10 (L : Int) = true := by rw [← hL]; unfold inB; rw [decide_eq_true b1.1, decide_eq_true b1.2]; rfl
  have hL10 : (L : Int) ≤ 10 := (inB_true hin).2
  have hcl : ∀ c ∈ f.clauses, ∀ x ∈ c, isLit (L : Int) x = true := by rw [← hL]; exact valid_lits hv
  have hclC : ∀ c ∈ f.clauses, isClause (L : Int) c = true := by rw [← hL]; exact b3
  unfold learnF at h ⊢
  split at h
  · rename_i hok
    rw [if_pos hok]
    split at h
    · cases h
    · rename_i hw
      rw [if_neg hw]
      rw [Bool.and_eq_true] at hok
      have hg : Cons (L : Int) g := by rw [← hL]; exact cons_of_lits hok.2
      obtain ⟨U, hU⟩ : ∃ U, U = unitsF f.clauses g := ⟨_, rfl⟩
      have hu : UnitsOk (L : Int) f.clauses g U := by
        rw [hU]
        exact unitsGo_ok hL10 hcl _ _ _ hg (by simp) (fun b hb => by have := List.eq_of_mem_replicate hb; omega)
      have hy : UnitsWhy f.clauses U := by rw [hU]; exact unitsF_why hcl
      have hS : WhyS f.clauses U.known U.why := by
        rw [hU]
        exact units_whyS (L := (L : Int)) _ _ _ (by simp) fun k hk hw' => by rw [replicate_neg _ _ hk] at hw'; omega
      rw [← hU] at hw ⊢
      have hw0 : 0 ≤ U.wrong := by omega
      obtain ⟨jw, hjw, ejw, hdn, hrs⟩ : ∃ (j : Nat) (h : j < f.clauses.length), U.wrong = (j : Int) ∧ giveDone U.known f.clauses[j] = false ∧ giveRest U.known f.clauses[j] = [] := by
        rcases hu.wrong with h1 | h1
        · omega
        · exact h1
      have eC : f.clauses.getD U.wrong.toNat [] = f.clauses[jw] := by rw [ejw, Int.toNat_natCast, getD_get hjw]
      have hopp : ∀ l ∈ f.clauses[jw], -l ∈ U.known := fun l hl => hy.wrong hw0 l (by rw [eC]; exact hl)
      have hI : LearnInv (L : Int) U.known f.clauses[jw] 0 [] := ⟨⟨hopp, cons_clause (hclC _ (List.getElem_mem hjw))⟩, Nat.zero_le _, List.nil_sublist _⟩
      obtain ⟨F, hD, hCo⟩ := learn_done hL10 hu hy f.clauses[jw] 11 0 f.clauses[jw] [] (by omega) hI (fun x hx => hx) (fun j hj => by omega)
      have eO : learnOut f.clauses U = learnGo f.clauses U 11 0 f.clauses[jw] [] := by unfold learnOut; rw [eC]
      have hcls : isClause (L : Int) (srtL (learnOut f.clauses U)) = true := by
        rw [eO]
        exact clause_of_ris hin (fun x hx => hCo.1 x ((srtL_mem _ _).1 hx)) (srtL_ris hCo.2)
      refine ⟨hcls, ?_, ?_⟩
      · show (srtL (learnOut f.clauses U)).length ≤ 10
        rw [srtL_len, eO]; exact hCo.len hL10
      · refine count_congr fun n hn => ?_
        show formTrue (valuesN L n) (f.clauses ++ [srtL (learnOut f.clauses U)]) = _
        rw [form_snoc]
        cases hm : formTrue (valuesN L n) f.clauses with
        | false => rfl
        | true =>
          have hm' := form_allP.1 hm
          obtain ⟨x, hx, hxt⟩ := clause_litN.1 (hm' _ (List.getElem_mem hjw))
          have hFl : ∀ x ∈ F, 0 < absI x ∧ absI x ≤ (L : Int) := by
            intro x hx
            have h1 := isLit_iff.1 (hu.cons.1 _ (hD.opp x hx))
            unfold absI; split <;> omega
          obtain ⟨y, hy1, hy2⟩ := learn_true hclC hS hD hFl (fun b hb => (hu.why b hb).2) hu.len hm _ x (hD.beg x hx) rfl hxt
          have : clauseTrue (valuesN L n) (srtL (learnOut f.clauses U)) = true := clause_litN.2 ⟨y, (srtL_mem _ _).2 (by rw [eO]; exact hy1), hy2⟩
          rw [this]; rfl
  · cases h
end Go.Proofs.Ytcpbgjnijhcpkaa

